/- Functions of the library and small laws on lists that many proofs share. The check of an automaton, by the program and by the document. The document's check of an automaton. Runs of an automaton over a word: the program's and the document's. The state that a word leads to. Condition: none. -/
import Derived.Test.YtkchnhfeebkogaaIr
import Derived.Test.YtkchnhfeebkogaaAbL
set_option linter.all false
set_option maxRecDepth 100000
set_option maxHeartbeats 4000000
namespace Ab
noncomputable abbrev PC := PCx L
def idx {α : Type} (p : α → Bool) (xs : List α) : Int := match xs.findIdx? p with
  | some i => i
  | none => -1
theorem znoA {α : Type} [Inhabited α] {p : α → Bool} {xs : List α} {i : Int} (h0 : 0 ≤ i) (h1 : i < xs.length) (h : p (ix xs i) = true) (h2 : ∀ j, 0 ≤ j → j < i → p (ix xs j) = false) : idx p xs = i := by
  have e : xs.findIdx? p = some i.toNat := by
    rw [List.findIdx?_eq_some_iff_getElem]
    refine ⟨by omega, ?_, fun j hj => ?_⟩
    · rw [← zrZW (by omega), show ((i.toNat : Nat) : Int) = i by omega]; exact h
    · have := h2 j (by omega) (by omega)
      rw [zrZW (by omega)] at this
      simp [this]
  unfold idx; rw [e]; simp; omega
theorem z9nJ {α : Type} [Inhabited α] {p : α → Bool} {xs : List α} (h2 : ∀ j, 0 ≤ j → j < (xs.length : Int) → p (ix xs j) = false) : idx p xs = -1 := by
  have e : xs.findIdx? p = none := by
    rw [List.findIdx?_eq_none_iff]
    intro x hx
    obtain ⟨i, hi, rfl⟩ := List.mem_iff_getElem.1 hx
    rw [← zrZW hi]; exact h2 i (by omega) (by omega)
  unfold idx; rw [e]
theorem zwD6 {α : Type} {p : α → Bool} {xs : List α} : decide (0 ≤ idx p xs) = xs.any p := by
  unfold idx
  cases h : xs.findIdx? p with
  | none =>
    rw [List.findIdx?_eq_none_iff] at h
    simp
    intro x hx; simpa using h x hx
  | some i =>
    rw [List.findIdx?_eq_some_iff_getElem] at h
    obtain ⟨h1, h2, _⟩ := h
    simp
    exact ⟨_, List.getElem_mem h1, h2⟩
def firstN (f : Int → Int) (n : Int) : Int := (((List.range n.toNat).map fun i => f (i : Nat)).find? fun x => x != 0).getD 0
theorem zUdY {f : Int → Int} {n i : Int} (h0 : 0 ≤ i) (h1 : i < n) (h : f i ≠ 0) (h2 : ∀ j, 0 ≤ j → j < i → f j = 0) : firstN f n = f i := by
  have e : (((List.range n.toNat).map fun i => f (i : Nat)).find? fun x => x != 0) = some (f i) := by
    rw [List.find?_eq_some_iff_getElem]
    refine ⟨by simpa using h, i.toNat, by simp; omega, by simp; congr 1; omega, fun j hj => ?_⟩
    simp; exact h2 j (by omega) (by omega)
  unfold firstN; rw [e]; rfl
theorem zs2N {f : Int → Int} {n : Int} (h2 : ∀ j, 0 ≤ j → j < n → f j = 0) : firstN f n = 0 := by
  have e : (((List.range n.toNat).map fun i => f (i : Nat)).find? fun x => x != 0) = none := by
    rw [List.find?_eq_none]
    simp
    intro a ha; exact h2 a (by omega) (by omega)
  unfold firstN; rw [e]; rfl
theorem zdWJ {f : Int → Int} {n : Int} : firstN f n = 0 ↔ ∀ j, 0 ≤ j → j < n → f j = 0 := by
  constructor
  · intro h j h0 h1
    unfold firstN at h
    cases e : (((List.range n.toNat).map fun i => f (i : Nat)).find? fun x => x != 0) with
    | none =>
      rw [List.find?_eq_none] at e
      simp at e
      have := e j.toNat (by omega)
      rwa [show ((j.toNat : Nat) : Int) = j by omega] at this
    | some x =>
      have hx := List.find?_some e
      rw [e] at h; simp at h hx; exact absurd h hx
  · exact zs2N
theorem zvtS {P : Int → Prop} {i : Int} (h : P i) (h2 : ∀ j, 0 ≤ j → j < i → P j) : ∀ j, 0 ≤ j → j < i + 1 → P j := by
  intro j a b
  by_cases e : j = i
  · subst e; exact h
  · exact h2 j a (by omega)
theorem zguy {P : Int → Prop} : ∀ j, 0 ≤ j → j < (0 : Int) → P j := fun j a b => by omega
theorem zuE9 (xs : List Int) (f : Nat) (caps : List AV) (p : Int → Bool) (hl : (xs.length : Int) ≤ 9223372036854775807) (hc : noLocs caps = true)
    (hp : ∀ x ∈ xs, PC f (.int x :: caps.map wk) = some (.bool (p x))) : PC z2JZ [iL xs, .func f caps] = some (.int (idx p xs)) := by
  refine zx72 (zfZ8 rfl ?_)
  simp
  refine zv8C (fun i : Int => [(2, .int i)]) (fun _ => []) (fun i => 0 ≤ i ∧ i ≤ xs.length ∧ ∀ j, 0 ≤ j → j < i → p (ix xs j) = false) (fun i => (xs.length - i).toNat) 0 rfl (by simp; omega) fun i ⟨h0, h1, h2⟩ => ?_
  by_cases hi : i < xs.length
  · have hq := hp _ (zmAQ h0 hi)
    simp [hi, h0, hc, hq]
    exact ⟨fun h => (znoA h0 hi h h2).symm, fun h => ⟨by omega, ⟨by omega, by omega, zvtS h h2⟩, by omega⟩⟩
  · simp [hi]
    rw [z9nJ fun j a b => h2 j a (by omega)]
theorem zSG9 (xs : List Int) (f : Nat) (caps : List AV) (p : Int → Bool) (hl : (xs.length : Int) ≤ 9223372036854775807) (hc : noLocs caps = true) (hw : caps.map wk = caps)
    (hp : ∀ x ∈ xs, PC f (.int x :: caps) = some (.bool (p x))) : PC zc7Y [iL xs, .func f caps] = some (.bool (xs.any p)) := by
  refine zx72 (zfQo rfl ?_)
  simp [hc, hw, zuE9 xs f caps p hl hc (by rw [hw]; exact hp)]
  exact zwD6
def out1 (k x : Int) : Bool := decide (x < 0) || decide (k ≤ x)
theorem zyIb {k x : Int} : out1 k x = false ↔ 0 ≤ x ∧ x < k := by simp [out1]
def bad (xs : List Int) (k : Int) : Bool := xs.any (out1 k)
theorem bad_f {xs : List Int} {k : Int} : bad xs k = false ↔ ∀ x ∈ xs, 0 ≤ x ∧ x < k := by
  simp [bad, List.any_eq_false, out1]
theorem z1UL {xs : List Int} {k : Int} : bad xs k = false ↔ ∀ j, 0 ≤ j → j < (xs.length : Int) → 0 ≤ ix xs j ∧ ix xs j < k := by
  rw [bad_f]
  constructor
  · exact fun h j a b => h _ (zmAQ a b)
  · intro h x hx
    obtain ⟨i, hi, rfl⟩ := List.mem_iff_getElem.1 hx
    rw [← zrZW hi]; exact h i (by omega) (by omega)
theorem bad_t {xs : List Int} {k j : Int} (h0 : 0 ≤ j) (h1 : j < xs.length) (h : out1 k (ix xs j) = true) : bad xs k = true := by
  cases hb : bad xs k with
  | true => rfl
  | false => rw [zyIb.2 (z1UL.1 hb j h0 h1)] at h; exact h
theorem bad_n {xs : List Int} {k : Int} (h : ∀ j, 0 ≤ j → j < (xs.length : Int) → out1 k (ix xs j) = false) : bad xs k = false :=
  z1UL.2 fun j a b => zyIb.1 (h j a b)
theorem zjcv {k x : Int} : (!out1 k x) = (decide (0 ≤ x) && decide (x < k)) := by
  rw [Bool.eq_iff_iff]; simp [out1]
theorem zL3F {α β : Type} [Inhabited β] {f : α → β → α} {a : α} {w : List β} {i : Int} (h0 : 0 ≤ i) (h1 : i < w.length) : (w.take (i + 1).toNat).foldl f a = f ((w.take i.toNat).foldl f a) (ix w i) := by
  have e : w.take (i + 1).toNat = w.take i.toNat ++ [ix w i] := by
    rw [show (i + 1).toNat = i.toNat + 1 by omega, List.take_add_one, ix_eq h0 h1]
    rfl
  rw [e, List.foldl_append]; rfl
theorem zhgs {α β : Type} {f : α → β → α} {a : α} {w : List β} {i : Int} (h : (w.length : Int) ≤ i) : (w.take i.toNat).foldl f a = w.foldl f a := by
  rw [List.take_of_length_le (by omega)]
def wordE (w : List Int) (k : Int) : Int := if k < 1 ∨ 1024 < k then 2 else if 1024 < (w.length : Int) then 3 else if bad w k = true then 1 else 0
theorem zUDT (x k : Int) : PC zVYD [.int x, .pimm (.int k)] = some (.bool (out1 k x)) := by
  refine zx72 (zAj1 rfl ?_)
  simp [out1]
  omega
theorem zvQ3 (k : Int) : PC zLRb [.int k] = some (.bool (decide (1 ≤ k) && decide (k ≤ 1024))) := by
  refine zx72 (zrni rfl ?_)
  simp
  omega
theorem zX2D (k : Int) : PC zlVo [.int k] = some (.bool (decide (1 ≤ k) && decide (k ≤ 1024))) := by
  refine zx72 (z5EM rfl ?_)
  simp
  omega
theorem zJ4o (w : List Int) (k : Int) (hl : (w.length : Int) ≤ 9223372036854775807) : PC zxtP [iL w, .int k] = some (.int (wordE w k)) := by
  refine zx72 (zrla rfl ?_)
  have e1 := zvQ3 k
  by_cases hk : k < 1 ∨ 1024 < k
  · simp [e1, show (decide (1 ≤ k) && decide (k ≤ 1024)) = false by simp; omega]
    simp [wordE, hk]
  have e2 : PC zc7Y [iL w, .func zVYD [.pimm (.int k)]] = some (.bool (bad w k)) := zSG9 w zVYD [.pimm (.int k)] (out1 k) hl rfl rfl (fun x _ => zUDT x k)
  simp [e1, show (decide (1 ≤ k) && decide (k ≤ 1024)) = true by simp; omega, e2]
  simp only [wordE, if_neg hk]
  exact ⟨fun a => by simp [a], fun a => ⟨fun b => by simp [b]; omega, fun b => by simp [b]; omega⟩⟩
theorem zcuG (w : List Int) (k : Int) (hl : (w.length : Int) ≤ 9223372036854775807) : PC z0Tq [iL w, .int k] = some (.int (wordE w k)) := by
  refine zx72 (zTYE rfl ?_)
  have e1 := zX2D k
  by_cases hk : k < 1 ∨ 1024 < k
  · simp [e1, show (decide (1 ≤ k) && decide (k ≤ 1024)) = false by simp; omega]
    simp [wordE, hk]
  simp [e1, show (decide (1 ≤ k) && decide (k ≤ 1024)) = true by simp; omega]
  refine ⟨fun a => by simp [wordE, hk, a], fun a => ?_⟩
  refine zv8C (fun i : Int => [(2, .int i)]) (fun _ => []) (fun i => 0 ≤ i ∧ i ≤ w.length ∧ ∀ j, 0 ≤ j → j < i → out1 k (ix w j) = false) (fun i => (w.length - i).toNat) 0 rfl ⟨by omega, by omega, zguy⟩ fun i ⟨i0, i1, i2⟩ => ?_
  by_cases hi : i < w.length
  · simp [hi, i0]
    have q : out1 k (ix w i) = true → 1 = wordE w k := fun h => by rw [wordE, if_neg hk, if_neg (by omega), if_pos (bad_t i0 hi h)]
    exact ⟨fun b => q (by simp [out1, b]), fun b => ⟨fun c => q (by simp [out1, c]), fun c => ⟨by omega, ⟨by omega, by omega, zvtS (zyIb.2 ⟨b, c⟩) i2⟩, by omega⟩⟩⟩
  · simp [hi]
    rw [wordE, if_neg hk, if_neg (by omega), bad_n fun j a b => i2 j a (by omega)]
    rfl
end Ab
namespace Ab
structure Nst where
  calls : Int
  inns : Int
  rets : Int
  stack : Int
  start : Int
  accept : List Bool
  call : List (List Int)
  push : List (List Int)
  inner : List (List Int)
  pop : List (List (List Int))
  deriving Inhabited
abbrev Nst.av (n : Nst) : AV := .agg [.int n.calls, .int n.inns, .int n.rets, .int n.stack, .int n.start, bL n.accept, iLL n.call, iLL n.push, iLL n.inner, iLLL n.pop]
structure Nst.fits (n : Nst) : Prop where
  calls : inR n.calls = true
  inns : inR n.inns = true
  rets : inR n.rets = true
  stack : inR n.stack = true
  start : inR n.start = true
  accept : (n.accept.length : Int) ≤ 9223372036854775807
  call : ∀ l ∈ n.call, (l.length : Int) ≤ 9223372036854775807
  push : ∀ l ∈ n.push, (l.length : Int) ≤ 9223372036854775807
  inner : ∀ l ∈ n.inner, (l.length : Int) ≤ 9223372036854775807
  pop : ∀ l ∈ n.pop, (l.length : Int) ≤ 9223372036854775807 ∧ ∀ m ∈ l, (m.length : Int) ≤ 9223372036854775807
theorem zNem (x k : Int) : PC zhiY [.int x, .pimm (.int k)] = some (.bool (out1 k x)) := by
  refine zx72 (z5Hk rfl ?_)
  simp [out1]
  omega
theorem zXAT (xs : List Int) (k : Int) (hl : (xs.length : Int) ≤ 9223372036854775807): PC zTfU [iL xs, .int k] = some (.bool (bad xs k)) := by
  refine zx72 (zsRO rfl ?_)
  simp [zSG9 xs zhiY [.pimm (.int k)] (out1 k) hl rfl rfl (fun x _ => zNem x k)]
  rfl
theorem zeXw (n : Nst) (h1 : inR (n.calls + n.inns) = true) (h2 : inR (n.calls + n.inns + n.rets) = true) : PC z92w [n.av] = some (.int (n.calls + n.inns + n.rets)) := by
  refine zx72 (zQII rfl ?_)
  simp
  rw [zwIQ] at h1 h2
  omega
theorem zZwh (n : Nst) (h1 : inR (n.calls + n.inns) = true) (h2 : inR (n.calls + n.inns + n.rets) = true) : PC zVDQ [n.av] = some (.int (n.calls + n.inns + n.rets)) := by
  refine zx72 (z9nN rfl ?_)
  simp
  rw [zwIQ] at h1 h2
  omega
def Nst.popE (n : Nst) (l : List Int) : Int := if (l.length : Int) ≠ n.rets then 1 else if bad l n.accept.length = true then 2 else 0
def Nst.rowE (n : Nst) (s : Int) : Int :=
  if ¬ ((ix n.call s).length : Int) = n.calls ∨ ¬ ((ix n.push s).length : Int) = n.calls ∨ ¬ ((ix n.inner s).length : Int) = n.inns ∨ ¬ ((ix n.pop s).length : Int) = n.stack then 1
  else if bad (ix n.call s) n.accept.length = true ∨ bad (ix n.push s) n.stack = true ∨ bad (ix n.inner s) n.accept.length = true then 2
  else firstN (fun g => n.popE (ix (ix n.pop s) g)) (ix n.pop s).length
theorem row_s (n : Nst) (h : n.fits) (s : Int) (h0 : 0 ≤ s) (h1 : s < n.call.length) (h2 : s < n.push.length) (h3 : s < n.inner.length) (h4 : s < n.pop.length) : PC ze0B [n.av, .int s] = some (.int (n.rowE s)) := by
  have e1 := zXAT (ix n.call s) n.accept.length (h.call _ (zmAQ h0 h1))
  have e2 := zXAT (ix n.push s) n.stack (h.push _ (zmAQ h0 h2))
  have e3 := zXAT (ix n.inner s) n.accept.length (h.inner _ (zmAQ h0 h3))
  have hp := h.pop _ (zmAQ h0 h4)
  refine zx72 (zbNP rfl ?_)
  simp [h0, h1, h2, h3, h4, e1, e2, e3]
  have no : ∀ {a : Int}, 1 = n.rowE s → a = 1 → a = n.rowE s := fun h e => e.trans h
  refine ⟨fun a1 => ⟨fun a2 => ⟨fun a3 => ⟨fun a4 => ⟨fun b1 => by simp [Nst.rowE, a1, a2, a3, a4, b1], fun b1 => ⟨fun b2 => by simp [Nst.rowE, a1, a2, a3, a4, b2], fun b2 => ⟨fun b3 => by simp [Nst.rowE, a1, a2, a3, a4, b3], fun b3 => ?_⟩⟩⟩, fun a4 => by simp [Nst.rowE, a4]⟩, fun a3 => by simp [Nst.rowE, a3]⟩, fun a2 => by simp [Nst.rowE, a2]⟩, fun a1 => by simp [Nst.rowE, a1]⟩
  have e : n.rowE s = firstN (fun g => n.popE (ix (ix n.pop s) g)) (ix n.pop s).length := by simp [Nst.rowE, a1, a2, a3, a4, b1, b2, b3]
  rw [e]
  refine zv8C (fun i : Int => [(4, .int i)]) (fun _ => []) (fun i => 0 ≤ i ∧ i ≤ (ix n.pop s).length ∧ ∀ j, 0 ≤ j → j < i → n.popE (ix (ix n.pop s) j) = 0) (fun i => ((ix n.pop s).length - i).toNat) 0 rfl (by simp; omega) fun i ⟨i0, i1, i2⟩ => ?_
  by_cases hi : i < (ix n.pop s).length
  · have e4 := zXAT (ix (ix n.pop s) i) n.accept.length (hp.2 _ (zmAQ i0 hi))
    simp [hi, i0, e4]
    have q : ∀ {x : Int}, n.popE (ix (ix n.pop s) i) = x → x ≠ 0 → x = firstN (fun g => n.popE (ix (ix n.pop s) g)) (ix n.pop s).length := fun h1 h2 => by subst h1; exact (zUdY (f := fun g => n.popE (ix (ix n.pop s) g)) i0 hi h2 i2).symm
    refine ⟨fun c1 => ⟨fun c2 => q (by simp [Nst.popE, c1, c2]) (by simp), fun c2 => ⟨by omega, ⟨by omega, by omega, zvtS (by simp [Nst.popE, c1, c2]) i2⟩, by omega⟩⟩, fun c1 => q (by simp [Nst.popE, c1]) (by simp)⟩
  · simp [hi]
    rw [zs2N fun j a b => i2 j a (by omega)]
def Nst.sizeE (n : Nst) : Int :=
  if n.calls < 0 ∨ 65 ≤ n.calls ∨ n.inns < 0 ∨ 65 ≤ n.inns ∨ n.rets < 0 ∨ 65 ≤ n.rets then 2
  else if n.calls + n.inns + n.rets < 1 then 2
  else if 64 < n.calls + n.inns + n.rets then 2
  else if n.stack < 1 then 2
  else if 128 < n.stack then 2
  else if n.accept = [] then 19
  else if 128 < (n.accept.length : Int) then 11
  else if n.start < 0 then 2
  else if (n.accept.length : Int) ≤ n.start then 2
  else if ¬ (n.call.length : Int) = n.accept.length then 1
  else if ¬ (n.push.length : Int) = n.accept.length then 1
  else if ¬ (n.inner.length : Int) = n.accept.length then 1
  else if ¬ (n.pop.length : Int) = n.accept.length then 1
  else 0
def Nst.validE (n : Nst) : Int := if n.sizeE ≠ 0 then n.sizeE else firstN n.rowE n.accept.length
theorem zp33 {n : Nst} {x : Int} (h : n.sizeE = x) (hx : x ≠ 0) : x = n.validE := by
  subst h; simp [Nst.validE, hx]
theorem zYdA (n : Nst) (h : n.fits) : PC zwyK [n.av] = some (.int n.validE) := by
  refine zx72 (z3bh rfl ?_)
  have e1 : PC zTfU [.imm false [.int n.calls, .int n.inns, .int n.rets], .int 65] = _ := zXAT [n.calls, n.inns, n.rets] 65 (by simp)
  by_cases hb : bad [n.calls, n.inns, n.rets] 65 = true
  · simp [e1, hb]
    simp [bad, out1] at hb
    exact zp33 (by simp [Nst.sizeE, show n.calls < 0 ∨ 65 ≤ n.calls ∨ n.inns < 0 ∨ 65 ≤ n.inns ∨ n.rets < 0 ∨ 65 ≤ n.rets by omega]) (by simp)
  have hb' := hb
  simp [bad, out1] at hb'
  have e2 := zeXw n (by rw [zwIQ]; omega) (by rw [zwIQ]; omega)
  have e0 : ¬ (n.calls < 0 ∨ 65 ≤ n.calls ∨ n.inns < 0 ∨ 65 ≤ n.inns ∨ n.rets < 0 ∨ 65 ≤ n.rets) := by omega
  simp [e1, hb, e2]
  repeat' (first | apply And.intro | intro _)
  all_goals try (refine zp33 ?_ (by simp); unfold Nst.sizeE; rw [if_neg e0]; repeat (first | rw [if_pos (by assumption)] | rw [if_neg (by assumption)] | rw [if_neg (by omega)]))
  rename_i a1 a2 a3 a4 a5 a6 a7 a8 b1 b2 b3 b4
  have e3 : n.sizeE = 0 := by unfold Nst.sizeE; rw [if_neg e0]; repeat (first | rw [if_pos (by assumption)] | rw [if_neg (by assumption)] | rw [if_neg (by omega)])
  rw [show n.validE = firstN n.rowE n.accept.length by simp [Nst.validE, e3]]
  refine zv8C (fun i : Int => [(3, .int i)]) (fun _ => []) (fun i => 0 ≤ i ∧ i ≤ n.accept.length ∧ ∀ j, 0 ≤ j → j < i → n.rowE j = 0) (fun i => (n.accept.length - i).toNat) 0 rfl (by simp; omega) fun i ⟨i0, i1, i2⟩ => ?_
  by_cases hi : i < n.accept.length
  · have e4 := row_s n h i i0 (by omega) (by omega) (by omega) (by omega)
    simp [hi, e4]
    exact ⟨fun hz => ⟨by omega, ⟨by omega, by omega, zvtS hz i2⟩, by omega⟩, fun hz => (zUdY i0 hi hz i2).symm⟩
  · simp [hi]
    rw [zs2N fun j a b => i2 j a (by omega)]
end Ab
namespace Ab
theorem zrWq (n : Nst) (s : Int) : PC zhAU [n.av, .int s] = some (.bool (!out1 n.accept.length s)) := by
  refine zx72 (zvs0 rfl ?_)
  rw [zjcv]
  simp
  exact ⟨fun a => by simp [a], fun a b => by omega⟩
theorem zJwB (n : Nst) : PC z5HB [n.av] = some (.int n.sizeE) := by
  refine zx72 (zxnm rfl ?_)
  by_cases e0 : n.calls < 0 ∨ 65 ≤ n.calls ∨ n.inns < 0 ∨ 65 ≤ n.inns ∨ n.rets < 0 ∨ 65 ≤ n.rets
  · rw [show n.sizeE = 2 by simp [Nst.sizeE, e0]]
    simp
    omega
  · have e2 := zZwh n (by rw [zwIQ]; omega) (by rw [zwIQ]; omega)
    have d1 : ¬ n.calls < 0 := by omega
    have d2 : ¬ n.calls > 64 := by omega
    have d3 : ¬ n.inns < 0 := by omega
    have d4 : ¬ n.inns > 64 := by omega
    have d5 : ¬ n.rets < 0 := by omega
    have d6 : ¬ n.rets > 64 := by omega
    simp [d1, d2, d3, d4, d5, d6, e2]
    repeat' (first | apply And.intro | intro _)
    all_goals (unfold Nst.sizeE; rw [if_neg e0]; repeat (first | rw [if_pos (by assumption)] | rw [if_neg (by assumption)] | rw [if_neg (by omega)]))
theorem zCrr (n : Nst) (h : n.fits) (s : Int) (h0 : 0 ≤ s) (h1 : s < n.call.length) (h2 : s < n.push.length) (h3 : s < n.inner.length) (h4 : s < n.pop.length) : PC z7L0 [n.av, .int s] = some (.int (n.rowE s)) := by
  refine zx72 (zKmR rfl ?_)
  have k1 := h.call _ (zmAQ h0 h1)
  have k2 := h.push _ (zmAQ h0 h2)
  have k3 := h.inner _ (zmAQ h0 h3)
  have k4 := h.pop _ (zmAQ h0 h4)
  simp [h0, h1, h2, h3, h4]
  refine ⟨fun a1 => ⟨fun a2 => ⟨fun a3 => ⟨fun a4 => ?_, fun a4 => by simp [Nst.rowE, a4]⟩, fun a3 => by simp [Nst.rowE, a3]⟩, fun a2 => by simp [Nst.rowE, a2]⟩, fun a1 => by simp [Nst.rowE, a1]⟩
  refine zv8C (fun i : Int => [(3, .int i)]) (fun _ => []) (fun i => 0 ≤ i ∧ i ≤ n.calls ∧ (∀ j, 0 ≤ j → j < i → out1 n.accept.length (ix (ix n.call s) j) = false) ∧ ∀ j, 0 ≤ j → j < i → out1 n.stack (ix (ix n.push s) j) = false) (fun i => (n.calls - i).toNat) 0 rfl ⟨by omega, by omega, zguy, zguy⟩ fun i ⟨i0, i1, i2, i3⟩ => ?_
  by_cases hi : i < n.calls
  · have e1 := zrWq n (ix (ix n.call s) i)
    simp [hi, e1, h0, h1, h2, i0, a1, a2]
    have q : bad (ix n.call s) n.accept.length = true ∨ bad (ix n.push s) n.stack = true ∨ bad (ix n.inner s) n.accept.length = true → 2 = n.rowE s := fun hh => by simp [Nst.rowE, a1, a2, a3, a4, hh]
    refine ⟨fun c1 => q (.inl (bad_t i0 (by omega) c1)), fun c1 => ⟨fun c2 => q (.inr (.inl (bad_t i0 (by omega) (by simp [out1, c2])))), fun c2 => ⟨fun c3 => q (.inr (.inl (bad_t i0 (by omega) (by simp [out1, c3])))), fun c3 => ⟨by omega, ⟨by omega, by omega, zvtS c1 i2, zvtS (zyIb.2 ⟨c2, c3⟩) i3⟩, by omega⟩⟩⟩⟩
  simp [hi]
  have b1 := bad_n (xs := ix n.call s) fun j a b => i2 j a (by omega)
  have b2 := bad_n (xs := ix n.push s) fun j a b => i3 j a (by omega)
  refine zv8C (fun i : Int => [(4, .int i)]) (fun _ => []) (fun i => 0 ≤ i ∧ i ≤ n.inns ∧ (∀ j, 0 ≤ j → j < i → out1 n.accept.length (ix (ix n.inner s) j) = false)) (fun i => (n.inns - i).toNat) 0 rfl ⟨by omega, by omega, zguy⟩ fun i' ⟨j0, j1, j2⟩ => ?_
  by_cases hj : i' < n.inns
  · have e1 := zrWq n (ix (ix n.inner s) i')
    simp [hj, e1, h0, h3, j0, a3]
    have q : bad (ix n.inner s) n.accept.length = true → 2 = n.rowE s := fun hh => by simp [Nst.rowE, a1, a2, a3, a4, hh]
    exact ⟨fun c1 => q (bad_t j0 (by omega) c1), fun c1 => ⟨by omega, ⟨by omega, by omega, zvtS c1 j2⟩, by omega⟩⟩
  simp [hj]
  have b3 := bad_n (xs := ix n.inner s) fun j a b => j2 j a (by omega)
  have e : n.rowE s = firstN (fun g => n.popE (ix (ix n.pop s) g)) (ix n.pop s).length := by simp [Nst.rowE, a1, a2, a3, a4, b1, b2, b3]
  rw [e]
  refine zv8C (fun i : Int => [(5, .int i)]) (fun _ => []) (fun i => 0 ≤ i ∧ i ≤ (ix n.pop s).length ∧ ∀ j, 0 ≤ j → j < i → n.popE (ix (ix n.pop s) j) = 0) (fun i => ((ix n.pop s).length - i).toNat) 0 rfl (by simp; omega) fun g ⟨g0, g1, g2⟩ => ?_
  have q : g < (ix n.pop s).length → ∀ {x : Int}, n.popE (ix (ix n.pop s) g) = x → x ≠ 0 → x = firstN (fun g => n.popE (ix (ix n.pop s) g)) (ix n.pop s).length := fun hg x h1 h2 => by subst h1; exact (zUdY (f := fun g => n.popE (ix (ix n.pop s) g)) g0 hg h2 g2).symm
  by_cases hg : g < (ix n.pop s).length
  · simp [show g < n.stack by omega, hg, h0, h4, g0]
    refine ⟨fun c1 => ?_, fun c1 => q hg (by simp [Nst.popE, c1]) (by simp)⟩
    have k5 := k4.2 _ (zmAQ g0 hg)
    refine zv8C (fun i : Int => [(6, .int i)]) (fun _ => []) (fun i => 0 ≤ i ∧ i ≤ n.rets ∧ (∀ j, 0 ≤ j → j < i → out1 n.accept.length (ix (ix (ix n.pop s) g) j) = false)) (fun i => (n.rets - i).toNat) 0 rfl ⟨by omega, by omega, zguy⟩ fun r ⟨r0, r1, r2⟩ => ?_
    by_cases hr : r < n.rets
    · have e1 := zrWq n (ix (ix (ix n.pop s) g) r)
      simp [hr, e1, h0, h4, g0, hg, r0, c1]
      exact ⟨fun c2 => q hg (by simp [Nst.popE, c1, bad_t r0 (by omega) c2]) (by simp), fun c2 => ⟨by omega, ⟨by omega, by omega, zvtS c2 r2⟩, by omega⟩⟩
    · simp [hr]
      exact ⟨by omega, ⟨by omega, by omega, zvtS (by simp [Nst.popE, c1, bad_n (xs := ix (ix n.pop s) g) fun j a b => r2 j a (by omega)]) g2⟩, by omega⟩
  · simp [show ¬ g < n.stack by omega]
    rw [zs2N fun j a b => g2 j a (by omega)]
theorem zwfm (n : Nst) (h : n.fits) : PC zvYE [n.av] = some (.int n.validE) := by
  refine zx72 (zoi9 rfl ?_)
  have e1 := zJwB n
  simp [e1]
  refine ⟨fun e3 => ?_, fun e3 => zp33 rfl e3⟩
  rw [show n.validE = firstN n.rowE n.accept.length by simp [Nst.validE, e3]]
  have ha := h.accept
  have hs : (n.call.length : Int) = n.accept.length ∧ (n.push.length : Int) = n.accept.length ∧ (n.inner.length : Int) = n.accept.length ∧ (n.pop.length : Int) = n.accept.length := by
    unfold Nst.sizeE at e3
    (repeat' split at e3) <;> omega
  refine zv8C (fun i : Int => [(3, .int i)]) (fun _ => []) (fun i => 0 ≤ i ∧ i ≤ n.accept.length ∧ ∀ j, 0 ≤ j → j < i → n.rowE j = 0) (fun i => (n.accept.length - i).toNat) 0 rfl (by simp; omega) fun i ⟨i0, i1, i2⟩ => ?_
  by_cases hi : i < n.accept.length
  · have e4 := zCrr n h i i0 (by omega) (by omega) (by omega) (by omega)
    simp [hi, e4]
    exact ⟨fun hz => ⟨by omega, ⟨by omega, by omega, zvtS hz i2⟩, by omega⟩, fun hz => (zUdY i0 hi hz i2).symm⟩
  · simp [hi]
    rw [zs2N fun j a b => i2 j a (by omega)]
end Ab
namespace Ab
def Nst.lev (n : Nst) (l x : Int) : Int := if x < n.calls then l + 1 else if n.calls + n.inns ≤ x then l - 1 else l
def Nst.lev3 (n : Nst) (p : Int × Int × Int) (x : Int) : Int × Int × Int := (n.lev p.1 x, max p.2.1 (n.lev p.1 x), min p.2.2 (n.lev p.1 x))
def Nst.levs (n : Nst) (w : List Int) : Int × Int × Int := w.foldl n.lev3 (0, 0, 0)
def Nst.lvp (n : Nst) (w : List Int) (i : Int) : Int × Int × Int := (w.take i.toNat).foldl n.lev3 (0, 0, 0)
theorem zBTV {n : Nst} {w : List Int} {i : Int} (h0 : 0 ≤ i) (h1 : i < w.length) : n.lvp w (i + 1) = n.lev3 (n.lvp w i) (ix w i) := zL3F h0 h1
theorem zMRb {n : Nst} {w : List Int} : n.lvp w 0 = (0, 0, 0) := rfl
theorem zSwh {n : Nst} {w : List Int} {i : Int} (h : (w.length : Int) ≤ i) : n.lvp w i = n.levs w := zhgs h
theorem zEb4 {n : Nst} {w : List Int} (i : Nat) (h : i ≤ w.length) : -i ≤ (n.lvp w i).1 ∧ (n.lvp w i).1 ≤ i ∧ 0 ≤ (n.lvp w i).2.1 ∧ (n.lvp w i).2.1 ≤ i ∧ (n.lvp w i).2.2 ≤ 0 ∧ -i ≤ (n.lvp w i).2.2 := by
  induction i with
  | zero => simp [zMRb]
  | succ i ih =>
    have e := zBTV (n := n) (w := w) (i := i) (by omega) (by omega)
    have := ih (by omega)
    rw [show ((i + 1 : Nat) : Int) = (i : Int) + 1 by omega, e]
    simp only [Nst.lev3, Nst.lev]
    split <;> (try split) <;> omega
theorem z1mB {n : Nst} {w : List Int} {i : Int} (h0 : 0 ≤ i) (h1 : i ≤ w.length) : -i ≤ (n.lvp w i).1 ∧ (n.lvp w i).1 ≤ i ∧ 0 ≤ (n.lvp w i).2.1 ∧ (n.lvp w i).2.1 ≤ i ∧ (n.lvp w i).2.2 ≤ 0 ∧ -i ≤ (n.lvp w i).2.2 := by
  have := zEb4 (n := n) (w := w) i.toNat (by omega)
  rw [show ((i.toNat : Nat) : Int) = i by omega] at this
  exact this
theorem zor6 (n : Nst) (w : List Int) (hi : inR (n.calls + n.inns) = true) (hl : (w.length : Int) ≤ 1000000) : PC zA6r [n.av, iL w] = some (.tup [.int (n.levs w).2.1, .bool (decide ((n.levs w).2.2 = 0) && decide ((n.levs w).1 = 0))]) := by
  refine zx72 (z0BX rfl ?_)
  rw [zwIQ] at hi
  simp
  refine zv8C (fun i : Int => [(2, .int i), (7, .int (n.lvp w i).1), (8, .int (n.lvp w i).2.1), (9, .bool (decide ((n.lvp w i).2.2 = 0)))]) (fun _ => []) (fun i => 0 ≤ i ∧ i ≤ w.length) (fun i => (w.length - i).toNat) 0 rfl (by simp) fun i ⟨i0, i1⟩ => ?_
  have B := z1mB (n := n) i0 i1
  by_cases hi : i < w.length
  · have e := zBTV (n := n) i0 hi
    simp [hi, i0, and_assoc]
    refine ⟨fun c1 => ?_, fun c1 => ⟨by omega, by omega, fun c2 => ?_, fun c2 => ?_⟩⟩
    · simp only [e, Nst.lev3, Nst.lev, if_pos c1]
      (repeat' (first | apply And.intro | intro _)) <;> first | trivial | omega
    · simp only [e, Nst.lev3, Nst.lev, if_neg (show ¬ ix w i < n.calls by omega), if_pos c2]
      (repeat' (first | apply And.intro | intro _)) <;> first | trivial | omega
    · simp only [e, Nst.lev3, Nst.lev, if_neg (show ¬ ix w i < n.calls by omega), if_neg (show ¬ n.calls + n.inns ≤ ix w i by omega)]
      (repeat' (first | apply And.intro | intro _)) <;> first | trivial | omega
  · have e := zSwh (n := n) (w := w) (i := i) (by omega)
    rw [e] at B ⊢
    simp [hi]
    omega
theorem zN95 (n : Nst) (w : List Int) (hi : inR (n.calls + n.inns) = true) (h0 : 0 ≤ n.inns) (hl : (w.length : Int) ≤ 1000000) : PC zaUI [n.av, iL w] = some (.tup [.int (n.levs w).2.1, .int (n.levs w).2.2, .int (n.levs w).1]) := by
  refine zx72 (zXoc rfl ?_)
  rw [zwIQ] at hi
  simp
  refine zv8C (fun i : Int => [(2, .int i), (4, .int (n.lvp w i).1), (5, .int (n.lvp w i).2.1), (6, .int (n.lvp w i).2.2)]) (fun _ => []) (fun i => 0 ≤ i ∧ i ≤ w.length) (fun i => (w.length - i).toNat) 0 rfl (by simp) fun i ⟨i0, i1⟩ => ?_
  have B := z1mB (n := n) i0 i1
  by_cases hi : i < w.length
  · have e := zBTV (n := n) i0 hi
    simp [hi, i0, and_assoc]
    refine ⟨fun c1 => ?_, fun c1 => ⟨by omega, by omega, fun c2 => ?_, fun c2 => ?_⟩⟩
    · simp only [e, Nst.lev3, Nst.lev, if_pos c1]
      (repeat' (first | apply And.intro | intro _)) <;> first | trivial | omega
    · simp only [e, Nst.lev3, Nst.lev, if_neg (show ¬ ix w i < n.calls by omega), if_pos c2]
      (repeat' (first | apply And.intro | intro _)) <;> first | trivial | omega
    · simp only [e, Nst.lev3, Nst.lev, if_neg (show ¬ ix w i < n.calls by omega), if_neg (show ¬ n.calls + n.inns ≤ ix w i by omega)]
      (repeat' (first | apply And.intro | intro _)) <;> first | trivial | omega
  · have e := zSwh (n := n) (w := w) (i := i) (by omega)
    rw [e] at B ⊢
    simp [hi]
structure Nst.Ok (n : Nst) : Prop where
  calls : 0 ≤ n.calls ∧ n.calls ≤ 64
  inns : 0 ≤ n.inns ∧ n.inns ≤ 64
  rets : 0 ≤ n.rets ∧ n.rets ≤ 64
  syms : 1 ≤ n.calls + n.inns + n.rets ∧ n.calls + n.inns + n.rets ≤ 64
  stack : 1 ≤ n.stack ∧ n.stack ≤ 128
  states : 1 ≤ (n.accept.length : Int) ∧ (n.accept.length : Int) ≤ 128
  start : 0 ≤ n.start ∧ n.start < n.accept.length
  lens : (n.call.length : Int) = n.accept.length ∧ (n.push.length : Int) = n.accept.length ∧ (n.inner.length : Int) = n.accept.length ∧ (n.pop.length : Int) = n.accept.length
  row : ∀ s, 0 ≤ s → s < (n.accept.length : Int) → ((ix n.call s).length : Int) = n.calls ∧ ((ix n.push s).length : Int) = n.calls ∧ ((ix n.inner s).length : Int) = n.inns ∧ ((ix n.pop s).length : Int) = n.stack
  call : ∀ s c, 0 ≤ s → s < (n.accept.length : Int) → 0 ≤ c → c < n.calls → 0 ≤ ix (ix n.call s) c ∧ ix (ix n.call s) c < n.accept.length
  push : ∀ s c, 0 ≤ s → s < (n.accept.length : Int) → 0 ≤ c → c < n.calls → 0 ≤ ix (ix n.push s) c ∧ ix (ix n.push s) c < n.stack
  inner : ∀ s c, 0 ≤ s → s < (n.accept.length : Int) → 0 ≤ c → c < n.inns → 0 ≤ ix (ix n.inner s) c ∧ ix (ix n.inner s) c < n.accept.length
  popl : ∀ s g, 0 ≤ s → s < (n.accept.length : Int) → 0 ≤ g → g < n.stack → ((ix (ix n.pop s) g).length : Int) = n.rets
  pop : ∀ s g r, 0 ≤ s → s < (n.accept.length : Int) → 0 ≤ g → g < n.stack → 0 ≤ r → r < n.rets → 0 ≤ ix (ix (ix n.pop s) g) r ∧ ix (ix (ix n.pop s) g) r < n.accept.length
theorem zwsZ {n : Nst} (h : n.sizeE = 0) : (0 ≤ n.calls ∧ n.calls ≤ 64) ∧ (0 ≤ n.inns ∧ n.inns ≤ 64) ∧ (0 ≤ n.rets ∧ n.rets ≤ 64) ∧ (1 ≤ n.calls + n.inns + n.rets ∧ n.calls + n.inns + n.rets ≤ 64) ∧ (1 ≤ n.stack ∧ n.stack ≤ 128) ∧ (1 ≤ (n.accept.length : Int) ∧ (n.accept.length : Int) ≤ 128) ∧ (0 ≤ n.start ∧ n.start < n.accept.length) ∧ (n.call.length : Int) = n.accept.length ∧ (n.push.length : Int) = n.accept.length ∧ (n.inner.length : Int) = n.accept.length ∧ (n.pop.length : Int) = n.accept.length := by
  unfold Nst.sizeE at h
  have hl : n.accept ≠ [] → 1 ≤ (n.accept.length : Int) := fun h => by
    have := List.length_pos_iff.2 h
    omega
  by_cases ha : n.accept = []
  · simp only [if_pos ha] at h
    (repeat' split at h) <;> omega
  · have := hl ha
    simp only [if_neg ha] at h
    (repeat' split at h) <;> omega
theorem zpP0 {n : Nst} {s : Int} (h : n.rowE s = 0) : (((ix n.call s).length : Int) = n.calls ∧ ((ix n.push s).length : Int) = n.calls ∧ ((ix n.inner s).length : Int) = n.inns ∧ ((ix n.pop s).length : Int) = n.stack) ∧ bad (ix n.call s) n.accept.length = false ∧ bad (ix n.push s) n.stack = false ∧ bad (ix n.inner s) n.accept.length = false ∧ ∀ g, 0 ≤ g → g < n.stack → ((ix (ix n.pop s) g).length : Int) = n.rets ∧ bad (ix (ix n.pop s) g) n.accept.length = false := by
  unfold Nst.rowE at h
  split at h
  · simp at h
  rename_i a
  split at h
  · simp at h
  rename_i b
  simp only [not_or, Classical.not_not, Bool.not_eq_true] at a b
  refine ⟨a, b.1, b.2.1, b.2.2, fun g g0 g1 => ?_⟩
  have := zdWJ.1 h g g0 (by omega)
  simp only [Nst.popE] at this
  split at this
  · simp at this
  rename_i c
  split at this
  · simp at this
  rename_i d
  exact ⟨by simpa using c, by simpa using d⟩
theorem zdZr {n : Nst} (h : n.validE = 0) : n.Ok := by
  have hs : n.sizeE = 0 := by
    unfold Nst.validE at h
    split at h
    · rename_i a; exact absurd h a
    · rename_i a; simpa using a
  have hr : ∀ s, 0 ≤ s → s < (n.accept.length : Int) → n.rowE s = 0 := by
    unfold Nst.validE at h
    rw [if_neg (by simpa using hs)] at h
    exact zdWJ.1 h
  obtain ⟨h1, h2, h3, h4, h5, h6, h7, h8⟩ := zwsZ hs
  have R := fun s s0 s1 => zpP0 (hr s s0 s1)
  exact ⟨h1, h2, h3, h4, h5, h6, h7, h8, fun s s0 s1 => (R s s0 s1).1, fun s c s0 s1 c0 c1 => z1UL.1 (R s s0 s1).2.1 c c0 (by have := (R s s0 s1).1; omega), fun s c s0 s1 c0 c1 => z1UL.1 (R s s0 s1).2.2.1 c c0 (by have := (R s s0 s1).1; omega), fun s c s0 s1 c0 c1 => z1UL.1 (R s s0 s1).2.2.2.1 c c0 (by have := (R s s0 s1).1; omega), fun s g s0 s1 g0 g1 => ((R s s0 s1).2.2.2.2 g g0 g1).1, fun s g r s0 s1 g0 g1 r0 r1 => z1UL.1 ((R s s0 s1).2.2.2.2 g g0 g1).2 r r0 (by have := ((R s s0 s1).2.2.2.2 g g0 g1).1; omega)⟩
def Nst.word (n : Nst) (w : List Int) : Prop := (w.length : Int) ≤ 1024 ∧ ∀ x ∈ w, 0 ≤ x ∧ x < n.calls + n.inns + n.rets
theorem zPiW {n : Nst} {w : List Int} (h : wordE w (n.calls + n.inns + n.rets) = 0) : n.word w := by
  unfold wordE at h
  (repeat' split at h) <;> try (simp at h; done)
  rename_i a b c
  exact ⟨by omega, fun x hx => bad_f.1 (by simpa using c) x hx⟩
end Ab
namespace Ab
theorem ztAv (n : Nst) (s c : Int) (s0 : 0 ≤ s) (s1 : s < n.call.length) (s2 : s < n.push.length) (c0 : 0 ≤ c) (c1 : c < (ix n.call s).length) (c2 : c < (ix n.push s).length) : PC zfSc [n.av, .int s, .int c] = some (.tup [.int (ix (ix n.call s) c), .int (ix (ix n.push s) c)]) := by
  refine zx72 (zADD rfl ?_)
  simp [s0, s1, s2, c0, c1, c2]
theorem zhu3 (n : Nst) (s c : Int) (s0 : 0 ≤ s) (s1 : s < n.inner.length) (c0 : 0 ≤ c) (c1 : c < (ix n.inner s).length) : PC zhMi [n.av, .int s, .int c] = some (.int (ix (ix n.inner s) c)) := by
  refine zx72 (zmkb rfl ?_)
  simp [s0, s1, c0, c1]
theorem zwvy (n : Nst) (s g r : Int) (s0 : 0 ≤ s) (s1 : s < n.pop.length) (g0 : 0 ≤ g) (g1 : g < (ix n.pop s).length) (r0 : 0 ≤ r) (r1 : r < (ix (ix n.pop s) g).length) : PC zNTN [n.av, .int s, .int g, .int r] = some (.int (ix (ix (ix n.pop s) g) r)) := by
  refine zx72 (zMJ2 rfl ?_)
  simp [s0, s1, g0, g1, r0, r1]
theorem z6bl (n : Nst) : PC zFCU [n.av] = some (.int n.accept.length) := by
  refine zx72 (zY6J rfl ?_)
  simp
def hd (l : List Int) : Int := l.headD 0
theorem zt54 {x : Int} {l : List Int} : hd (x :: l) = x := rfl
def stC : Option (List Int × Nat) → List Blk
  | none => [⟨some 1, [.snil], .live⟩]
  | some (xs, k) => [⟨some 1, [.sl 1 xs.length 0 k], .live⟩, ⟨none, xs.map .int, .live⟩]
def stPush (x : Int) : Option (List Int × Nat) → Option (List Int × Nat)
  | none => some ([x], 1)
  | some (xs, k) => if xs.length = k then some (xs ++ [x], k + 1) else some (xs.set k x, k + 1)
def stPop : Option (List Int × Nat) → Option (List Int × Nat)
  | none => none
  | some (xs, k) => some (xs, k - 1)
def stL : Option (List Int × Nat) → List Int
  | none => []
  | some (xs, k) => (xs.take k).reverse
def stOk (m : Nat) : Option (List Int × Nat) → Prop
  | none => True
  | some (xs, k) => k ≤ xs.length ∧ k ≤ m
theorem zZDd {x : Int} {o : Option (List Int × Nat)} {m : Nat} (h : stOk m o) : stL (stPush x o) = x :: stL o ∧ stOk (m + 1) (stPush x o) := by
  cases o with
  | none => simp [stPush, stL, stOk]
  | some p =>
    obtain ⟨xs, k⟩ := p
    simp only [stOk] at h
    simp only [stPush]
    split
    · rename_i e; subst e; exact ⟨by simp [stL, List.take_of_length_le], by simp [stOk]; exact h.2⟩
    · rename_i e
      refine ⟨?_, by simp [stOk]; omega⟩
      simp only [stL]
      rw [List.take_add_one, List.take_set_of_le (Nat.le_refl k), List.getElem?_set_self (by omega)]
      simp
theorem zcxV {o : Option (List Int × Nat)} {m : Nat} (h : stOk m o) (hp : stL o ≠ []) : stL (stPop o) = (stL o).tail ∧ stOk m (stPop o) ∧ ∃ xs k, o = some (xs, k) ∧ 0 < k ∧ k ≤ xs.length ∧ ix xs ((k : Int) - 1) = hd (stL o) := by
  cases o with
  | none => exact absurd rfl hp
  | some p =>
    obtain ⟨xs, k⟩ := p
    simp only [stOk] at h
    have hk : 0 < k := by
      rcases Nat.eq_zero_or_pos k with rfl | hk
      · simp [stL] at hp
      · exact hk
    obtain ⟨k, rfl⟩ : ∃ j, k = j + 1 := ⟨k - 1, by omega⟩
    have e : xs.take (k + 1) = xs.take k ++ [xs[k]] := by
      rw [List.take_add_one, List.getElem?_eq_getElem (by omega)]; rfl
    refine ⟨?_, by simp [stPop, stOk]; omega, xs, k + 1, rfl, by omega, by omega, ?_⟩
    · show (xs.take k).reverse = ((xs.take (k + 1)).reverse).tail
      rw [e, List.reverse_append]; rfl
    · show _ = hd ((xs.take (k + 1)).reverse)
      rw [e, show ((k + 1 : Nat) : Int) - 1 = (k : Int) by omega, zrZW (by omega), List.reverse_append]
      rfl
theorem z3h3 (x : Int) (o : Option (List Int × Nat)) (h : stOk 100000 o) : L zd1z [.ptr 0 1 0, .int x] (stC o) = some (.tup [], stC (stPush x o)) := by
  refine LX_eq (zZHe rfl ?_)
  cases o with
  | none => simp [stC, stPush]
  | some p =>
    obtain ⟨xs, k⟩ := p
    simp only [stOk] at h
    by_cases hk : xs.length = k
    · simp [stC, stPush, hk]; omega
    · simp [stC, stPush, hk, show k < xs.length by omega]; omega
theorem pop_s (xs : List Int) (k : Nat) (h0 : 0 < k) (h1 : k ≤ xs.length) (h2 : k ≤ 100000) : L zC7Z [.ptr 0 1 0] (stC (some (xs, k))) = some (.int (ix xs ((k : Int) - 1)), stC (stPop (some (xs, k)))) := by
  refine LX_eq (zpCW rfl ?_)
  simp [stC, stPop]
  (repeat' apply And.intro) <;> omega
def Nst.step (n : Nst) (p : Int × List Int) (x : Int) : Int × List Int :=
  if x < n.calls then (ix (ix n.call p.1) x, ix (ix n.push p.1) x :: p.2)
  else if x < n.calls + n.inns then (ix (ix n.inner p.1) (x - n.calls), p.2)
  else (ix (ix (ix n.pop p.1) (hd p.2)) (x - n.calls - n.inns), p.2.tail)
def Nst.run (n : Nst) (s : Int) (w : List Int) : Int × List Int := w.foldl n.step (s, [])
def Nst.runp (n : Nst) (s : Int) (w : List Int) (i : Int) : Int × List Int := (w.take i.toNat).foldl n.step (s, [])
theorem z1EM {n : Nst} {s : Int} {w : List Int} {i : Int} (h0 : 0 ≤ i) (h1 : i < w.length) : n.runp s w (i + 1) = n.step (n.runp s w i) (ix w i) := zL3F h0 h1
theorem zFBF {n : Nst} {s : Int} {w : List Int} {i : Int} (h : (w.length : Int) ≤ i) : n.runp s w i = n.run s w := zhgs h
def Nst.up (n : Nst) (w : List Int) : Prop := ∀ i, 0 ≤ i → i ≤ (w.length : Int) → 0 ≤ (n.lvp w i).1
theorem zfx8 {n : Nst} {w : List Int} {i : Int} (h0 : 0 ≤ i) (h1 : i ≤ w.length) : (n.levs w).2.2 ≤ (n.lvp w i).2.2 ∧ (n.lvp w i).2.2 ≤ (n.lvp w i).1 := by
  have k1 : ∀ j : Nat, j ≤ w.length → (n.lvp w j).2.2 ≤ (n.lvp w j).1 := by
    intro j hj
    cases j with
    | zero => simp [zMRb]
    | succ j =>
      have e := zBTV (n := n) (w := w) (i := j) (by omega) (by omega)
      rw [show ((j + 1 : Nat) : Int) = (j : Int) + 1 by omega, e]
      simp only [Nst.lev3]
      omega
  have k2 : ∀ d j : Nat, j + d = w.length → (n.levs w).2.2 ≤ (n.lvp w j).2.2 := by
    intro d
    induction d with
    | zero =>
      intro j hj
      rw [← zSwh (n := n) (w := w) (i := j) (by omega)]
      exact Int.le_refl _
    | succ d ih =>
      intro j hj
      have := ih (j + 1) (by omega)
      have e := zBTV (n := n) (w := w) (i := j) (by omega) (by omega)
      rw [show ((j + 1 : Nat) : Int) = (j : Int) + 1 by omega, e] at this
      simp only [Nst.lev3] at this
      omega
  have a := k1 i.toNat (by omega)
  have b := k2 (w.length - i.toNat) i.toNat (by omega)
  rw [show ((i.toNat : Nat) : Int) = i by omega] at a b
  exact ⟨b, a⟩
theorem up_of {n : Nst} {w : List Int} (h : (n.levs w).2.2 = 0) : n.up w := fun i h0 h1 => by
  have := zfx8 (n := n) h0 h1
  omega
theorem zCvO {n : Nst} (hn : n.Ok) {w : List Int} (hw : n.word w) (hu : n.up w) {s : Int} (hs : 0 ≤ s ∧ s < n.accept.length) {i : Int} (h0 : 0 ≤ i) (h1 : i ≤ w.length) :
    (0 ≤ (n.runp s w i).1 ∧ (n.runp s w i).1 < n.accept.length) ∧ ((n.runp s w i).2.length : Int) = (n.lvp w i).1 ∧ ∀ g ∈ (n.runp s w i).2, 0 ≤ g ∧ g < n.stack := by
  have key : ∀ j : Nat, j ≤ w.length → (0 ≤ (n.runp s w j).1 ∧ (n.runp s w j).1 < n.accept.length) ∧ ((n.runp s w j).2.length : Int) = (n.lvp w j).1 ∧ ∀ g ∈ (n.runp s w j).2, 0 ≤ g ∧ g < n.stack := by
    intro j
    induction j with
    | zero => intro _; exact ⟨hs, rfl, by simp [Nst.runp]⟩
    | succ j ih =>
      intro hj
      obtain ⟨a, b, c⟩ := ih (by omega)
      have e := z1EM (n := n) (s := s) (w := w) (i := j) (by omega) (by omega)
      have e2 := zBTV (n := n) (w := w) (i := j) (by omega) (by omega)
      have hx := hw.2 _ (zmAQ (l := w) (n := j) (by omega) (by omega))
      have hup := hu (j + 1) (by omega) (by omega)
      rw [show ((j + 1 : Nat) : Int) = (j : Int) + 1 by omega, e, e2]
      rw [e2] at hup
      simp only [Nst.lev3, Nst.lev] at hup ⊢
      unfold Nst.step
      by_cases c1 : ix w j < n.calls
      · rw [if_pos c1] at hup ⊢
        rw [if_pos c1]
        have q1 := hn.call _ _ a.1 a.2 hx.1 c1
        have q2 := hn.push _ _ a.1 a.2 hx.1 c1
        refine ⟨q1, by simp; omega, fun g hg => ?_⟩
        rcases List.mem_cons.1 hg with rfl | hg
        · exact q2
        · exact c g hg
      rw [if_neg c1] at hup ⊢
      rw [if_neg c1]
      by_cases c2 : ix w j < n.calls + n.inns
      · rw [if_pos c2]
        rw [if_neg (show ¬ n.calls + n.inns ≤ ix w j by omega)]
        exact ⟨hn.inner _ _ a.1 a.2 (by omega) (by omega), b, c⟩
      · rw [if_neg c2]
        rw [if_pos (show n.calls + n.inns ≤ ix w j by omega)] at hup ⊢
        have hne : (n.runp s w j).2 ≠ [] := fun h => by rw [h] at b; simp at b; omega
        obtain ⟨g, l, hgl⟩ := List.exists_cons_of_ne_nil hne
        have qg := c g (by rw [hgl]; simp)
        rw [hgl] at b c ⊢
        simp only [zt54, List.tail_cons]
        refine ⟨hn.pop _ _ _ a.1 a.2 qg.1 qg.2 (by omega) (by omega), ?_, fun g' hg' => c g' (by simp [hg'])⟩
        simp at b; omega
  have := key i.toNat (by omega)
  rw [show ((i.toNat : Nat) : Int) = i by omega] at this
  exact this
theorem z0GH (n : Nst) (hn : n.Ok) (w : List Int) (hw : n.word w) (hu : n.up w) (s : Int) (hs : 0 ≤ s ∧ s < n.accept.length) : PC zb98 [n.av, .int s, iL w] = some (.int (n.run s w).1) := by
  refine zx72 (zq2I rfl ?_)
  simp
  refine zv8C (fun p : Int × List Int × Nat => [(3, .int p.1), (1, .int (n.runp s w p.1).1), (6, .sl 0 p.2.1.length 0 p.2.2)]) (fun p => [⟨none, p.2.1.map .int, stOf p.2.1⟩]) (fun p => (0 ≤ p.1 ∧ p.1 ≤ w.length) ∧ stOk p.1.toNat (some p.2) ∧ stL (some p.2) = (n.runp s w p.1).2) (fun p => (w.length - p.1).toNat) (0, [], 0) rfl ⟨⟨by simp, by simp⟩, by simp [stOk], rfl⟩ ?_
  rintro ⟨i, xs, k⟩ ⟨⟨i0, i1⟩, h1, h2⟩
  dsimp only at i0 i1 h1 h2 ⊢
  obtain ⟨⟨a0, a1⟩, b, c⟩ := zCvO hn hw hu hs i0 i1
  by_cases hi : i < w.length
  · have e := z1EM (n := n) (s := s) i0 hi
    have hx := hw.2 _ (zmAQ i0 hi)
    have ln := hn.lens
    have rw' := hn.row _ a0 a1
    have hc := hn.calls
    have hin := hn.inns
    have hrt := hn.rets
    have hw1 := hw.1
    have k1 : k ≤ i.toNat := h1.2
    have k2 : k ≤ xs.length := h1.1
    by_cases c1 : ix w i < n.calls
    · have p1 := zZDd (x := ix (ix n.push (n.runp s w i).1) (ix w i)) h1
      have e' : n.runp s w (i + 1) = (ix (ix n.call (n.runp s w i).1) (ix w i), ix (ix n.push (n.runp s w i).1) (ix w i) :: (n.runp s w i).2) := by rw [e, Nst.step, if_pos c1]
      have d1 : (n.runp s w i).1 < n.call.length := by omega
      have d2 : (n.runp s w i).1 < n.push.length := by omega
      have d3 : ix w i < (ix n.call (n.runp s w i).1).length := by omega
      have d4 : ix w i < (ix n.push (n.runp s w i).1).length := by omega
      rw [h2] at p1
      by_cases hk : xs.length = k
      · simp only [stPush, hk, if_true] at p1
        simp [hi, i0, c1, show ¬ n.calls ≤ ix w i by omega, hk, a0, d1, d2, d3, d4, hx.1, -zJRc]
        (repeat' apply And.intro) <;> try omega
        refine zGkM (i + 1, xs ++ [ix (ix n.push (n.runp s w i).1) (ix w i)], k + 1) (by simp [e', hk]) (by simp) ⟨⟨by dsimp only; omega, by dsimp only; omega⟩, ?_, ?_⟩ (by dsimp only; omega)
        · show stOk (i + 1).toNat _
          rw [show (i + 1).toNat = i.toNat + 1 by omega]; exact p1.2
        · show _ = (n.runp s w (i + 1)).2
          rw [e']; exact p1.1
      · simp only [stPush, hk, if_false] at p1
        simp [hi, i0, c1, show ¬ n.calls ≤ ix w i by omega, hk, a0, d1, d2, d3, d4, hx.1, show k < xs.length by omega, -zJRc]
        (repeat' apply And.intro) <;> try omega
        refine zGkM (i + 1, xs.set k (ix (ix n.push (n.runp s w i).1) (ix w i)), k + 1) (by simp [e']) (by simp) ⟨⟨by dsimp only; omega, by dsimp only; omega⟩, ?_, ?_⟩ (by dsimp only; omega)
        · show stOk (i + 1).toNat _
          rw [show (i + 1).toNat = i.toNat + 1 by omega]; exact p1.2
        · show _ = (n.runp s w (i + 1)).2
          rw [e']; exact p1.1
    by_cases c2 : ix w i < n.calls + n.inns
    · have e' : n.runp s w (i + 1) = (ix (ix n.inner (n.runp s w i).1) (ix w i - n.calls), (n.runp s w i).2) := by rw [e, Nst.step, if_neg c1, if_pos c2]
      have d1 : (n.runp s w i).1 < n.inner.length := by omega
      have d2 : ix w i - n.calls < (ix n.inner (n.runp s w i).1).length := by omega
      simp [hi, i0, c1, c2, show n.calls ≤ ix w i by omega, show ¬ n.calls + n.inns ≤ ix w i by omega, a0, d1, d2, -zJRc]
      (repeat' apply And.intro) <;> try omega
      refine zGkM (i + 1, xs, k) (by simp [e']) (by simp) ⟨⟨by dsimp only; omega, by dsimp only; omega⟩, ?_, ?_⟩ (by dsimp only; omega)
      · simp only [stOk] at h1 ⊢; omega
      · show _ = (n.runp s w (i + 1)).2
        rw [e']; exact h2
    · have e' : n.runp s w (i + 1) = (ix (ix (ix n.pop (n.runp s w i).1) (hd (n.runp s w i).2)) (ix w i - n.calls - n.inns), (n.runp s w i).2.tail) := by rw [e, Nst.step, if_neg c1, if_neg c2]
      have hup := hu (i + 1) (by omega) (by omega)
      rw [zBTV i0 hi] at hup
      simp only [Nst.lev3, Nst.lev, if_neg c1, if_pos (show n.calls + n.inns ≤ ix w i by omega)] at hup
      have hne : (n.runp s w i).2 ≠ [] := fun h => by rw [h] at b; simp at b; omega
      obtain ⟨p1, p2, _, _, rfl2, p3, p4, p5⟩ := zcxV h1 (by rw [h2]; exact hne)
      cases rfl2
      rw [h2] at p1 p5
      have hg : hd (n.runp s w i).2 ∈ (n.runp s w i).2 := by
        obtain ⟨g, l, hgl⟩ := List.exists_cons_of_ne_nil hne
        rw [hgl, zt54]; simp
      have qg := c _ hg
      have d1 : (n.runp s w i).1 < n.pop.length := by omega
      have d2 : hd (n.runp s w i).2 < (ix n.pop (n.runp s w i).1).length := by omega
      have d3 := hn.popl _ _ a0 a1 qg.1 qg.2
      have d4 : ix w i - n.calls - n.inns < (ix (ix n.pop (n.runp s w i).1) (hd (n.runp s w i).2)).length := by omega
      have hxs : xs ≠ [] := fun h => by rw [h] at p4; simp at p4; omega
      have p5' : ix xs ((k - 1 : Nat) : Int) = hd (n.runp s w i).2 := by rw [show (((k - 1 : Nat) : Int)) = (k : Int) - 1 by omega]; exact p5
      simp [hi, i0, c1, c2, show n.calls ≤ ix w i by omega, show n.calls + n.inns ≤ ix w i by omega, a0, d1, -zJRc, p5, p5', hxs]
      (repeat' apply And.intro) <;> try omega
      refine zGkM (i + 1, xs, k - 1) (by simp [e']) (by simp) ⟨⟨by dsimp only; omega, by dsimp only; omega⟩, ?_, ?_⟩ (by dsimp only; omega)
      · simp only [stPop, stOk] at p2 ⊢; omega
      · show _ = (n.runp s w (i + 1)).2
        rw [e']; exact p1
  · rw [← zFBF (n := n) (s := s) (w := w) (i := i) (by omega)]
    simp [hi]
def Nst.mat (n : Nst) (w : List Int) : Bool := decide ((n.levs w).2.2 = 0) && decide ((n.levs w).1 = 0)
def Nst.syms (n : Nst) : Int := n.calls + n.inns + n.rets
def Nst.matched (n : Nst) (w : List Int) : Bool := decide (n.validE = 0) && (decide (wordE w n.syms = 0) && n.mat w)
theorem Ok.sum {n : Nst} (h : n.Ok) : inR (n.calls + n.inns) = true ∧ inR (n.calls + n.inns + n.rets) = true := by
  have := h.calls; have := h.inns; have := h.rets
  rw [zwIQ, zwIQ]; omega
theorem zQS8 (n : Nst) (hf : n.fits) (w : List Int) (hl : (w.length : Int) ≤ 9223372036854775807) : PC zYu2 [n.av, iL w] = some (.bool (n.matched w)) := by
  refine zx72 (zddp rfl ?_)
  have e1 := zwfm n hf
  by_cases hv : n.validE = 0
  · have ok := zdZr hv
    have e2 := zZwh n (Ok.sum ok).1 (Ok.sum ok).2
    have e3 : PC z0Tq [iL w, .int (n.calls + n.inns + n.rets)] = some (.int (wordE w n.syms)) := zcuG w _ hl
    by_cases hw : wordE w n.syms = 0
    · have e4 := zN95 n w (Ok.sum ok).1 ok.inns.1 (by have := (zPiW hw).1; omega)
      by_cases hz : (n.levs w).2.2 = 0 <;> simp [e1, hv, e2, e3, hw, e4, Nst.matched, Nst.mat, hz]
    · simp [e1, hv, e2, e3, hw, Nst.matched]
  · simp [e1, hv, Nst.matched]
def Nst.acc (n : Nst) (w : List Int) : Bool × Int :=
  if n.validE ≠ 0 then (false, n.validE)
  else if wordE w n.syms ≠ 0 then (false, wordE w n.syms)
  else if 64 < (n.levs w).2.1 then (false, 16)
  else if n.mat w = false then (false, 0)
  else (ix n.accept (n.run n.start w).1, 0)
theorem mat_t {n : Nst} {w : List Int} (h : n.mat w = true) : (n.levs w).2.2 = 0 ∧ (n.levs w).1 = 0 := by simpa [Nst.mat] using h
theorem zY3J (n : Nst) (hf : n.fits) (w : List Int) (hl : (w.length : Int) ≤ 9223372036854775807) : PC zWb8 [n.av, iL w] = some (.tup [.bool (n.acc w).1, .int (n.acc w).2]) := by
  refine zx72 (znNM rfl ?_)
  have e1 := zYdA n hf
  by_cases hv : n.validE = 0
  case neg => simp [e1, hv, Nst.acc]
  have ok := zdZr hv
  have e2 := zeXw n (Ok.sum ok).1 (Ok.sum ok).2
  have e3 : PC zxtP [iL w, .int (n.calls + n.inns + n.rets)] = some (.int (wordE w n.syms)) := zJ4o w _ hl
  by_cases hw : wordE w n.syms = 0
  case neg => simp [e1, hv, e2, e3, hw, Nst.acc]
  have hwd := zPiW hw
  have e4 : PC zA6r [n.av, iL w] = some (.tup [.int (n.levs w).2.1, .bool (n.mat w)]) := zor6 n w (Ok.sum ok).1 (by have := hwd.1; omega)
  by_cases hm : 64 < (n.levs w).2.1
  · simp [e1, hv, e2, e3, hw, e4, hm, Nst.acc]
  by_cases hb : n.mat w = true
  case neg => simp [e1, hv, e2, e3, hw, e4, hm, hb, Nst.acc]
  have hu := up_of (mat_t hb).1
  have hs := ok.start
  rw [show n.acc w = (ix n.accept (n.run n.start w).1, 0) by simp [Nst.acc, hv, hw, hm, hb]]
  simp [e1, hv, e2, e3, hw, e4, hm, hb]
  refine zv8C (fun p : Int × Option (List Int × Nat) => [(7, .int p.1), (12, .int (n.runp n.start w p.1).1)]) (fun p => stC p.2) (fun p => (0 ≤ p.1 ∧ p.1 ≤ w.length) ∧ stOk p.1.toNat p.2 ∧ stL p.2 = (n.runp n.start w p.1).2) (fun p => (w.length - p.1).toNat) (0, none) (by rfl) ⟨⟨by simp, by simp⟩, by simp [stOk], rfl⟩ ?_
  rintro ⟨i, o⟩ ⟨⟨i0, i1⟩, h1, h2⟩
  dsimp only at i0 i1 h1 h2 ⊢
  obtain ⟨⟨a0, a1⟩, b, c⟩ := zCvO ok hwd hu hs i0 i1
  by_cases hi : i < w.length
  · have e := z1EM (n := n) (s := n.start) i0 hi
    have hx := hwd.2 _ (zmAQ i0 hi)
    have ln := ok.lens
    have rw' := ok.row _ a0 a1
    have hc := ok.calls
    have hin := ok.inns
    have hrt := ok.rets
    have hw1 := hwd.1
    have hso : stOk 100000 o := by
      cases o with
      | none => trivial
      | some p => obtain ⟨xs, k⟩ := p; simp only [stOk] at h1 ⊢; omega
    by_cases c1 : ix w i < n.calls
    · have p1 := zZDd (x := ix (ix n.push (n.runp n.start w i).1) (ix w i)) h1
      have e' : n.runp n.start w (i + 1) = (ix (ix n.call (n.runp n.start w i).1) (ix w i), ix (ix n.push (n.runp n.start w i).1) (ix w i) :: (n.runp n.start w i).2) := by rw [e, Nst.step, if_pos c1]
      have q1 := ztAv n (n.runp n.start w i).1 (ix w i) a0 (by omega) (by omega) hx.1 (by omega) (by omega)
      have q2 := z3h3 (ix (ix n.push (n.runp n.start w i).1) (ix w i)) o hso
      simp [hi, i0, c1, q1, q2, -zJRc]
      (repeat' apply And.intro) <;> try omega
      refine zGkM (i + 1, stPush (ix (ix n.push (n.runp n.start w i).1) (ix w i)) o) (by simp [e']) (by simp) ⟨⟨by dsimp only; omega, by dsimp only; omega⟩, ?_, ?_⟩ (by dsimp only; omega)
      · show stOk (i + 1).toNat _
        rw [show (i + 1).toNat = i.toNat + 1 by omega]; exact p1.2
      · show _ = (n.runp n.start w (i + 1)).2
        rw [e', ← h2]; exact p1.1
    by_cases c2 : ix w i < n.calls + n.inns
    · have e' : n.runp n.start w (i + 1) = (ix (ix n.inner (n.runp n.start w i).1) (ix w i - n.calls), (n.runp n.start w i).2) := by rw [e, Nst.step, if_neg c1, if_pos c2]
      have q1 := zhu3 n (n.runp n.start w i).1 (ix w i - n.calls) a0 (by omega) (by omega) (by omega)
      simp [hi, i0, c1, c2, q1, -zJRc]
      (repeat' apply And.intro) <;> try omega
      refine zGkM (i + 1, o) (by simp [e']) (by simp) ⟨⟨by dsimp only; omega, by dsimp only; omega⟩, ?_, ?_⟩ (by dsimp only; omega)
      · cases o with
        | none => trivial
        | some p => obtain ⟨xs, k⟩ := p; simp only [stOk] at h1 ⊢; omega
      · show _ = (n.runp n.start w (i + 1)).2
        rw [e']; exact h2
    · have e' : n.runp n.start w (i + 1) = (ix (ix (ix n.pop (n.runp n.start w i).1) (hd (n.runp n.start w i).2)) (ix w i - n.calls - n.inns), (n.runp n.start w i).2.tail) := by rw [e, Nst.step, if_neg c1, if_neg c2]
      have hup := hu (i + 1) (by omega) (by omega)
      rw [zBTV i0 hi] at hup
      simp only [Nst.lev3, Nst.lev, if_neg c1, if_pos (show n.calls + n.inns ≤ ix w i by omega)] at hup
      have hne : (n.runp n.start w i).2 ≠ [] := fun h => by rw [h] at b; simp at b; omega
      obtain ⟨p1, p2, xs, k, rfl, p3, p4, p5⟩ := zcxV h1 (by rw [h2]; exact hne)
      rw [h2] at p1 p5
      have hg : hd (n.runp n.start w i).2 ∈ (n.runp n.start w i).2 := by
        obtain ⟨g, l, hgl⟩ := List.exists_cons_of_ne_nil hne
        rw [hgl, zt54]; simp
      have qg := c _ hg
      have d3 := ok.popl _ _ a0 a1 qg.1 qg.2
      have q1 := zwvy n (n.runp n.start w i).1 (hd (n.runp n.start w i).2) (ix w i - n.calls - n.inns) a0 (by omega) qg.1 (by omega) (by omega) (by omega)
      have q2 := pop_s xs k p3 p4 hso.2
      rw [p5] at q2
      simp [hi, i0, c1, c2, q1, q2, -zJRc]
      (repeat' apply And.intro) <;> try omega
      refine zGkM (i + 1, stPop (some (xs, k))) (by simp [e']) (by simp) ⟨⟨by dsimp only; omega, by dsimp only; omega⟩, ?_, ?_⟩ (by dsimp only; omega)
      · simp only [stPop, stOk] at p2 ⊢; omega
      · show _ = (n.runp n.start w (i + 1)).2
        rw [e']; exact p1
  · rw [zFBF (n := n) (s := n.start) (w := w) (i := i) (by omega)] at a0 a1 ⊢
    simp [hi, a0, a1]
end Ab
