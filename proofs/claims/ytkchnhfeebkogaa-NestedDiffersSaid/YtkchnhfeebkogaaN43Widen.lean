/- Functions of the library and small laws on lists that many proofs share. The check of an automaton, by the program and by the document. The document's check of an automaton. Runs of an automaton over a word: the program's and the document's. The state that a word leads to. Which states well-matched words connect. Tables of bools in memory, and machines behind an interface. The steps that consist of a call, a word and a return. Condition: none. -/
import Derived.Test.YtkchnhfeebkogaaIr
import Derived.Test.YtkchnhfeebkogaaAbL
set_option linter.all false
set_option maxRecDepth 100000
set_option maxHeartbeats 4000000
namespace Ab
noncomputable abbrev PC := PCx L
def idx {α : Type} (p : α → Bool) (xs : List α) : Int := match xs.findIdx? p with
  | some i => i
  | none => -1
theorem znoA {α : Type} [Inhabited α] {p : α → Bool} {xs : List α} {i : Int} (h0 : 0 ≤ i) (h1 : i < xs.length) (h : p (ix xs i) = true) (h2 : ∀ j, 0 ≤ j → j < i → p (ix xs j) = false) : idx p xs = i := by
  have e : xs.findIdx? p = some i.toNat := by
    rw [List.findIdx?_eq_some_iff_getElem]
    refine ⟨by omega, ?_, fun j hj => ?_⟩
    · rw [← zrZW (by omega), show ((i.toNat : Nat) : Int) = i by omega]; exact h
    · have := h2 j (by omega) (by omega)
      rw [zrZW (by omega)] at this
      simp [this]
  unfold idx; rw [e]; simp; omega
theorem z9nJ {α : Type} [Inhabited α] {p : α → Bool} {xs : List α} (h2 : ∀ j, 0 ≤ j → j < (xs.length : Int) → p (ix xs j) = false) : idx p xs = -1 := by
  have e : xs.findIdx? p = none := by
    rw [List.findIdx?_eq_none_iff]
    intro x hx
    obtain ⟨i, hi, rfl⟩ := List.mem_iff_getElem.1 hx
    rw [← zrZW hi]; exact h2 i (by omega) (by omega)
  unfold idx; rw [e]
theorem zwD6 {α : Type} {p : α → Bool} {xs : List α} : decide (0 ≤ idx p xs) = xs.any p := by
  unfold idx
  cases h : xs.findIdx? p with
  | none =>
    rw [List.findIdx?_eq_none_iff] at h
    simp
    intro x hx; simpa using h x hx
  | some i =>
    rw [List.findIdx?_eq_some_iff_getElem] at h
    obtain ⟨h1, h2, _⟩ := h
    simp
    exact ⟨_, List.getElem_mem h1, h2⟩
def firstN (f : Int → Int) (n : Int) : Int := (((List.range n.toNat).map fun i => f (i : Nat)).find? fun x => x != 0).getD 0
theorem zUdY {f : Int → Int} {n i : Int} (h0 : 0 ≤ i) (h1 : i < n) (h : f i ≠ 0) (h2 : ∀ j, 0 ≤ j → j < i → f j = 0) : firstN f n = f i := by
  have e : (((List.range n.toNat).map fun i => f (i : Nat)).find? fun x => x != 0) = some (f i) := by
    rw [List.find?_eq_some_iff_getElem]
    refine ⟨by simpa using h, i.toNat, by simp; omega, by simp; congr 1; omega, fun j hj => ?_⟩
    simp; exact h2 j (by omega) (by omega)
  unfold firstN; rw [e]; rfl
theorem zs2N {f : Int → Int} {n : Int} (h2 : ∀ j, 0 ≤ j → j < n → f j = 0) : firstN f n = 0 := by
  have e : (((List.range n.toNat).map fun i => f (i : Nat)).find? fun x => x != 0) = none := by
    rw [List.find?_eq_none]
    simp
    intro a ha; exact h2 a (by omega) (by omega)
  unfold firstN; rw [e]; rfl
theorem zdWJ {f : Int → Int} {n : Int} : firstN f n = 0 ↔ ∀ j, 0 ≤ j → j < n → f j = 0 := by
  constructor
  · intro h j h0 h1
    unfold firstN at h
    cases e : (((List.range n.toNat).map fun i => f (i : Nat)).find? fun x => x != 0) with
    | none =>
      rw [List.find?_eq_none] at e
      simp at e
      have := e j.toNat (by omega)
      rwa [show ((j.toNat : Nat) : Int) = j by omega] at this
    | some x =>
      have hx := List.find?_some e
      rw [e] at h; simp at h hx; exact absurd h hx
  · exact zs2N
theorem zvtS {P : Int → Prop} {i : Int} (h : P i) (h2 : ∀ j, 0 ≤ j → j < i → P j) : ∀ j, 0 ≤ j → j < i + 1 → P j := by
  intro j a b
  by_cases e : j = i
  · subst e; exact h
  · exact h2 j a (by omega)
theorem zguy {P : Int → Prop} : ∀ j, 0 ≤ j → j < (0 : Int) → P j := fun j a b => by omega
theorem zuE9 (xs : List Int) (f : Nat) (caps : List AV) (p : Int → Bool) (hl : (xs.length : Int) ≤ 9223372036854775807) (hc : noLocs caps = true)
    (hp : ∀ x ∈ xs, PC f (.int x :: caps.map wk) = some (.bool (p x))) : PC z2JZ [iL xs, .func f caps] = some (.int (idx p xs)) := by
  refine zx72 (zfZ8 rfl ?_)
  simp
  refine zv8C (fun i : Int => [(2, .int i)]) (fun _ => []) (fun i => 0 ≤ i ∧ i ≤ xs.length ∧ ∀ j, 0 ≤ j → j < i → p (ix xs j) = false) (fun i => (xs.length - i).toNat) 0 rfl (by simp; omega) fun i ⟨h0, h1, h2⟩ => ?_
  by_cases hi : i < xs.length
  · have hq := hp _ (zmAQ h0 hi)
    simp [hi, h0, hc, hq]
    exact ⟨fun h => (znoA h0 hi h h2).symm, fun h => ⟨by omega, ⟨by omega, by omega, zvtS h h2⟩, by omega⟩⟩
  · simp [hi]
    rw [z9nJ fun j a b => h2 j a (by omega)]
theorem zSG9 (xs : List Int) (f : Nat) (caps : List AV) (p : Int → Bool) (hl : (xs.length : Int) ≤ 9223372036854775807) (hc : noLocs caps = true) (hw : caps.map wk = caps)
    (hp : ∀ x ∈ xs, PC f (.int x :: caps) = some (.bool (p x))) : PC zc7Y [iL xs, .func f caps] = some (.bool (xs.any p)) := by
  refine zx72 (zfQo rfl ?_)
  simp [hc, hw, zuE9 xs f caps p hl hc (by rw [hw]; exact hp)]
  exact zwD6
def out1 (k x : Int) : Bool := decide (x < 0) || decide (k ≤ x)
theorem zyIb {k x : Int} : out1 k x = false ↔ 0 ≤ x ∧ x < k := by simp [out1]
def bad (xs : List Int) (k : Int) : Bool := xs.any (out1 k)
theorem bad_f {xs : List Int} {k : Int} : bad xs k = false ↔ ∀ x ∈ xs, 0 ≤ x ∧ x < k := by
  simp [bad, List.any_eq_false, out1]
theorem z1UL {xs : List Int} {k : Int} : bad xs k = false ↔ ∀ j, 0 ≤ j → j < (xs.length : Int) → 0 ≤ ix xs j ∧ ix xs j < k := by
  rw [bad_f]
  constructor
  · exact fun h j a b => h _ (zmAQ a b)
  · intro h x hx
    obtain ⟨i, hi, rfl⟩ := List.mem_iff_getElem.1 hx
    rw [← zrZW hi]; exact h i (by omega) (by omega)
theorem bad_t {xs : List Int} {k j : Int} (h0 : 0 ≤ j) (h1 : j < xs.length) (h : out1 k (ix xs j) = true) : bad xs k = true := by
  cases hb : bad xs k with
  | true => rfl
  | false => rw [zyIb.2 (z1UL.1 hb j h0 h1)] at h; exact h
theorem bad_n {xs : List Int} {k : Int} (h : ∀ j, 0 ≤ j → j < (xs.length : Int) → out1 k (ix xs j) = false) : bad xs k = false :=
  z1UL.2 fun j a b => zyIb.1 (h j a b)
theorem zjcv {k x : Int} : (!out1 k x) = (decide (0 ≤ x) && decide (x < k)) := by
  rw [Bool.eq_iff_iff]; simp [out1]
def wordE (w : List Int) (k : Int) : Int := if k < 1 ∨ 1024 < k then 2 else if 1024 < (w.length : Int) then 3 else if bad w k = true then 1 else 0
end Ab
namespace Ab
structure Nst where
  calls : Int
  inns : Int
  rets : Int
  stack : Int
  start : Int
  accept : List Bool
  call : List (List Int)
  push : List (List Int)
  inner : List (List Int)
  pop : List (List (List Int))
  deriving Inhabited
abbrev Nst.av (n : Nst) : AV := .agg [.int n.calls, .int n.inns, .int n.rets, .int n.stack, .int n.start, bL n.accept, iLL n.call, iLL n.push, iLL n.inner, iLLL n.pop]
structure Nst.fits (n : Nst) : Prop where
  calls : inR n.calls = true
  inns : inR n.inns = true
  rets : inR n.rets = true
  stack : inR n.stack = true
  start : inR n.start = true
  accept : (n.accept.length : Int) ≤ 9223372036854775807
  call : ∀ l ∈ n.call, (l.length : Int) ≤ 9223372036854775807
  push : ∀ l ∈ n.push, (l.length : Int) ≤ 9223372036854775807
  inner : ∀ l ∈ n.inner, (l.length : Int) ≤ 9223372036854775807
  pop : ∀ l ∈ n.pop, (l.length : Int) ≤ 9223372036854775807 ∧ ∀ m ∈ l, (m.length : Int) ≤ 9223372036854775807
theorem zNem (x k : Int) : PC zhiY [.int x, .pimm (.int k)] = some (.bool (out1 k x)) := by
  refine zx72 (z5Hk rfl ?_)
  simp [out1]
  omega
theorem zXAT (xs : List Int) (k : Int) (hl : (xs.length : Int) ≤ 9223372036854775807): PC zTfU [iL xs, .int k] = some (.bool (bad xs k)) := by
  refine zx72 (zsRO rfl ?_)
  simp [zSG9 xs zhiY [.pimm (.int k)] (out1 k) hl rfl rfl (fun x _ => zNem x k)]
  rfl
theorem zeXw (n : Nst) (h1 : inR (n.calls + n.inns) = true) (h2 : inR (n.calls + n.inns + n.rets) = true) : PC z92w [n.av] = some (.int (n.calls + n.inns + n.rets)) := by
  refine zx72 (zQII rfl ?_)
  simp
  rw [zwIQ] at h1 h2
  omega
theorem zZwh (n : Nst) (h1 : inR (n.calls + n.inns) = true) (h2 : inR (n.calls + n.inns + n.rets) = true) : PC zVDQ [n.av] = some (.int (n.calls + n.inns + n.rets)) := by
  refine zx72 (z9nN rfl ?_)
  simp
  rw [zwIQ] at h1 h2
  omega
def Nst.popE (n : Nst) (l : List Int) : Int := if (l.length : Int) ≠ n.rets then 1 else if bad l n.accept.length = true then 2 else 0
def Nst.rowE (n : Nst) (s : Int) : Int :=
  if ¬ ((ix n.call s).length : Int) = n.calls ∨ ¬ ((ix n.push s).length : Int) = n.calls ∨ ¬ ((ix n.inner s).length : Int) = n.inns ∨ ¬ ((ix n.pop s).length : Int) = n.stack then 1
  else if bad (ix n.call s) n.accept.length = true ∨ bad (ix n.push s) n.stack = true ∨ bad (ix n.inner s) n.accept.length = true then 2
  else firstN (fun g => n.popE (ix (ix n.pop s) g)) (ix n.pop s).length
theorem row_s (n : Nst) (h : n.fits) (s : Int) (h0 : 0 ≤ s) (h1 : s < n.call.length) (h2 : s < n.push.length) (h3 : s < n.inner.length) (h4 : s < n.pop.length) : PC ze0B [n.av, .int s] = some (.int (n.rowE s)) := by
  have e1 := zXAT (ix n.call s) n.accept.length (h.call _ (zmAQ h0 h1))
  have e2 := zXAT (ix n.push s) n.stack (h.push _ (zmAQ h0 h2))
  have e3 := zXAT (ix n.inner s) n.accept.length (h.inner _ (zmAQ h0 h3))
  have hp := h.pop _ (zmAQ h0 h4)
  refine zx72 (zbNP rfl ?_)
  simp [h0, h1, h2, h3, h4, e1, e2, e3]
  have no : ∀ {a : Int}, 1 = n.rowE s → a = 1 → a = n.rowE s := fun h e => e.trans h
  refine ⟨fun a1 => ⟨fun a2 => ⟨fun a3 => ⟨fun a4 => ⟨fun b1 => by simp [Nst.rowE, a1, a2, a3, a4, b1], fun b1 => ⟨fun b2 => by simp [Nst.rowE, a1, a2, a3, a4, b2], fun b2 => ⟨fun b3 => by simp [Nst.rowE, a1, a2, a3, a4, b3], fun b3 => ?_⟩⟩⟩, fun a4 => by simp [Nst.rowE, a4]⟩, fun a3 => by simp [Nst.rowE, a3]⟩, fun a2 => by simp [Nst.rowE, a2]⟩, fun a1 => by simp [Nst.rowE, a1]⟩
  have e : n.rowE s = firstN (fun g => n.popE (ix (ix n.pop s) g)) (ix n.pop s).length := by simp [Nst.rowE, a1, a2, a3, a4, b1, b2, b3]
  rw [e]
  refine zv8C (fun i : Int => [(4, .int i)]) (fun _ => []) (fun i => 0 ≤ i ∧ i ≤ (ix n.pop s).length ∧ ∀ j, 0 ≤ j → j < i → n.popE (ix (ix n.pop s) j) = 0) (fun i => ((ix n.pop s).length - i).toNat) 0 rfl (by simp; omega) fun i ⟨i0, i1, i2⟩ => ?_
  by_cases hi : i < (ix n.pop s).length
  · have e4 := zXAT (ix (ix n.pop s) i) n.accept.length (hp.2 _ (zmAQ i0 hi))
    simp [hi, i0, e4]
    have q : ∀ {x : Int}, n.popE (ix (ix n.pop s) i) = x → x ≠ 0 → x = firstN (fun g => n.popE (ix (ix n.pop s) g)) (ix n.pop s).length := fun h1 h2 => by subst h1; exact (zUdY (f := fun g => n.popE (ix (ix n.pop s) g)) i0 hi h2 i2).symm
    refine ⟨fun c1 => ⟨fun c2 => q (by simp [Nst.popE, c1, c2]) (by simp), fun c2 => ⟨by omega, ⟨by omega, by omega, zvtS (by simp [Nst.popE, c1, c2]) i2⟩, by omega⟩⟩, fun c1 => q (by simp [Nst.popE, c1]) (by simp)⟩
  · simp [hi]
    rw [zs2N fun j a b => i2 j a (by omega)]
def Nst.sizeE (n : Nst) : Int :=
  if n.calls < 0 ∨ 65 ≤ n.calls ∨ n.inns < 0 ∨ 65 ≤ n.inns ∨ n.rets < 0 ∨ 65 ≤ n.rets then 2
  else if n.calls + n.inns + n.rets < 1 then 2
  else if 64 < n.calls + n.inns + n.rets then 2
  else if n.stack < 1 then 2
  else if 128 < n.stack then 2
  else if n.accept = [] then 19
  else if 128 < (n.accept.length : Int) then 11
  else if n.start < 0 then 2
  else if (n.accept.length : Int) ≤ n.start then 2
  else if ¬ (n.call.length : Int) = n.accept.length then 1
  else if ¬ (n.push.length : Int) = n.accept.length then 1
  else if ¬ (n.inner.length : Int) = n.accept.length then 1
  else if ¬ (n.pop.length : Int) = n.accept.length then 1
  else 0
def Nst.validE (n : Nst) : Int := if n.sizeE ≠ 0 then n.sizeE else firstN n.rowE n.accept.length
theorem zp33 {n : Nst} {x : Int} (h : n.sizeE = x) (hx : x ≠ 0) : x = n.validE := by
  subst h; simp [Nst.validE, hx]
theorem zYdA (n : Nst) (h : n.fits) : PC zwyK [n.av] = some (.int n.validE) := by
  refine zx72 (z3bh rfl ?_)
  have e1 : PC zTfU [.imm false [.int n.calls, .int n.inns, .int n.rets], .int 65] = _ := zXAT [n.calls, n.inns, n.rets] 65 (by simp)
  by_cases hb : bad [n.calls, n.inns, n.rets] 65 = true
  · simp [e1, hb]
    simp [bad, out1] at hb
    exact zp33 (by simp [Nst.sizeE, show n.calls < 0 ∨ 65 ≤ n.calls ∨ n.inns < 0 ∨ 65 ≤ n.inns ∨ n.rets < 0 ∨ 65 ≤ n.rets by omega]) (by simp)
  have hb' := hb
  simp [bad, out1] at hb'
  have e2 := zeXw n (by rw [zwIQ]; omega) (by rw [zwIQ]; omega)
  have e0 : ¬ (n.calls < 0 ∨ 65 ≤ n.calls ∨ n.inns < 0 ∨ 65 ≤ n.inns ∨ n.rets < 0 ∨ 65 ≤ n.rets) := by omega
  simp [e1, hb, e2]
  repeat' (first | apply And.intro | intro _)
  all_goals try (refine zp33 ?_ (by simp); unfold Nst.sizeE; rw [if_neg e0]; repeat (first | rw [if_pos (by assumption)] | rw [if_neg (by assumption)] | rw [if_neg (by omega)]))
  rename_i a1 a2 a3 a4 a5 a6 a7 a8 b1 b2 b3 b4
  have e3 : n.sizeE = 0 := by unfold Nst.sizeE; rw [if_neg e0]; repeat (first | rw [if_pos (by assumption)] | rw [if_neg (by assumption)] | rw [if_neg (by omega)])
  rw [show n.validE = firstN n.rowE n.accept.length by simp [Nst.validE, e3]]
  refine zv8C (fun i : Int => [(3, .int i)]) (fun _ => []) (fun i => 0 ≤ i ∧ i ≤ n.accept.length ∧ ∀ j, 0 ≤ j → j < i → n.rowE j = 0) (fun i => (n.accept.length - i).toNat) 0 rfl (by simp; omega) fun i ⟨i0, i1, i2⟩ => ?_
  by_cases hi : i < n.accept.length
  · have e4 := row_s n h i i0 (by omega) (by omega) (by omega) (by omega)
    simp [hi, e4]
    exact ⟨fun hz => ⟨by omega, ⟨by omega, by omega, zvtS hz i2⟩, by omega⟩, fun hz => (zUdY i0 hi hz i2).symm⟩
  · simp [hi]
    rw [zs2N fun j a b => i2 j a (by omega)]
end Ab
namespace Ab
theorem zrWq (n : Nst) (s : Int) : PC zhAU [n.av, .int s] = some (.bool (!out1 n.accept.length s)) := by
  refine zx72 (zvs0 rfl ?_)
  rw [zjcv]
  simp
  exact ⟨fun a => by simp [a], fun a b => by omega⟩
theorem zJwB (n : Nst) : PC z5HB [n.av] = some (.int n.sizeE) := by
  refine zx72 (zxnm rfl ?_)
  by_cases e0 : n.calls < 0 ∨ 65 ≤ n.calls ∨ n.inns < 0 ∨ 65 ≤ n.inns ∨ n.rets < 0 ∨ 65 ≤ n.rets
  · rw [show n.sizeE = 2 by simp [Nst.sizeE, e0]]
    simp
    omega
  · have e2 := zZwh n (by rw [zwIQ]; omega) (by rw [zwIQ]; omega)
    have d1 : ¬ n.calls < 0 := by omega
    have d2 : ¬ n.calls > 64 := by omega
    have d3 : ¬ n.inns < 0 := by omega
    have d4 : ¬ n.inns > 64 := by omega
    have d5 : ¬ n.rets < 0 := by omega
    have d6 : ¬ n.rets > 64 := by omega
    simp [d1, d2, d3, d4, d5, d6, e2]
    repeat' (first | apply And.intro | intro _)
    all_goals (unfold Nst.sizeE; rw [if_neg e0]; repeat (first | rw [if_pos (by assumption)] | rw [if_neg (by assumption)] | rw [if_neg (by omega)]))
theorem zCrr (n : Nst) (h : n.fits) (s : Int) (h0 : 0 ≤ s) (h1 : s < n.call.length) (h2 : s < n.push.length) (h3 : s < n.inner.length) (h4 : s < n.pop.length) : PC z7L0 [n.av, .int s] = some (.int (n.rowE s)) := by
  refine zx72 (zKmR rfl ?_)
  have k1 := h.call _ (zmAQ h0 h1)
  have k2 := h.push _ (zmAQ h0 h2)
  have k3 := h.inner _ (zmAQ h0 h3)
  have k4 := h.pop _ (zmAQ h0 h4)
  simp [h0, h1, h2, h3, h4]
  refine ⟨fun a1 => ⟨fun a2 => ⟨fun a3 => ⟨fun a4 => ?_, fun a4 => by simp [Nst.rowE, a4]⟩, fun a3 => by simp [Nst.rowE, a3]⟩, fun a2 => by simp [Nst.rowE, a2]⟩, fun a1 => by simp [Nst.rowE, a1]⟩
  refine zv8C (fun i : Int => [(3, .int i)]) (fun _ => []) (fun i => 0 ≤ i ∧ i ≤ n.calls ∧ (∀ j, 0 ≤ j → j < i → out1 n.accept.length (ix (ix n.call s) j) = false) ∧ ∀ j, 0 ≤ j → j < i → out1 n.stack (ix (ix n.push s) j) = false) (fun i => (n.calls - i).toNat) 0 rfl ⟨by omega, by omega, zguy, zguy⟩ fun i ⟨i0, i1, i2, i3⟩ => ?_
  by_cases hi : i < n.calls
  · have e1 := zrWq n (ix (ix n.call s) i)
    simp [hi, e1, h0, h1, h2, i0, a1, a2]
    have q : bad (ix n.call s) n.accept.length = true ∨ bad (ix n.push s) n.stack = true ∨ bad (ix n.inner s) n.accept.length = true → 2 = n.rowE s := fun hh => by simp [Nst.rowE, a1, a2, a3, a4, hh]
    refine ⟨fun c1 => q (.inl (bad_t i0 (by omega) c1)), fun c1 => ⟨fun c2 => q (.inr (.inl (bad_t i0 (by omega) (by simp [out1, c2])))), fun c2 => ⟨fun c3 => q (.inr (.inl (bad_t i0 (by omega) (by simp [out1, c3])))), fun c3 => ⟨by omega, ⟨by omega, by omega, zvtS c1 i2, zvtS (zyIb.2 ⟨c2, c3⟩) i3⟩, by omega⟩⟩⟩⟩
  simp [hi]
  have b1 := bad_n (xs := ix n.call s) fun j a b => i2 j a (by omega)
  have b2 := bad_n (xs := ix n.push s) fun j a b => i3 j a (by omega)
  refine zv8C (fun i : Int => [(4, .int i)]) (fun _ => []) (fun i => 0 ≤ i ∧ i ≤ n.inns ∧ (∀ j, 0 ≤ j → j < i → out1 n.accept.length (ix (ix n.inner s) j) = false)) (fun i => (n.inns - i).toNat) 0 rfl ⟨by omega, by omega, zguy⟩ fun i' ⟨j0, j1, j2⟩ => ?_
  by_cases hj : i' < n.inns
  · have e1 := zrWq n (ix (ix n.inner s) i')
    simp [hj, e1, h0, h3, j0, a3]
    have q : bad (ix n.inner s) n.accept.length = true → 2 = n.rowE s := fun hh => by simp [Nst.rowE, a1, a2, a3, a4, hh]
    exact ⟨fun c1 => q (bad_t j0 (by omega) c1), fun c1 => ⟨by omega, ⟨by omega, by omega, zvtS c1 j2⟩, by omega⟩⟩
  simp [hj]
  have b3 := bad_n (xs := ix n.inner s) fun j a b => j2 j a (by omega)
  have e : n.rowE s = firstN (fun g => n.popE (ix (ix n.pop s) g)) (ix n.pop s).length := by simp [Nst.rowE, a1, a2, a3, a4, b1, b2, b3]
  rw [e]
  refine zv8C (fun i : Int => [(5, .int i)]) (fun _ => []) (fun i => 0 ≤ i ∧ i ≤ (ix n.pop s).length ∧ ∀ j, 0 ≤ j → j < i → n.popE (ix (ix n.pop s) j) = 0) (fun i => ((ix n.pop s).length - i).toNat) 0 rfl (by simp; omega) fun g ⟨g0, g1, g2⟩ => ?_
  have q : g < (ix n.pop s).length → ∀ {x : Int}, n.popE (ix (ix n.pop s) g) = x → x ≠ 0 → x = firstN (fun g => n.popE (ix (ix n.pop s) g)) (ix n.pop s).length := fun hg x h1 h2 => by subst h1; exact (zUdY (f := fun g => n.popE (ix (ix n.pop s) g)) g0 hg h2 g2).symm
  by_cases hg : g < (ix n.pop s).length
  · simp [show g < n.stack by omega, hg, h0, h4, g0]
    refine ⟨fun c1 => ?_, fun c1 => q hg (by simp [Nst.popE, c1]) (by simp)⟩
    have k5 := k4.2 _ (zmAQ g0 hg)
    refine zv8C (fun i : Int => [(6, .int i)]) (fun _ => []) (fun i => 0 ≤ i ∧ i ≤ n.rets ∧ (∀ j, 0 ≤ j → j < i → out1 n.accept.length (ix (ix (ix n.pop s) g) j) = false)) (fun i => (n.rets - i).toNat) 0 rfl ⟨by omega, by omega, zguy⟩ fun r ⟨r0, r1, r2⟩ => ?_
    by_cases hr : r < n.rets
    · have e1 := zrWq n (ix (ix (ix n.pop s) g) r)
      simp [hr, e1, h0, h4, g0, hg, r0, c1]
      exact ⟨fun c2 => q hg (by simp [Nst.popE, c1, bad_t r0 (by omega) c2]) (by simp), fun c2 => ⟨by omega, ⟨by omega, by omega, zvtS c2 r2⟩, by omega⟩⟩
    · simp [hr]
      exact ⟨by omega, ⟨by omega, by omega, zvtS (by simp [Nst.popE, c1, bad_n (xs := ix (ix n.pop s) g) fun j a b => r2 j a (by omega)]) g2⟩, by omega⟩
  · simp [show ¬ g < n.stack by omega]
    rw [zs2N fun j a b => g2 j a (by omega)]
theorem zwfm (n : Nst) (h : n.fits) : PC zvYE [n.av] = some (.int n.validE) := by
  refine zx72 (zoi9 rfl ?_)
  have e1 := zJwB n
  simp [e1]
  refine ⟨fun e3 => ?_, fun e3 => zp33 rfl e3⟩
  rw [show n.validE = firstN n.rowE n.accept.length by simp [Nst.validE, e3]]
  have ha := h.accept
  have hs : (n.call.length : Int) = n.accept.length ∧ (n.push.length : Int) = n.accept.length ∧ (n.inner.length : Int) = n.accept.length ∧ (n.pop.length : Int) = n.accept.length := by
    unfold Nst.sizeE at e3
    (repeat' split at e3) <;> omega
  refine zv8C (fun i : Int => [(3, .int i)]) (fun _ => []) (fun i => 0 ≤ i ∧ i ≤ n.accept.length ∧ ∀ j, 0 ≤ j → j < i → n.rowE j = 0) (fun i => (n.accept.length - i).toNat) 0 rfl (by simp; omega) fun i ⟨i0, i1, i2⟩ => ?_
  by_cases hi : i < n.accept.length
  · have e4 := zCrr n h i i0 (by omega) (by omega) (by omega) (by omega)
    simp [hi, e4]
    exact ⟨fun hz => ⟨by omega, ⟨by omega, by omega, zvtS hz i2⟩, by omega⟩, fun hz => (zUdY i0 hi hz i2).symm⟩
  · simp [hi]
    rw [zs2N fun j a b => i2 j a (by omega)]
end Ab
namespace Ab
def Nst.lev (n : Nst) (l x : Int) : Int := if x < n.calls then l + 1 else if n.calls + n.inns ≤ x then l - 1 else l
def Nst.lev3 (n : Nst) (p : Int × Int × Int) (x : Int) : Int × Int × Int := (n.lev p.1 x, max p.2.1 (n.lev p.1 x), min p.2.2 (n.lev p.1 x))
def Nst.levs (n : Nst) (w : List Int) : Int × Int × Int := w.foldl n.lev3 (0, 0, 0)
def Nst.lvp (n : Nst) (w : List Int) (i : Int) : Int × Int × Int := (w.take i.toNat).foldl n.lev3 (0, 0, 0)
structure Nst.Ok (n : Nst) : Prop where
  calls : 0 ≤ n.calls ∧ n.calls ≤ 64
  inns : 0 ≤ n.inns ∧ n.inns ≤ 64
  rets : 0 ≤ n.rets ∧ n.rets ≤ 64
  syms : 1 ≤ n.calls + n.inns + n.rets ∧ n.calls + n.inns + n.rets ≤ 64
  stack : 1 ≤ n.stack ∧ n.stack ≤ 128
  states : 1 ≤ (n.accept.length : Int) ∧ (n.accept.length : Int) ≤ 128
  start : 0 ≤ n.start ∧ n.start < n.accept.length
  lens : (n.call.length : Int) = n.accept.length ∧ (n.push.length : Int) = n.accept.length ∧ (n.inner.length : Int) = n.accept.length ∧ (n.pop.length : Int) = n.accept.length
  row : ∀ s, 0 ≤ s → s < (n.accept.length : Int) → ((ix n.call s).length : Int) = n.calls ∧ ((ix n.push s).length : Int) = n.calls ∧ ((ix n.inner s).length : Int) = n.inns ∧ ((ix n.pop s).length : Int) = n.stack
  call : ∀ s c, 0 ≤ s → s < (n.accept.length : Int) → 0 ≤ c → c < n.calls → 0 ≤ ix (ix n.call s) c ∧ ix (ix n.call s) c < n.accept.length
  push : ∀ s c, 0 ≤ s → s < (n.accept.length : Int) → 0 ≤ c → c < n.calls → 0 ≤ ix (ix n.push s) c ∧ ix (ix n.push s) c < n.stack
  inner : ∀ s c, 0 ≤ s → s < (n.accept.length : Int) → 0 ≤ c → c < n.inns → 0 ≤ ix (ix n.inner s) c ∧ ix (ix n.inner s) c < n.accept.length
  popl : ∀ s g, 0 ≤ s → s < (n.accept.length : Int) → 0 ≤ g → g < n.stack → ((ix (ix n.pop s) g).length : Int) = n.rets
  pop : ∀ s g r, 0 ≤ s → s < (n.accept.length : Int) → 0 ≤ g → g < n.stack → 0 ≤ r → r < n.rets → 0 ≤ ix (ix (ix n.pop s) g) r ∧ ix (ix (ix n.pop s) g) r < n.accept.length
theorem zwsZ {n : Nst} (h : n.sizeE = 0) : (0 ≤ n.calls ∧ n.calls ≤ 64) ∧ (0 ≤ n.inns ∧ n.inns ≤ 64) ∧ (0 ≤ n.rets ∧ n.rets ≤ 64) ∧ (1 ≤ n.calls + n.inns + n.rets ∧ n.calls + n.inns + n.rets ≤ 64) ∧ (1 ≤ n.stack ∧ n.stack ≤ 128) ∧ (1 ≤ (n.accept.length : Int) ∧ (n.accept.length : Int) ≤ 128) ∧ (0 ≤ n.start ∧ n.start < n.accept.length) ∧ (n.call.length : Int) = n.accept.length ∧ (n.push.length : Int) = n.accept.length ∧ (n.inner.length : Int) = n.accept.length ∧ (n.pop.length : Int) = n.accept.length := by
  unfold Nst.sizeE at h
  have hl : n.accept ≠ [] → 1 ≤ (n.accept.length : Int) := fun h => by
    have := List.length_pos_iff.2 h
    omega
  by_cases ha : n.accept = []
  · simp only [if_pos ha] at h
    (repeat' split at h) <;> omega
  · have := hl ha
    simp only [if_neg ha] at h
    (repeat' split at h) <;> omega
theorem zpP0 {n : Nst} {s : Int} (h : n.rowE s = 0) : (((ix n.call s).length : Int) = n.calls ∧ ((ix n.push s).length : Int) = n.calls ∧ ((ix n.inner s).length : Int) = n.inns ∧ ((ix n.pop s).length : Int) = n.stack) ∧ bad (ix n.call s) n.accept.length = false ∧ bad (ix n.push s) n.stack = false ∧ bad (ix n.inner s) n.accept.length = false ∧ ∀ g, 0 ≤ g → g < n.stack → ((ix (ix n.pop s) g).length : Int) = n.rets ∧ bad (ix (ix n.pop s) g) n.accept.length = false := by
  unfold Nst.rowE at h
  split at h
  · simp at h
  rename_i a
  split at h
  · simp at h
  rename_i b
  simp only [not_or, Classical.not_not, Bool.not_eq_true] at a b
  refine ⟨a, b.1, b.2.1, b.2.2, fun g g0 g1 => ?_⟩
  have := zdWJ.1 h g g0 (by omega)
  simp only [Nst.popE] at this
  split at this
  · simp at this
  rename_i c
  split at this
  · simp at this
  rename_i d
  exact ⟨by simpa using c, by simpa using d⟩
theorem zdZr {n : Nst} (h : n.validE = 0) : n.Ok := by
  have hs : n.sizeE = 0 := by
    unfold Nst.validE at h
    split at h
    · rename_i a; exact absurd h a
    · rename_i a; simpa using a
  have hr : ∀ s, 0 ≤ s → s < (n.accept.length : Int) → n.rowE s = 0 := by
    unfold Nst.validE at h
    rw [if_neg (by simpa using hs)] at h
    exact zdWJ.1 h
  obtain ⟨h1, h2, h3, h4, h5, h6, h7, h8⟩ := zwsZ hs
  have R := fun s s0 s1 => zpP0 (hr s s0 s1)
  exact ⟨h1, h2, h3, h4, h5, h6, h7, h8, fun s s0 s1 => (R s s0 s1).1, fun s c s0 s1 c0 c1 => z1UL.1 (R s s0 s1).2.1 c c0 (by have := (R s s0 s1).1; omega), fun s c s0 s1 c0 c1 => z1UL.1 (R s s0 s1).2.2.1 c c0 (by have := (R s s0 s1).1; omega), fun s c s0 s1 c0 c1 => z1UL.1 (R s s0 s1).2.2.2.1 c c0 (by have := (R s s0 s1).1; omega), fun s g s0 s1 g0 g1 => ((R s s0 s1).2.2.2.2 g g0 g1).1, fun s g r s0 s1 g0 g1 r0 r1 => z1UL.1 ((R s s0 s1).2.2.2.2 g g0 g1).2 r r0 (by have := ((R s s0 s1).2.2.2.2 g g0 g1).1; omega)⟩
def Nst.word (n : Nst) (w : List Int) : Prop := (w.length : Int) ≤ 1024 ∧ ∀ x ∈ w, 0 ≤ x ∧ x < n.calls + n.inns + n.rets
end Ab
namespace Ab
theorem ztAv (n : Nst) (s c : Int) (s0 : 0 ≤ s) (s1 : s < n.call.length) (s2 : s < n.push.length) (c0 : 0 ≤ c) (c1 : c < (ix n.call s).length) (c2 : c < (ix n.push s).length) : PC zfSc [n.av, .int s, .int c] = some (.tup [.int (ix (ix n.call s) c), .int (ix (ix n.push s) c)]) := by
  refine zx72 (zADD rfl ?_)
  simp [s0, s1, s2, c0, c1, c2]
theorem zhu3 (n : Nst) (s c : Int) (s0 : 0 ≤ s) (s1 : s < n.inner.length) (c0 : 0 ≤ c) (c1 : c < (ix n.inner s).length) : PC zhMi [n.av, .int s, .int c] = some (.int (ix (ix n.inner s) c)) := by
  refine zx72 (zmkb rfl ?_)
  simp [s0, s1, c0, c1]
theorem zwvy (n : Nst) (s g r : Int) (s0 : 0 ≤ s) (s1 : s < n.pop.length) (g0 : 0 ≤ g) (g1 : g < (ix n.pop s).length) (r0 : 0 ≤ r) (r1 : r < (ix (ix n.pop s) g).length) : PC zNTN [n.av, .int s, .int g, .int r] = some (.int (ix (ix (ix n.pop s) g) r)) := by
  refine zx72 (zMJ2 rfl ?_)
  simp [s0, s1, g0, g1, r0, r1]
theorem z6bl (n : Nst) : PC zFCU [n.av] = some (.int n.accept.length) := by
  refine zx72 (zY6J rfl ?_)
  simp
def hd (l : List Int) : Int := l.headD 0
def Nst.step (n : Nst) (p : Int × List Int) (x : Int) : Int × List Int :=
  if x < n.calls then (ix (ix n.call p.1) x, ix (ix n.push p.1) x :: p.2)
  else if x < n.calls + n.inns then (ix (ix n.inner p.1) (x - n.calls), p.2)
  else (ix (ix (ix n.pop p.1) (hd p.2)) (x - n.calls - n.inns), p.2.tail)
def Nst.run (n : Nst) (s : Int) (w : List Int) : Int × List Int := w.foldl n.step (s, [])
def Nst.up (n : Nst) (w : List Int) : Prop := ∀ i, 0 ≤ i → i ≤ (w.length : Int) → 0 ≤ (n.lvp w i).1
def Nst.mat (n : Nst) (w : List Int) : Bool := decide ((n.levs w).2.2 = 0) && decide ((n.levs w).1 = 0)
def Nst.syms (n : Nst) : Int := n.calls + n.inns + n.rets
theorem Ok.sum {n : Nst} (h : n.Ok) : inR (n.calls + n.inns) = true ∧ inR (n.calls + n.inns + n.rets) = true := by
  have := h.calls; have := h.inns; have := h.rets
  rw [zwIQ, zwIQ]; omega
def Nst.acc (n : Nst) (w : List Int) : Bool × Int :=
  if n.validE ≠ 0 then (false, n.validE)
  else if wordE w n.syms ≠ 0 then (false, wordE w n.syms)
  else if 64 < (n.levs w).2.1 then (false, 16)
  else if n.mat w = false then (false, 0)
  else (ix n.accept (n.run n.start w).1, 0)
end Ab
namespace Ab
theorem z9LC : ∀ {n : Nat} {cs : List AV}, cs.length ≤ n → chunk none n cs = cs
  | 0, cs, h => by
    have : cs = [] := List.eq_nil_of_length_eq_zero (by omega)
    subst this; rfl
  | n + 1, [], h => rfl
  | n + 1, c :: cs, h => by simp only [chunk]; rw [z9LC (by simpa using h)]
theorem ziiz {α : Type} {f g : α → AV} {v : AV → Option AV} (h : ∀ x, v (f x) = some (g x)) : ∀ {xs : List α}, mapO v (xs.map f) = some (xs.map g)
  | [] => rfl
  | x :: xs => by simp only [List.map_cons, mapO, h x, ziiz h (xs := xs)]
theorem zIRd {α : Type} {f g : α → AV} {σ : List Blk} {fr : Bool} {b k n : Nat} {xs : List α} {st : BSt} (h : blk σ b = some ⟨none, xs.map f, st⟩) (hs : st.isArr = true) (hn : n = xs.length) (hf : ∀ x, view σ fr k (f x) = some (g x)) :
    view σ fr (k + 1) (.sl b n 0 n) = some (.imm false (xs.map g)) := by
  subst hn
  have hu : upto σ b xs.length = some ⟨none, xs.map f, st⟩ := by
    unfold upto
    rw [h]
    cases st <;> simp at hs ⊢
  unfold view
  simp only [hu, kst, List.length_map, List.drop_zero, Nat.zero_add, Nat.mul_one, Nat.le_refl, if_true]
  rw [z9LC (by simp), ziiz hf]
theorem zjxA {σ : List Blk} {fr : Bool} {b n : Nat} {xs : List Bool} {st : BSt} (h : blk σ b = some ⟨none, xs.map .bool, st⟩) (hs : st.isArr = true) (hn : n = xs.length) : view σ fr vd (.sl b n 0 n) = some (bL xs) := zIRd (k := 11) h hs hn fun _ => rfl
structure Mch where
  size : Nat
  call : Int → Int → Int × Int
  inner : Int → Int → Int
  pop : Int → Int → Int → Int
  calls : Int
  inns : Int
  rets : Int
structure Mch.Ok (M : Mch) : Prop where
  size : (M.size : Int) ≤ 100000
  calls : 0 ≤ M.calls ∧ M.calls ≤ 100000
  inns : 0 ≤ M.inns ∧ M.inns ≤ 100000
  rets : 0 ≤ M.rets ∧ M.rets ≤ 100000
  call : ∀ s c, 0 ≤ s → s < (M.size : Int) → 0 ≤ c → c < M.calls → 0 ≤ (M.call s c).1 ∧ (M.call s c).1 < (M.size : Int)
  inner : ∀ s i, 0 ≤ s → s < (M.size : Int) → 0 ≤ i → i < M.inns → 0 ≤ M.inner s i ∧ M.inner s i < (M.size : Int)
  pop : ∀ s c t r, 0 ≤ s → s < (M.size : Int) → 0 ≤ c → c < M.calls → 0 ≤ t → t < (M.size : Int) → 0 ≤ r → r < M.rets → 0 ≤ M.pop t (M.call s c).2 r ∧ M.pop t (M.call s c).2 r < (M.size : Int)
inductive Conn (M : Mch) : Int → Int → Prop
  | refl (s : Int) : Conn M s s
  | inn (s i t : Int) : 0 ≤ i → i < M.inns → Conn M (M.inner s i) t → Conn M s t
  | call (s c p r t : Int) : 0 ≤ c → c < M.calls → 0 ≤ r → r < M.rets → Conn M (M.call s c).1 p → Conn M (M.pop p (M.call s c).2 r) t → Conn M s t
theorem Conn.trans {M : Mch} {a b c : Int} (h : Conn M a b) (k : Conn M b c) : Conn M a c := by
  induction h with
  | refl s => exact k
  | inn s i t h0 h1 _ ih => exact .inn s i c h0 h1 (ih k)
  | call s x p r t h0 h1 h2 h3 h4 _ _ ih => exact .call s x p r c h0 h1 h2 h3 h4 (ih k)
theorem Conn.range {M : Mch} (hM : M.Ok) {a b : Int} (h : Conn M a b) (ha : 0 ≤ a ∧ a < (M.size : Int)) : 0 ≤ b ∧ b < (M.size : Int) := by
  induction h with
  | refl s => exact ha
  | inn s i t h0 h1 _ ih => exact ih (hM.inner s i ha.1 ha.2 h0 h1)
  | call s x p r t h0 h1 h2 h3 h4 _ ih1 ih2 =>
    have hp := ih1 (hM.call s x ha.1 ha.2 h0 h1)
    exact ih2 (hM.pop s x p r ha.1 ha.2 h0 h1 hp.1 hp.2 h2 h3)
inductive Star (S : Int → Int → Prop) : Int → Int → Prop
  | refl (s : Int) : Star S s s
  | tail (s t u : Int) : Star S s t → S t u → Star S s u
theorem Star.trans {S : Int → Int → Prop} {a b c : Int} (h : Star S a b) (k : Star S b c) : Star S a c := by
  induction k with
  | refl => exact h
  | tail t u _ h2 ih => exact .tail a t u ih h2
theorem Star.head {S : Int → Int → Prop} {a b c : Int} (h : S a b) (k : Star S b c) : Star S a c := (Star.tail a a b (.refl a) h).trans k
theorem zC4t {M : Mch} (hM : M.Ok) {S : Int → Int → Prop} (sound : ∀ s t, 0 ≤ s → s < (M.size : Int) → S s t → Conn M s t)
    (inn : ∀ s i, 0 ≤ s → s < (M.size : Int) → 0 ≤ i → i < M.inns → S s (M.inner s i))
    (cl : ∀ s c p r, 0 ≤ s → s < (M.size : Int) → 0 ≤ c → c < M.calls → 0 ≤ r → r < M.rets → Star S (M.call s c).1 p → S s (M.pop p (M.call s c).2 r))
    {a b : Int} (ha : 0 ≤ a ∧ a < (M.size : Int)) : Star S a b ↔ Conn M a b := by
  constructor
  · intro h
    have key : Conn M a b ∧ (0 ≤ b ∧ b < (M.size : Int)) := by
      induction h with
      | refl => exact ⟨.refl a, ha⟩
      | tail t u _ h2 ih =>
        have := sound t u ih.2.1 ih.2.2 h2
        exact ⟨ih.1.trans this, this.range hM ih.2⟩
    exact key.1
  · intro h
    induction h with
    | refl s => exact .refl s
    | inn s i t h0 h1 _ ih =>
      exact Star.head (inn s i ha.1 ha.2 h0 h1) (ih (hM.inner s i ha.1 ha.2 h0 h1))
    | call s x p r t h0 h1 h2 h3 h4 _ ih1 ih2 =>
      have q := hM.call s x ha.1 ha.2 h0 h1
      have hp := h4.range hM q
      exact Star.head (cl s x p r ha.1 ha.2 h0 h1 h2 h3 (ih1 q)) (ih2 (hM.pop s x p r ha.1 ha.2 h0 h1 hp.1 hp.2 h2 h3))
theorem z2ph {M : Mch} (hM : M.Ok) {T : Int → Int → Prop} (sound : ∀ s t, T s t → Conn M s t) (rf : ∀ s, 0 ≤ s → s < (M.size : Int) → T s s)
    (inn : ∀ s i t, 0 ≤ s → s < (M.size : Int) → 0 ≤ i → i < M.inns → 0 ≤ t → t < (M.size : Int) → T (M.inner s i) t → T s t)
    (cl : ∀ s c p r t, 0 ≤ s → s < (M.size : Int) → 0 ≤ c → c < M.calls → 0 ≤ p → p < (M.size : Int) → 0 ≤ r → r < M.rets → 0 ≤ t → t < (M.size : Int) → T (M.call s c).1 p → T (M.pop p (M.call s c).2 r) t → T s t)
    {a b : Int} (ha : 0 ≤ a ∧ a < (M.size : Int)) : T a b ↔ Conn M a b := by
  refine ⟨sound a b, fun h => ?_⟩
  induction h with
  | refl s => exact rf s ha.1 ha.2
  | inn s i t h0 h1 h2 ih =>
    have q := hM.inner s i ha.1 ha.2 h0 h1
    have ht := h2.range hM q
    exact inn s i t ha.1 ha.2 h0 h1 ht.1 ht.2 (ih q)
  | call s x p r t h0 h1 h2 h3 h4 h5 ih1 ih2 =>
    have q := hM.call s x ha.1 ha.2 h0 h1
    have hp := h4.range hM q
    have q2 := hM.pop s x p r ha.1 ha.2 h0 h1 hp.1 hp.2 h2 h3
    have ht := h5.range hM q2
    exact cl s x p r t ha.1 ha.2 h0 h1 hp.1 hp.2 h2 h3 ht.1 ht.2 (ih1 q) (ih2 q2)
def rel (m : List (List Bool)) (s t : Int) : Prop := 0 ≤ s ∧ s < m.length ∧ 0 ≤ t ∧ t < m.length ∧ ix (ix m s) t = true
theorem zris {l : List Bool} {i : Nat} {x : Bool} {j : Int} (hj : 0 ≤ j) (hi : i < l.length) : ix (l.set i x) j = if j = i then x else ix l j := by
  unfold ix
  rw [List.getD_eq_getElem?_getD, List.getD_eq_getElem?_getD, List.getElem?_set]
  by_cases h : i = j.toNat
  · rw [if_pos h, if_pos hi, if_pos (by omega)]; rfl
  · rw [if_neg h, if_neg (by omega)]
theorem z2Bn {l : List Bool} {i : Nat} (h : i < l.length) (hv : ix l i = false) : (l.set i true).count false + 1 = l.count false := by
  rw [zrZW h] at hv
  rw [List.count_set h]
  simp [hv]
  have : 0 < l.count false := List.count_pos_iff.2 (by rw [← hv]; exact List.getElem_mem h)
  omega
structure Spr (m : List (List Bool)) (a : Int) (seen : List Bool) (l : List Int) : Prop where
  len : seen.length = m.length
  mem : ∀ t, 0 ≤ t → t < (m.length : Int) → (ix seen t = true ↔ t ∈ l)
  rng : ∀ t ∈ l, 0 ≤ t ∧ t < (m.length : Int)
  star : ∀ t ∈ l, Star (rel m) a t
  start : a ∈ l
  cnt : l.length + seen.count false = m.length
theorem zktv {α : Type} [Inhabited α] {l m : List α} {j : Int} (h0 : 0 ≤ j) (h1 : j < l.length) : ix (l ++ m) j = ix l j := by
  unfold ix
  rw [List.getD_eq_getElem?_getD, List.getD_eq_getElem?_getD, List.getElem?_append_left (by omega)]
theorem z2Ia {n : Nat} {x : Bool} {j : Int} (h0 : 0 ≤ j) (h1 : j < n) : ix (List.replicate n x) j = x := by
  unfold ix
  rw [List.getD_eq_getElem?_getD, List.getElem?_replicate, if_pos (by omega)]; rfl
theorem Spr.begin {m : List (List Bool)} {a : Int} (ha : 0 ≤ a ∧ a < m.length) : Spr m a ((List.replicate m.length false).set a.toNat true) [a] := by
  have hr : a.toNat < (List.replicate m.length false).length := by simp; omega
  refine ⟨by simp, fun t t0 t1 => ?_, by simpa using ha, by simpa using Star.refl a, by simp, ?_⟩
  · rw [zris t0 hr]
    by_cases h : t = a.toNat
    · rw [if_pos h]; simp; omega
    · rw [if_neg h, z2Ia t0 (by omega)]; simp; omega
  · have := z2Bn hr (by rw [z2Ia (by omega) (by omega)])
    simp at this ⊢
    omega
theorem Spr.more {m : List (List Bool)} {a s t : Int} {seen : List Bool} {l : List Int} (h : Spr m a seen l) (hs : s ∈ l) (hst : rel m s t) (hn : ix seen t = false) : Spr m a (seen.set t.toNat true) (l ++ [t]) := by
  have hst' := hst
  obtain ⟨_, _, t0, t1, _⟩ := hst
  have hr : t.toNat < seen.length := by rw [h.len]; omega
  refine ⟨by rw [List.length_set]; exact h.len, fun u u0 u1 => ?_, fun u hu => ?_, fun u hu => ?_, by simp [h.start], ?_⟩
  · rw [zris u0 hr]
    by_cases hut : u = t.toNat
    · rw [if_pos hut]; simp; right; omega
    · rw [if_neg hut, h.mem u u0 u1]; simp; intro; omega
  · rcases List.mem_append.1 hu with hu | hu
    · exact h.rng u hu
    · simp at hu; subst hu; exact ⟨t0, t1⟩
  · rcases List.mem_append.1 hu with hu | hu
    · exact h.star u hu
    · simp at hu; subst hu; exact .tail a s u (h.star s hs) hst'
  · have := z2Bn hr (by rw [show ((t.toNat : Nat) : Int) = t by omega]; exact hn)
    have := h.cnt
    simp; omega
theorem zdHh (m : List (List Bool)) (a : Int) (hm : (m.length : Int) ≤ 100000) (hr : ∀ r ∈ m, r.length = m.length) (ha : 0 ≤ a ∧ a < m.length) :
    LX L zSOc [.imm false (m.map bL), .int a] [] (fun v σ' => ∃ seen : List Bool, viewT σ' true v = some (bL seen) ∧ seen.length = m.length ∧ ∀ t, 0 ≤ t → t < (m.length : Int) → (ix seen t = true ↔ Star (rel m) a t)) := by
  refine zbK1 rfl ?_
  simp [-List.map_replicate, -List.map_append, -List.map_set, ha]
  (repeat' apply And.intro) <;> try omega
  refine zv8C (fun p : Int × List Bool × List Int => [(3, .int p.1), (4, .sl 1 p.2.2.length 0 p.2.2.length)]) (fun p => [⟨none, p.2.1.map .bool, .live⟩, ⟨none, p.2.2.map .int, .live⟩])
    (fun p => (0 ≤ p.1 ∧ p.1 ≤ p.2.2.length) ∧ Spr m a p.2.1 p.2.2 ∧ ∀ k, 0 ≤ k → k < p.1 → ∀ t, rel m (ix p.2.2 k) t → t ∈ p.2.2)
    (fun p => 2 * p.2.1.count false + (p.2.2.length - p.1).toNat) (0, (List.replicate m.length false).set a.toNat true, [a]) (by simp [sets]) ⟨by simp, Spr.begin ha, fun k k0 k1 => by simp at k1; omega⟩ ?_
  rintro ⟨i, seen, l⟩ ⟨⟨i0, i1⟩, h1, h2⟩
  dsimp only at i0 i1 h1 h2 ⊢
  have hcnt := h1.cnt
  by_cases hi : i < l.length
  · have hs := zmAQ i0 hi
    have hsr := h1.rng _ hs
    have hrow := hr _ (zmAQ hsr.1 hsr.2)
    have hlen := h1.len
    simp [-List.map_replicate, -List.map_append, -List.map_set, -zJRc, hi, i0, hsr.1, hsr.2]
    refine zv8C (fun p : Int × List Bool × List Int => [(5, .int p.1), (4, .sl 1 p.2.2.length 0 p.2.2.length)]) (fun p => [⟨none, p.2.1.map .bool, .live⟩, ⟨none, p.2.2.map .int, .live⟩])
      (fun p => (0 ≤ p.1 ∧ p.1 ≤ m.length) ∧ Spr m a p.2.1 p.2.2 ∧ (∃ more, p.2.2 = l ++ more) ∧ (∀ t, 0 ≤ t → t < p.1 → rel m (ix l i) t → t ∈ p.2.2) ∧ 2 * p.2.1.count false + p.2.2.length ≤ 2 * seen.count false + l.length)
      (fun p => (m.length - p.1).toNat) (0, seen, l) (by simp [sets]) ⟨by simp, h1, ⟨[], by simp⟩, fun t t0 t1 => by simp at t1; omega, Nat.le_refl _⟩ ?_
    rintro ⟨j, seen', l'⟩ ⟨⟨j0, j1⟩, g1, ⟨more, g2⟩, g3, g4⟩
    dsimp only at j0 j1 g1 g2 g3 g4 ⊢
    have gcnt := g1.cnt
    have glen := g1.len
    have gn := g1.len
    by_cases hj : j < m.length
    · have hj' : j < (ix m (ix l i)).length := by omega
      by_cases c1 : ix (ix m (ix l i)) j = true
      · by_cases c2 : ix seen' j = true
        · simp [-List.map_replicate, -List.map_append, -List.map_set, -zJRc, hj', j0, c1, c2, show j.toNat < seen'.length by omega, show j < (m.length : Int) by omega]
          (repeat' apply And.intro) <;> try omega
          refine zGkM (j + 1, seen', l') (by simp) (by simp) ⟨⟨by dsimp only; omega, by dsimp only; omega⟩, g1, ⟨more, g2⟩, zvtS (fun _ => (g1.mem j j0 hj).1 c2) g3, g4⟩ (by dsimp only; omega)
        · have hrel : rel m (ix l i) j := ⟨hsr.1, hsr.2, j0, hj, c1⟩
          have c2' : ix seen' j = false := by simpa using c2
          have q := g1.more (s := ix l i) (by rw [g2]; exact List.mem_append.2 (.inl hs)) hrel c2'
          have qc := z2Bn (l := seen') (i := j.toNat) (by omega) (by rw [show ((j.toNat : Nat) : Int) = j by omega]; exact c2')
          simp [-List.map_replicate, -List.map_append, -List.map_set, -zJRc, hj', j0, c1, c2', show j.toNat < seen'.length by omega, show j < (m.length : Int) by omega]
          (repeat' apply And.intro) <;> try omega
          refine zGkM (j + 1, seen'.set j.toNat true, l' ++ [j]) (by simp) (by simp) ⟨⟨by dsimp only; omega, by dsimp only; omega⟩, q, ⟨more ++ [j], by simp [g2]⟩, ?_, ?_⟩ (by dsimp only; omega)
          · exact zvtS (fun _ => by simp) fun t t0 t1 h => List.mem_append.2 (.inl (g3 t t0 t1 h))
          · simp; omega
      · have c1' : ix (ix m (ix l i)) j = false := by simpa using c1
        simp [-List.map_replicate, -List.map_append, -List.map_set, -zJRc, hj', j0, c1']
        (repeat' apply And.intro) <;> try omega
        refine zGkM (j + 1, seen', l') (by simp) (by simp) ⟨⟨by dsimp only; omega, by dsimp only; omega⟩, g1, ⟨more, g2⟩, zvtS (fun h => by rw [h.2.2.2.2] at c1'; simp at c1') g3, g4⟩ (by dsimp only; omega)
    · have hj' : ¬ j < (ix m (ix l i)).length := by omega
      have hll : l.length ≤ l'.length := by rw [g2]; simp
      simp [-List.map_replicate, -List.map_append, -List.map_set, -zJRc, hj']
      (repeat' apply And.intro) <;> try omega
      refine zGkM (i + 1, seen', l') (by simp) (by simp) ⟨⟨by dsimp only; omega, by dsimp only; omega⟩, g1, ?_⟩ (by dsimp only; omega)
      dsimp only
      refine zvtS ?_ ?_
      · intro t ht
        rw [g2, zktv i0 hi] at ht
        exact g3 t ht.2.2.1 (by have := ht.2.2.2.1; omega) ht
      · intro k k0 k1 t ht
        rw [g2, zktv k0 (by omega)] at ht
        have := h2 k k0 k1 t ht
        rw [g2]; exact List.mem_append.2 (.inl this)
  · simp [hi]
    refine ⟨seen, zjxA rfl (by simp) (by rw [h1.len]), h1.len, fun t t0 t1 => ?_⟩
    rw [h1.mem t t0 t1]
    refine ⟨h1.star t, fun hst => ?_⟩
    have key : ∀ u, Star (rel m) a u → u ∈ l := by
      intro u hu
      induction hu with
      | refl => exact h1.start
      | tail u v _ huv ih =>
        obtain ⟨k, hk, rfl⟩ := List.mem_iff_getElem.1 ih
        rw [← zrZW hk] at huv
        exact h2 k (by omega) (by omega) v huv
    exact key t hst
end Ab
namespace Ab
abbrev rowB (r : List Bool) : Blk := ⟨none, r.map .bool, .live⟩
abbrev refs (k N : Nat) : List AV := (List.range k).map fun i => AV.sl (2 + i) N 0 N
def mat (box : Blk) (N : Nat) (m : List (List Bool)) (rest : List Blk) : List Blk := box :: ⟨none, refs m.length N ++ List.replicate (N - m.length) .snil, .live⟩ :: (m.map rowB ++ rest)
theorem zzWB : ∀ (σ : List Blk) (i : Nat), blk σ i = σ[i]?
  | [], i => by simp [blk]
  | x :: r, 0 => rfl
  | x :: r, i + 1 => by simp [blk, zzWB r i]
theorem z4Wl : ∀ (σ : List Blk) (i : Nat) (B : Blk), setB σ i B = σ.set i B
  | [], i, B => by simp [setB]
  | x :: r, 0, B => rfl
  | x :: r, i + 1, B => by simp [setB, z4Wl r i B]
theorem zd9S {box : Blk} {N : Nat} {m : List (List Bool)} {rest : List Blk} {s : Int} (h0 : 0 ≤ s) (h1 : s < m.length) : blk (mat box N m rest) (2 + s.toNat) = some (rowB (ix m s)) := by
  rw [zzWB, mat, show 2 + s.toNat = s.toNat + 1 + 1 by omega, List.getElem?_cons_succ, List.getElem?_cons_succ, List.getElem?_append_left (by simp; omega), List.getElem?_map, ix_eq h0 h1]
  rfl
theorem zUeD {box : Blk} {N : Nat} {m : List (List Bool)} {rest : List Blk} {s : Int} {r : List Bool} (h0 : 0 ≤ s) (h1 : s < m.length) : setB (mat box N m rest) (2 + s.toNat) ⟨none, r.map .bool, .live⟩ = mat box N (m.set s.toNat r) rest := by
  rw [z4Wl, mat, mat, show 2 + s.toNat = s.toNat + 1 + 1 by omega, List.set_cons_succ, List.set_cons_succ, List.set_append, if_pos (by simp; omega)]
  simp [List.map_set]
theorem zK1G {box : Blk} {N : Nat} {m : List (List Bool)} {rest : List Blk} : blk (mat box N m rest) 1 = some ⟨none, refs m.length N ++ List.replicate (N - m.length) .snil, .live⟩ := rfl
theorem z922 {box : Blk} {N : Nat} {m : List (List Bool)} {rest : List Blk} (h : m.length = N) : blk (mat box N m rest) 1 = some ⟨none, refs N N, .live⟩ := by rw [zK1G, h]; simp
theorem zSw6 {box : Blk} {N : Nat} {m : List (List Bool)} {rest : List Blk} : blk (mat box N m rest) 0 = some box := rfl
theorem zFr8 {N : Nat} {s : Int} (h0 : 0 ≤ s) (h1 : s < N) : ix (List.range N) s = s.toNat := by
  unfold ix
  rw [List.getD_eq_getElem?_getD, List.getElem?_range (by omega)]; rfl
structure MOk (t : Nat) (v : AV) (M : Mch) : Prop where
  loc : noLoc v = true
  wk : Ab.wk v = v
  size : ∃ f, lookT [(zwN8, zFCU), (zZPs, zmNm)] t = some f ∧ PC f [v] = some (.int M.size)
  call : ∃ f, lookT [(zwN8, zfSc), (zZPs, zZvM)] t = some f ∧ ∀ s c, 0 ≤ s → s < (M.size : Int) → 0 ≤ c → c < M.calls → PC f [v, .int s, .int c] = some (.tup [.int (M.call s c).1, .int (M.call s c).2])
  inner : ∃ f, lookT [(zwN8, zhMi), (zZPs, zdOj)] t = some f ∧ ∀ s i, 0 ≤ s → s < (M.size : Int) → 0 ≤ i → i < M.inns → PC f [v, .int s, .int i] = some (.int (M.inner s i))
  pop : ∃ f, lookT [(zwN8, zNTN), (zZPs, zWl5), (z0z7, zC7Z)] t = some f ∧ ∀ s c u r, 0 ≤ s → s < (M.size : Int) → 0 ≤ c → c < M.calls → 0 ≤ u → u < (M.size : Int) → 0 ≤ r → r < M.rets → PC f [v, .int u, .int (M.call s c).2, .int r] = some (.int (M.pop u (M.call s c).2 r))
def Nst.mch (n : Nst) : Mch := ⟨n.accept.length, fun s c => (ix (ix n.call s) c, ix (ix n.push s) c), fun s i => ix (ix n.inner s) i, fun s g r => ix (ix (ix n.pop s) g) r, n.calls, n.inns, n.rets⟩
theorem ztQm {n : Nst} (h : n.Ok) : n.mch.Ok := by
  have := h.states; have := h.calls; have := h.inns; have := h.rets
  refine ⟨?_, ?_, ?_, ?_, fun s c s0 s1 c0 c1 => h.call s c s0 s1 c0 c1, fun s i s0 s1 c0 c1 => h.inner s i s0 s1 c0 c1, fun s c t r s0 s1 c0 c1 t0 t1 r0 r1 => ?_⟩ <;> simp only [Nst.mch] at * <;> try omega
  have q := h.push s c s0 s1 c0 c1
  exact h.pop t _ r t0 t1 q.1 q.2 r0 r1
end Ab
namespace Ab
def Sq (N : Nat) (m : List (List Bool)) : Prop := m.length = N ∧ ∀ r ∈ m, r.length = N
theorem Sq.row {N : Nat} {m : List (List Bool)} (h : Sq N m) {s : Int} (h0 : 0 ≤ s) (h1 : s < N) : (ix m s).length = N := h.2 _ (zmAQ h0 (by rw [h.1]; exact h1))
def upd (m : List (List Bool)) (s u : Int) : List (List Bool) := m.set s.toNat ((ix m s).set u.toNat true)
theorem zvPC {α : Type} [Inhabited α] {l : List α} {i : Nat} {x : α} {j : Int} (hj : 0 ≤ j) (hi : i < l.length) : ix (l.set i x) j = if j = i then x else ix l j := by
  unfold ix
  rw [List.getD_eq_getElem?_getD, List.getD_eq_getElem?_getD, List.getElem?_set]
  by_cases h : i = j.toNat
  · rw [if_pos h, if_pos hi, if_pos (by omega)]; rfl
  · rw [if_neg h, if_neg (by omega)]
theorem zdcL {N : Nat} {m : List (List Bool)} (h : Sq N m) {s u : Int} (s0 : 0 ≤ s) (s1 : s < N) : Sq N (upd m s u) := by
  refine ⟨by rw [upd, List.length_set, h.1], fun r hr => ?_⟩
  rcases List.mem_or_eq_of_mem_set hr with hr | rfl
  · exact h.2 r hr
  · rw [List.length_set, h.row s0 s1]
theorem zU4S {N : Nat} {m : List (List Bool)} (h : Sq N m) {s u a b : Int} (s0 : 0 ≤ s) (s1 : s < N) (u0 : 0 ≤ u) (u1 : u < N) (a0 : 0 ≤ a) (b0 : 0 ≤ b) : ix (ix (upd m s u) a) b = if a = s ∧ b = u then true else ix (ix m a) b := by
  unfold upd
  rw [zvPC a0 (by rw [h.1]; omega)]
  by_cases e : a = s
  · subst e
    rw [if_pos (by omega), zris b0 (by rw [h.row a0 s1]; omega)]
    by_cases e2 : b = u
    · rw [if_pos (by omega), if_pos ⟨rfl, e2⟩]
    · rw [if_neg (by omega), if_neg (by simp [e2])]
  · rw [if_neg (by omega), if_neg (by simp [e])]
theorem zfpX {N : Nat} {m : List (List Bool)} (h : Sq N m) {s u a b : Int} (s0 : 0 ≤ s) (s1 : s < N) (u0 : 0 ≤ u) (u1 : u < N) : rel (upd m s u) a b ↔ rel m a b ∨ (a = s ∧ b = u) := by
  have h' := zdcL (u := u) h s0 s1
  unfold rel
  rw [h.1, h'.1]
  constructor
  · rintro ⟨a0, a1, b0, b1, hx⟩
    rw [zU4S h s0 s1 u0 u1 a0 b0] at hx
    by_cases e : a = s ∧ b = u
    · exact .inr e
    · rw [if_neg e] at hx; exact .inl ⟨a0, a1, b0, b1, hx⟩
  · rintro (⟨a0, a1, b0, b1, hx⟩ | ⟨rfl, rfl⟩)
    · refine ⟨a0, a1, b0, b1, ?_⟩
      rw [zU4S h s0 s1 u0 u1 a0 b0, hx]; simp
    · refine ⟨s0, s1, u0, u1, ?_⟩
      rw [zU4S h s0 s1 u0 u1 s0 u0]; simp
def cf (m : List (List Bool)) : Nat := (m.map fun r => r.count false).sum
theorem zMmn : ∀ {l : List Nat} {i : Nat} {x y : Nat}, l[i]? = some y → x + 1 = y → (l.set i x).sum + 1 = l.sum
  | [], i, x, y, h, _ => by simp at h
  | a :: l, 0, x, y, h, e => by simp at h; subst h; simp [List.set]; omega
  | a :: l, i + 1, x, y, h, e => by
    have := zMmn (l := l) (i := i) (x := x) (y := y) (by simpa using h) e
    simp only [List.set_cons_succ, List.sum_cons]; omega
theorem zjOK {N : Nat} {m : List (List Bool)} (h : Sq N m) {s u : Int} (s0 : 0 ≤ s) (s1 : s < N) (u0 : 0 ≤ u) (u1 : u < N) (hv : ix (ix m s) u = false) : cf (upd m s u) + 1 = cf m := by
  unfold cf upd
  rw [List.map_set]
  refine zMmn (y := (ix m s).count false) ?_ (z2Bn (by rw [h.row s0 s1]; omega) (by rw [show ((u.toNat : Nat) : Int) = u by omega]; exact hv))
  rw [List.getElem?_map, ix_eq s0 (by rw [h.1]; exact s1)]; rfl
theorem zfGa {N : Nat} {m : List (List Bool)} (h : Sq N m) {s u : Int} (s0 : 0 ≤ s) (s1 : s < N) (u0 : 0 ≤ u) (u1 : u < N) (hv : ix (ix m s) u = true) : upd m s u = m := by
  have e : (ix m s).set u.toNat true = ix m s := by
    apply List.ext_getElem (by simp)
    intro i h1 h2
    rw [List.getElem_set]
    split
    · rename_i hi
      subst hi
      rw [← zrZW h2, show ((u.toNat : Nat) : Int) = u by omega, hv]
    · rfl
  unfold upd
  rw [e]
  apply List.ext_getElem (by simp)
  intro i h1 h2
  rw [List.getElem_set]
  split
  · rename_i hi
    subst hi
    rw [← zrZW h2, show ((s.toNat : Nat) : Int) = s by omega]
  · rfl
def Wide (M : Mch) (R : List (List Bool)) (s u : Int) : Prop := ∃ c p r, (0 ≤ c ∧ c < M.calls) ∧ (0 ≤ r ∧ r < M.rets) ∧ rel R (M.call s c).1 p ∧ u = M.pop p (M.call s c).2 r
structure Grew (M : Mch) (R : List (List Bool)) (m m' : List (List Bool)) (ch : Bool) : Prop where
  sq : Sq M.size m'
  mono : ∀ s t, rel m s t → rel m' s t
  sound : ∀ s t, rel m' s t → rel m s t ∨ Wide M R s t
  no : ch = false → m' = m
  yes : ch = true → cf m' < cf m
  le : cf m' ≤ cf m
theorem Grew.more {M : Mch} {R m m' : List (List Bool)} {ch : Bool} (h : Grew M R m m' ch) {s u : Int} (s0 : 0 ≤ s) (s1 : s < (M.size : Int)) (u0 : 0 ≤ u) (u1 : u < (M.size : Int)) (hw : Wide M R s u) :
    Grew M R m (upd m' s u) (ch || !ix (ix m' s) u) ∧ rel (upd m' s u) s u ∧ ∀ a b, rel m' a b → rel (upd m' s u) a b := by
  have s1' := s1
  have u1' := u1
  have hr := fun a b => zfpX (a := a) (b := b) h.sq s0 s1' u0 u1'
  refine ⟨⟨zdcL h.sq s0 s1', fun a b hab => (hr a b).2 (.inl (h.mono a b hab)), fun a b hab => ?_, fun hc => ?_, fun hc => ?_, ?_⟩, (hr s u).2 (.inr ⟨rfl, rfl⟩), fun a b hab => (hr a b).2 (.inl hab)⟩
  · rcases (hr a b).1 hab with hab | ⟨rfl, rfl⟩
    · exact h.sound a b hab
    · exact .inr hw
  · simp at hc
    rw [zfGa h.sq s0 s1' u0 u1' hc.2]
    exact h.no hc.1
  · by_cases hv : ix (ix m' s) u = true
    · rw [zfGa h.sq s0 s1' u0 u1' hv]
      simp [hv] at hc
      exact h.yes hc
    · have := zjOK h.sq s0 s1' u0 u1' (by simpa using hv)
      have := h.le
      omega
  · by_cases hv : ix (ix m' s) u = true
    · rw [zfGa h.sq s0 s1' u0 u1' hv]; exact h.le
    · have := zjOK h.sq s0 s1' u0 u1' (by simpa using hv)
      have := h.le
      omega
def WPost (M : Mch) (box : Blk) (m R : List (List Bool)) (rest : List Blk) (v : AV) (τ : List Blk) : Prop := ∃ ch m', v = .bool ch ∧ τ = mat box M.size m' rest ∧ Grew M R m m' ch ∧ ∀ s u, 0 ≤ s → s < (M.size : Int) → Wide M R s u → rel m' s u
end Ab
