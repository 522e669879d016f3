/- Functions of the library and small laws on lists that many proofs share. Arguments that read as plain data are encodings of lists and numbers. Mealy machines as plain data. The check of a Mealy machine, by the program and by the document. The states that can be reached, each with its first word. Condition: none. -/
import Derived.Test.YtlgfempnnijfnaaGreatIr
import Derived.Test.YtlgfempnnijfnaaGreatAbL
import Derived.Test.YtlgfempnnijfnaaGreatAbTop
set_option linter.all false
set_option maxRecDepth 100000
set_option maxHeartbeats 4000000
namespace Ab
noncomputable abbrev PC := PCx L
def idx {α : Type} (p : α → Bool) (xs : List α) : Int := match xs.findIdx? p with
  | some i => i
  | none => -1
theorem znoA {α : Type} [Inhabited α] {p : α → Bool} {xs : List α} {i : Int} (h0 : 0 ≤ i) (h1 : i < xs.length) (h : p (ix xs i) = true) (h2 : ∀ j, 0 ≤ j → j < i → p (ix xs j) = false) : idx p xs = i := by
  have e : xs.findIdx? p = some i.toNat := by
    rw [List.findIdx?_eq_some_iff_getElem]
    refine ⟨by omega, ?_, fun j hj => ?_⟩
    · rw [← zrZW (by omega), show ((i.toNat : Nat) : Int) = i by omega]; exact h
    · have := h2 j (by omega) (by omega)
      rw [zrZW (by omega)] at this
      simp [this]
  unfold idx; rw [e]; simp; omega
theorem z9nJ {α : Type} [Inhabited α] {p : α → Bool} {xs : List α} (h2 : ∀ j, 0 ≤ j → j < (xs.length : Int) → p (ix xs j) = false) : idx p xs = -1 := by
  have e : xs.findIdx? p = none := by
    rw [List.findIdx?_eq_none_iff]
    intro x hx
    obtain ⟨i, hi, rfl⟩ := List.mem_iff_getElem.1 hx
    rw [← zrZW hi]; exact h2 i (by omega) (by omega)
  unfold idx; rw [e]
theorem zwD6 {α : Type} {p : α → Bool} {xs : List α} : decide (0 ≤ idx p xs) = xs.any p := by
  unfold idx
  cases h : xs.findIdx? p with
  | none =>
    rw [List.findIdx?_eq_none_iff] at h
    simp
    intro x hx; simpa using h x hx
  | some i =>
    rw [List.findIdx?_eq_some_iff_getElem] at h
    obtain ⟨h1, h2, _⟩ := h
    simp
    exact ⟨_, List.getElem_mem h1, h2⟩
def firstN (f : Int → Int) (n : Int) : Int := (((List.range n.toNat).map fun i => f (i : Nat)).find? fun x => x != 0).getD 0
theorem zUdY {f : Int → Int} {n i : Int} (h0 : 0 ≤ i) (h1 : i < n) (h : f i ≠ 0) (h2 : ∀ j, 0 ≤ j → j < i → f j = 0) : firstN f n = f i := by
  have e : (((List.range n.toNat).map fun i => f (i : Nat)).find? fun x => x != 0) = some (f i) := by
    rw [List.find?_eq_some_iff_getElem]
    refine ⟨by simpa using h, i.toNat, by simp; omega, by simp; congr 1; omega, fun j hj => ?_⟩
    simp; exact h2 j (by omega) (by omega)
  unfold firstN; rw [e]; rfl
theorem zs2N {f : Int → Int} {n : Int} (h2 : ∀ j, 0 ≤ j → j < n → f j = 0) : firstN f n = 0 := by
  have e : (((List.range n.toNat).map fun i => f (i : Nat)).find? fun x => x != 0) = none := by
    rw [List.find?_eq_none]
    simp
    intro a ha; exact h2 a (by omega) (by omega)
  unfold firstN; rw [e]; rfl
theorem zdWJ {f : Int → Int} {n : Int} : firstN f n = 0 ↔ ∀ j, 0 ≤ j → j < n → f j = 0 := by
  constructor
  · intro h j h0 h1
    unfold firstN at h
    cases e : (((List.range n.toNat).map fun i => f (i : Nat)).find? fun x => x != 0) with
    | none =>
      rw [List.find?_eq_none] at e
      simp at e
      have := e j.toNat (by omega)
      rwa [show ((j.toNat : Nat) : Int) = j by omega] at this
    | some x =>
      have hx := List.find?_some e
      rw [e] at h; simp at h hx; exact absurd h hx
  · exact zs2N
theorem zvtS {P : Int → Prop} {i : Int} (h : P i) (h2 : ∀ j, 0 ≤ j → j < i → P j) : ∀ j, 0 ≤ j → j < i + 1 → P j := by
  intro j a b
  by_cases e : j = i
  · subst e; exact h
  · exact h2 j a (by omega)
theorem zguy {P : Int → Prop} : ∀ j, 0 ≤ j → j < (0 : Int) → P j := fun j a b => by omega
theorem zuE9 (xs : List Int) (f : Nat) (caps : List AV) (p : Int → Bool) (hl : (xs.length : Int) ≤ 9223372036854775807) (hc : noLocs caps = true)
    (hp : ∀ x ∈ xs, PC f (.int x :: caps.map wk) = some (.bool (p x))) : PC z2JZ [iL xs, .func f caps] = some (.int (idx p xs)) := by
  refine zx72 (zfZ8 rfl ?_)
  simp
  refine zv8C (fun i : Int => [(2, .int i)]) (fun _ => []) (fun i => 0 ≤ i ∧ i ≤ xs.length ∧ ∀ j, 0 ≤ j → j < i → p (ix xs j) = false) (fun i => (xs.length - i).toNat) 0 rfl (by simp; omega) fun i ⟨h0, h1, h2⟩ => ?_
  by_cases hi : i < xs.length
  · have hq := hp _ (zmAQ h0 hi)
    simp [hi, h0, hc, hq]
    exact ⟨fun h => (znoA h0 hi h h2).symm, fun h => ⟨by omega, ⟨by omega, by omega, zvtS h h2⟩, by omega⟩⟩
  · simp [hi]
    rw [z9nJ fun j a b => h2 j a (by omega)]
theorem zSG9 (xs : List Int) (f : Nat) (caps : List AV) (p : Int → Bool) (hl : (xs.length : Int) ≤ 9223372036854775807) (hc : noLocs caps = true) (hw : caps.map wk = caps)
    (hp : ∀ x ∈ xs, PC f (.int x :: caps) = some (.bool (p x))) : PC zc7Y [iL xs, .func f caps] = some (.bool (xs.any p)) := by
  refine zx72 (zfQo rfl ?_)
  simp [hc, hw, zuE9 xs f caps p hl hc (by rw [hw]; exact hp)]
  exact zwD6
def out1 (k x : Int) : Bool := decide (x < 0) || decide (k ≤ x)
theorem zyIb {k x : Int} : out1 k x = false ↔ 0 ≤ x ∧ x < k := by simp [out1]
def bad (xs : List Int) (k : Int) : Bool := xs.any (out1 k)
theorem bad_f {xs : List Int} {k : Int} : bad xs k = false ↔ ∀ x ∈ xs, 0 ≤ x ∧ x < k := by
  simp [bad, List.any_eq_false, out1]
theorem z1UL {xs : List Int} {k : Int} : bad xs k = false ↔ ∀ j, 0 ≤ j → j < (xs.length : Int) → 0 ≤ ix xs j ∧ ix xs j < k := by
  rw [bad_f]
  constructor
  · exact fun h j a b => h _ (zmAQ a b)
  · intro h x hx
    obtain ⟨i, hi, rfl⟩ := List.mem_iff_getElem.1 hx
    rw [← zrZW hi]; exact h i (by omega) (by omega)
theorem bad_t {xs : List Int} {k j : Int} (h0 : 0 ≤ j) (h1 : j < xs.length) (h : out1 k (ix xs j) = true) : bad xs k = true := by
  cases hb : bad xs k with
  | true => rfl
  | false => rw [zyIb.2 (z1UL.1 hb j h0 h1)] at h; exact h
theorem bad_n {xs : List Int} {k : Int} (h : ∀ j, 0 ≤ j → j < (xs.length : Int) → out1 k (ix xs j) = false) : bad xs k = false :=
  z1UL.2 fun j a b => zyIb.1 (h j a b)
def wordE (w : List Int) (k : Int) : Int := if k < 1 ∨ 1024 < k then 2 else if 1024 < (w.length : Int) then 3 else if bad w k = true then 1 else 0
theorem zUDT (x k : Int) : PC zVYD [.int x, .pimm (.int k)] = some (.bool (out1 k x)) := by
  refine zx72 (zAj1 rfl ?_)
  simp [out1]
  omega
theorem zvQ3 (k : Int) : PC zLRb [.int k] = some (.bool (decide (1 ≤ k) && decide (k ≤ 1024))) := by
  refine zx72 (zrni rfl ?_)
  simp
  omega
theorem zX2D (k : Int) : PC zlVo [.int k] = some (.bool (decide (1 ≤ k) && decide (k ≤ 1024))) := by
  refine zx72 (z5EM rfl ?_)
  simp
  omega
theorem zJ4o (w : List Int) (k : Int) (hl : (w.length : Int) ≤ 9223372036854775807) : PC zxtP [iL w, .int k] = some (.int (wordE w k)) := by
  refine zx72 (zrla rfl ?_)
  have e1 := zvQ3 k
  by_cases hk : k < 1 ∨ 1024 < k
  · simp [e1, show (decide (1 ≤ k) && decide (k ≤ 1024)) = false by simp; omega]
    simp [wordE, hk]
  have e2 : PC zc7Y [iL w, .func zVYD [.pimm (.int k)]] = some (.bool (bad w k)) := zSG9 w zVYD [.pimm (.int k)] (out1 k) hl rfl rfl (fun x _ => zUDT x k)
  simp [e1, show (decide (1 ≤ k) && decide (k ≤ 1024)) = true by simp; omega, e2]
  simp only [wordE, if_neg hk]
  exact ⟨fun a => by simp [a], fun a => ⟨fun b => by simp [b]; omega, fun b => by simp [b]; omega⟩⟩
theorem zcuG (w : List Int) (k : Int) (hl : (w.length : Int) ≤ 9223372036854775807) : PC z0Tq [iL w, .int k] = some (.int (wordE w k)) := by
  refine zx72 (zTYE rfl ?_)
  have e1 := zX2D k
  by_cases hk : k < 1 ∨ 1024 < k
  · simp [e1, show (decide (1 ≤ k) && decide (k ≤ 1024)) = false by simp; omega]
    simp [wordE, hk]
  simp [e1, show (decide (1 ≤ k) && decide (k ≤ 1024)) = true by simp; omega]
  refine ⟨fun a => by simp [wordE, hk, a], fun a => ?_⟩
  refine zv8C (fun i : Int => [(2, .int i)]) (fun _ => []) (fun i => 0 ≤ i ∧ i ≤ w.length ∧ ∀ j, 0 ≤ j → j < i → out1 k (ix w j) = false) (fun i => (w.length - i).toNat) 0 rfl ⟨by omega, by omega, zguy⟩ fun i ⟨i0, i1, i2⟩ => ?_
  by_cases hi : i < w.length
  · simp [hi, i0]
    have q : out1 k (ix w i) = true → 1 = wordE w k := fun h => by rw [wordE, if_neg hk, if_neg (by omega), if_pos (bad_t i0 hi h)]
    exact ⟨fun b => q (by simp [out1, b]), fun b => ⟨fun c => q (by simp [out1, c]), fun c => ⟨by omega, ⟨by omega, by omega, zvtS (zyIb.2 ⟨b, c⟩) i2⟩, by omega⟩⟩⟩
  · simp [hi]
    rw [wordE, if_neg hk, if_neg (by omega), bad_n fun j a b => i2 j a (by omega)]
    rfl
end Ab
namespace Ab
open Go
theorem has_int {x : AV} (h : Ty.int.has x) : ∃ n : Int, x = .int n ∧ inR n = true := h
theorem has_list {e : Ty} {α : Type} {f : α → AV} {p : α → Prop} (h : ∀ y, e.has y → ∃ a, y = f a ∧ p a) {x : AV} (hx : (Ty.sl e).has x) : ∃ l : List α, x = .imm false (l.map f) ∧ (l.length : Int) ≤ 9223372036854775807 ∧ ∀ a ∈ l, p a := by
  obtain ⟨l, rfl, hl, hm⟩ := hx
  have key : ∀ l : List AV, (∀ y, y ∈ l → e.has y) → ∃ m : List α, l = m.map f ∧ ∀ a ∈ m, p a := by
    intro l
    induction l with
    | nil => exact fun _ => ⟨[], rfl, by simp⟩
    | cons y r ih =>
      intro hm
      obtain ⟨a, rfl, ha⟩ := h y (hm y (by simp))
      obtain ⟨m, rfl, hm'⟩ := ih fun z hz => hm z (by simp [hz])
      exact ⟨a :: m, rfl, by simpa using ⟨ha, hm'⟩⟩
  obtain ⟨m, rfl, hm'⟩ := key l hm
  refine ⟨m, rfl, ?_, hm'⟩
  simp [maxLen] at hl
  omega
def okI (l : List Int) : Prop := (l.length : Int) ≤ 9223372036854775807 ∧ ∀ n ∈ l, inR n = true
def okII (l : List (List Int)) : Prop := (l.length : Int) ≤ 9223372036854775807 ∧ ∀ m ∈ l, okI m
theorem has_I {x : AV} (h : (Ty.sl .int).has x) : ∃ l : List Int, x = iL l ∧ okI l := has_list (fun _ h => has_int h) h
theorem has_II {x : AV} (h : (Ty.sl (.sl .int)).has x) : ∃ l : List (List Int), x = iLL l ∧ okII l := has_list (fun _ h => has_I h) h
theorem ztrE {σ : List Blk} {b fr : Bool} {v : AV} (h : viewT σ fr v = some (.bool b)) : v = .bool b := by
  have key : ∀ {x : AV} {k : Nat}, view σ fr (k + 1) x = some (.bool b) → x = .bool b := by
    intro x k h
    cases x <;> unfold view at h
    case bool => simpa using h
    case sl =>
      dsimp only at h
      split at h
      · simp at h
      · split at h
        · split at h <;> simp at h
        · simp at h
    case ptr =>
      dsimp only at h
      split at h
      · simp at h
      · split at h
        · split at h
          · simp at h
          · split at h <;> simp at h
        · simp at h
    all_goals (try dsimp only at h)
    all_goals (try split at h) <;> simp at h
  cases v with
  | tup l => simp only [viewT] at h; split at h <;> simp at h
  | _ => exact key (k := 11) h
theorem law_of {f : Nat} {args : List AV} (h : PC f args = some (.bool true)) : ∃ σ', L f args [] = some (.bool true, σ') := by
  unfold PC PCx at h
  cases hl : L f args [] with
  | none => simp [hl] at h
  | some p =>
    obtain ⟨v, σ'⟩ := p
    simp only [hl] at h
    exact ⟨σ', by rw [ztrE h]⟩
end Ab
namespace Ab
structure Mly where
  inputs : Int
  start : Int
  next : List (List Int)
  out : List (List Int)
  deriving Inhabited
abbrev Mly.av (m : Mly) : AV := .agg [.int m.inputs, .int m.start, iLL m.next, iLL m.out]
structure Mly.fits (m : Mly) : Prop where
  inputs : inR m.inputs = true
  start : inR m.start = true
  next : okII m.next
  out : okII m.out
abbrev tyMly : Ty := .st [.int, .int, .sl (.sl .int), .sl (.sl .int)]
theorem has_Mly {x : AV} (h : tyMly.has x) : ∃ m : Mly, x = m.av ∧ m.fits := by
  obtain ⟨xs, rfl, h⟩ := h
  simp only [Ty.hasL] at h
  obtain ⟨x0, s0, rfl, h0, x1, s1, rfl, h1, x2, s2, rfl, h2, x3, s3, rfl, h3, rfl⟩ := h
  obtain ⟨a0, rfl, k0⟩ := has_int h0
  obtain ⟨a1, rfl, k1⟩ := has_int h1
  obtain ⟨a2, rfl, k2⟩ := has_II h2
  obtain ⟨a3, rfl, k3⟩ := has_II h3
  exact ⟨⟨a0, a1, a2, a3⟩, rfl, ⟨k0, k1, k2, k3⟩⟩
def Mly.rowE (m : Mly) (s : Int) : Int :=
  if ¬ ((ix m.next s).length : Int) = m.inputs ∨ ¬ ((ix m.out s).length : Int) = m.inputs then 1
  else if bad (ix m.next s) m.next.length = true ∨ bad (ix m.out s) 1048577 = true then 2 else 0
def Mly.sizeE (m : Mly) : Int :=
  if m.inputs < 1 then 2
  else if 64 < m.inputs then 2
  else if m.next = [] then 19
  else if 128 < (m.next.length : Int) then 11
  else if m.start < 0 then 2
  else if (m.next.length : Int) ≤ m.start then 2
  else if ¬ (m.out.length : Int) = m.next.length then 1
  else 0
def Mly.validE (m : Mly) : Int := if m.sizeE ≠ 0 then m.sizeE else firstN m.rowE m.next.length
theorem z6om {m : Mly} {x : Int} (h : m.sizeE = x) (hx : x ≠ 0) : x = m.validE := by
  subst h; simp [Mly.validE, hx]
structure Mly.Ok (m : Mly) : Prop where
  inputs : 1 ≤ m.inputs ∧ m.inputs ≤ 64
  states : 1 ≤ (m.next.length : Int) ∧ (m.next.length : Int) ≤ 128
  start : 0 ≤ m.start ∧ m.start < m.next.length
  len : (m.out.length : Int) = m.next.length
  row : ∀ s, 0 ≤ s → s < (m.next.length : Int) → ((ix m.next s).length : Int) = m.inputs ∧ ((ix m.out s).length : Int) = m.inputs
  nx : ∀ s a, 0 ≤ s → s < (m.next.length : Int) → 0 ≤ a → a < m.inputs → 0 ≤ ix (ix m.next s) a ∧ ix (ix m.next s) a < m.next.length
  ot : ∀ s a, 0 ≤ s → s < (m.next.length : Int) → 0 ≤ a → a < m.inputs → 0 ≤ ix (ix m.out s) a ∧ ix (ix m.out s) a ≤ 1048576
theorem zKnu {m : Mly} (h : m.sizeE = 0) : (1 ≤ m.inputs ∧ m.inputs ≤ 64) ∧ (1 ≤ (m.next.length : Int) ∧ (m.next.length : Int) ≤ 128) ∧ (0 ≤ m.start ∧ m.start < m.next.length) ∧ (m.out.length : Int) = m.next.length := by
  unfold Mly.sizeE at h
  by_cases ha : m.next = []
  · simp only [if_pos ha] at h
    (repeat' split at h) <;> omega
  · have := List.length_pos_iff.2 ha
    simp only [if_neg ha] at h
    (repeat' split at h) <;> omega
theorem z6ZV {m : Mly} {s : Int} (h : m.rowE s = 0) : (((ix m.next s).length : Int) = m.inputs ∧ ((ix m.out s).length : Int) = m.inputs) ∧ bad (ix m.next s) m.next.length = false ∧ bad (ix m.out s) 1048577 = false := by
  unfold Mly.rowE at h
  split at h
  · simp at h
  rename_i a
  split at h
  · simp at h
  rename_i b
  simp only [not_or, Classical.not_not, Bool.not_eq_true] at a b
  exact ⟨a, b.1, b.2⟩
theorem zaDP {m : Mly} (h : m.validE = 0) : m.Ok := by
  have hs : m.sizeE = 0 := by
    unfold Mly.validE at h
    split at h
    · rename_i a; exact absurd h a
    · rename_i a; simpa using a
  have hr : ∀ s, 0 ≤ s → s < (m.next.length : Int) → m.rowE s = 0 := by
    unfold Mly.validE at h
    rw [if_neg (by simpa using hs)] at h
    exact zdWJ.1 h
  obtain ⟨h1, h2, h3, h4⟩ := zKnu hs
  have R := fun s s0 s1 => z6ZV (hr s s0 s1)
  exact ⟨h1, h2, h3, h4, fun s s0 s1 => (R s s0 s1).1, fun s c s0 s1 c0 c1 => z1UL.1 (R s s0 s1).2.1 c c0 (by have := (R s s0 s1).1; omega), fun s c s0 s1 c0 c1 => by have := z1UL.1 (R s s0 s1).2.2 c c0 (by have := (R s s0 s1).1; omega); omega⟩
end Ab
namespace Ab
def Mly.offE (m : Mly) (s a : Int) : Bool := out1 m.next.length (ix (ix m.next s) a) || out1 1048577 (ix (ix m.out s) a)
theorem zeSQ {m : Mly} {s a : Int} (h1 : ((ix m.next s).length : Int) = m.inputs) (h2 : ((ix m.out s).length : Int) = m.inputs) (a0 : 0 ≤ a) (a1 : a < m.inputs) (h : m.offE s a = true) : m.rowE s = 2 := by
  unfold Mly.rowE
  rw [if_neg (by simp [h1, h2]), if_pos]
  simp only [Mly.offE, Bool.or_eq_true] at h
  rcases h with h | h
  · exact .inl (bad_t a0 (by omega) h)
  · exact .inr (bad_t a0 (by omega) h)
theorem zFR0 {m : Mly} {s : Int} (h1 : ((ix m.next s).length : Int) = m.inputs) (h2 : ((ix m.out s).length : Int) = m.inputs) (h : ∀ a, 0 ≤ a → a < m.inputs → m.offE s a = false) : m.rowE s = 0 := by
  unfold Mly.rowE
  have h' : ∀ a, 0 ≤ a → a < m.inputs → out1 m.next.length (ix (ix m.next s) a) = false ∧ out1 1048577 (ix (ix m.out s) a) = false := fun a a0 a1 => by
    have := h a a0 a1
    simpa [Mly.offE] using this
  rw [if_neg (by simp [h1, h2]), if_neg]
  rw [bad_n fun j a b => (h' j a (by omega)).1, bad_n fun j a b => (h' j a (by omega)).2]
  simp
theorem zo3u (m : Mly) (h : m.fits) : PC zLwh [m.av] = some (.int m.validE) := by
  refine zx72 (zsJI rfl ?_)
  have hn := h.next.1
  simp
  repeat' (first | apply And.intro | intro _)
  all_goals try (refine z6om ?_ (by simp); unfold Mly.sizeE; repeat (first | rw [if_pos (by assumption)] | rw [if_neg (by assumption)] | rw [if_neg (by omega)] | rw [if_pos (by omega)]))
  rename_i a1 a2 a3 a4 a5 a6 a7
  have e3 : m.sizeE = 0 := by unfold Mly.sizeE; repeat (first | rw [if_pos (by assumption)] | rw [if_neg (by assumption)] | rw [if_neg (by omega)])
  rw [show m.validE = firstN m.rowE m.next.length by simp [Mly.validE, e3]]
  refine zv8C (fun i : Int => [(3, .int i)]) (fun _ => []) (fun i => 0 ≤ i ∧ i ≤ m.next.length ∧ ∀ j, 0 ≤ j → j < i → m.rowE j = 0) (fun i => (m.next.length - i).toNat) 0 rfl (by simp; omega) fun i ⟨i0, i1, i2⟩ => ?_
  by_cases hi : i < m.next.length
  · have hil : i < (m.out.length : Int) := by omega
    have bad1 : m.rowE i = 1 → 1 = firstN m.rowE m.next.length := fun h => by rw [← h]; exact (zUdY (f := m.rowE) i0 hi (by omega) i2).symm
    have bad2 : m.rowE i = 2 → 2 = firstN m.rowE m.next.length := fun h => by rw [← h]; exact (zUdY (f := m.rowE) i0 hi (by omega) i2).symm
    simp [-zJRc, hi, i0, hil]
    refine ⟨fun b1 => ⟨fun b2 => ?_, fun b2 => bad1 (by simp [Mly.rowE, b2])⟩, fun b1 => bad1 (by simp [Mly.rowE, b1])⟩
    refine zv8C (fun a : Int => [(6, .int a)]) (fun _ => []) (fun a => 0 ≤ a ∧ a ≤ m.inputs ∧ ∀ j, 0 ≤ j → j < a → m.offE i j = false) (fun a => (m.inputs - a).toNat) 0 rfl ⟨by omega, by omega, zguy⟩ fun a ⟨k0, k1, k2⟩ => ?_
    by_cases ha : a < m.inputs
    · have off : m.offE i a = true → 2 = firstN m.rowE m.next.length := fun h => bad2 (zeSQ b1 b2 k0 ha h)
      simp [-zJRc, ha, i0, hi, hil, k0, show a < ((ix m.next i).length : Int) by omega, show a < ((ix m.out i).length : Int) by omega]
      refine ⟨fun c1 => off (by simp [Mly.offE, out1, c1]), fun c1 => ⟨fun c2 => off (by simp [Mly.offE, out1, c2]), fun c2 => ⟨fun c3 => off (by simp [Mly.offE, out1, c3]), fun c3 => ⟨fun c4 => off (by simp [Mly.offE, out1, show (1048577 : Int) ≤ ix (ix m.out i) a by omega]), fun c4 => ⟨by omega, ?_⟩⟩⟩⟩⟩
      refine zGkM (a + 1) rfl rfl ⟨by omega, by omega, zvtS ?_ k2⟩ (by omega)
      simp [Mly.offE, out1]
      omega
    · simp [-zJRc, ha]
      refine ⟨by omega, zGkM (i + 1) rfl rfl ⟨by omega, by omega, zvtS (zFR0 b1 b2 fun a' h0 h1 => k2 a' h0 (by omega)) i2⟩ (by omega)⟩
  · simp [hi]
    rw [zs2N fun j a b => i2 j a (by omega)]
theorem z7TD (m : Mly) (s : Int) (s0 : 0 ≤ s) (s1 : s < m.next.length) (s2 : s < m.out.length) (hn : (m.next.length : Int) ≤ 9223372036854775807) (hin : inR m.inputs = true) : PC zyip [m.av, .int s] = some (.int (m.rowE s)) := by
  rw [zwIQ] at hin
  refine zx72 (zIgT rfl ?_)
  simp [-zJRc, s0, s1, s2]
  refine ⟨fun b1 => ⟨fun b2 => ?_, fun b2 => by simp [Mly.rowE, b2]⟩, fun b1 => by simp [Mly.rowE, b1]⟩
  refine zv8C (fun a : Int => [(3, .int a)]) (fun _ => []) (fun a => 0 ≤ a ∧ a ≤ m.inputs ∧ ∀ j, 0 ≤ j → j < a → m.offE s j = false) (fun a => (m.inputs - a).toNat) 0 rfl ⟨by omega, by omega, zguy⟩ fun a ⟨k0, k1, k2⟩ => ?_
  by_cases ha : a < m.inputs
  · have off : m.offE s a = true → 2 = m.rowE s := fun h => (zeSQ b1 b2 k0 ha h).symm
    simp [-zJRc, ha, s0, s1, s2, k0, show a < ((ix m.next s).length : Int) by omega, show a < ((ix m.out s).length : Int) by omega]
    refine ⟨fun c1 => off (by simp [Mly.offE, out1, c1]), fun c1 => ⟨fun c2 => off (by simp [Mly.offE, out1, c2]), fun c2 => ⟨fun c3 => off (by simp [Mly.offE, out1, c3]), fun c3 => ⟨fun c4 => off (by simp [Mly.offE, out1, show (1048577 : Int) ≤ ix (ix m.out s) a by omega]), fun c4 => ⟨by omega, ?_⟩⟩⟩⟩⟩
    refine zGkM (a + 1) rfl rfl ⟨by omega, by omega, zvtS ?_ k2⟩ (by omega)
    simp [Mly.offE, out1]
    omega
  · simp [-zJRc, ha]
    exact (zFR0 b1 b2 fun a' h0 h1 => k2 a' h0 (by omega)).symm
theorem zrVN (m : Mly) (h : m.fits) : PC z2Nz [m.av] = some (.int m.validE) := by
  refine zx72 (zryx rfl ?_)
  have hn := h.next.1
  simp
  repeat' (first | apply And.intro | intro _)
  all_goals try (refine z6om ?_ (by simp); unfold Mly.sizeE; repeat (first | rw [if_pos (by assumption)] | rw [if_neg (by assumption)] | rw [if_neg (by omega)] | rw [if_pos (by omega)]))
  rename_i a1 a2 a3 a4 a5 a6 a7
  have e3 : m.sizeE = 0 := by unfold Mly.sizeE; repeat (first | rw [if_pos (by assumption)] | rw [if_neg (by assumption)] | rw [if_neg (by omega)])
  rw [show m.validE = firstN m.rowE m.next.length by simp [Mly.validE, e3]]
  refine zv8C (fun i : Int => [(2, .int i)]) (fun _ => []) (fun i => 0 ≤ i ∧ i ≤ m.next.length ∧ ∀ j, 0 ≤ j → j < i → m.rowE j = 0) (fun i => (m.next.length - i).toNat) 0 rfl (by simp; omega) fun i ⟨i0, i1, i2⟩ => ?_
  by_cases hi : i < m.next.length
  · have e := z7TD m i i0 hi (by omega) hn h.inputs
    simp [hi, e]
    exact ⟨fun hz => ⟨by omega, ⟨by omega, by omega, zvtS hz i2⟩, by omega⟩, fun hz => (zUdY i0 hi hz i2).symm⟩
  · simp [hi]
    rw [zs2N fun j a b => i2 j a (by omega)]
end Ab
namespace Ab
abbrev Pl := Int × List Int
def bstep (m : Mly) (p : Pl) (q : List Pl) (a : Int) : List Pl := if q.any (fun x => x.1 == ix (ix m.next p.1) a) then q else q ++ [(ix (ix m.next p.1) a, p.2 ++ [a])]
def brow (m : Mly) (p : Pl) (q : List Pl) (k : Int) : List Pl := (List.range k.toNat).foldl (fun q a => bstep m p q (a : Nat)) q
theorem zqI6 {m : Mly} {p : Pl} {q : List Pl} {a : Int} (h : 0 ≤ a) : brow m p q (a + 1) = bstep m p (brow m p q a) a := by
  unfold brow
  rw [show (a + 1).toNat = a.toNat + 1 by omega, List.range_succ, List.foldl_append]
  simp only [List.foldl_cons, List.foldl_nil]
  rw [show ((a.toNat : Nat) : Int) = a by omega]
def bfs (m : Mly) : Nat → Int → List Pl → List Pl
  | 0, _, q => q
  | f + 1, i, q => if i < q.length then bfs m f (i + 1) (brow m (ix q i) q m.inputs) else q
def Mly.places (m : Mly) (s : Int) : List Pl := bfs m (m.next.length + 1) 0 [(s, [])]
theorem zVv5 : ∀ (n : Nat) {l : List Int}, l.Nodup → (∀ x ∈ l, 0 ≤ x ∧ x < (n : Int)) → l.length ≤ n
  | 0, l, _, h => by
    cases l with
    | nil => simp
    | cons x r => have := h x (by simp); omega
  | n + 1, l, hn, h => by
    have e : l.length = (l.filter fun x => decide (x < (n : Int))).length + (l.filter fun x => !decide (x < (n : Int))).length := by
      clear hn h
      induction l with
      | nil => rfl
      | cons x r ih => by_cases hx : x < (n : Int) <;> simp [hx] <;> omega
    have h1 := zVv5 n (l := l.filter fun x => decide (x < (n : Int))) (hn.filter _) (fun x hx => by
      simp only [List.mem_filter, decide_eq_true_eq] at hx
      exact ⟨(h x hx.1).1, hx.2⟩)
    have h2 : (l.filter fun x => !decide (x < (n : Int))).length ≤ 1 := by
      have hnd := hn.filter (fun x => !decide (x < (n : Int)))
      have hall : ∀ x ∈ l.filter (fun x => !decide (x < (n : Int))), x = (n : Int) := fun x hx => by
        have hx := List.mem_filter.1 hx
        have h2 : ¬ x < (n : Int) := by simpa using hx.2
        have := h x hx.1
        omega
      generalize l.filter (fun x => !decide (x < (n : Int))) = k at hnd hall
      match k, hnd, hall with
      | [], _, _ => simp
      | [_], _, _ => simp
      | x :: y :: r, hnd, hall =>
        have hx := hall x (by simp)
        have hy := hall y (by simp)
        have hm := (List.nodup_cons.1 hnd).1
        exact absurd (by rw [hx, hy]; simp) hm
    omega
structure Bq (m : Mly) (s : Int) (q : List Pl) : Prop where
  nd : (q.map (·.1)).Nodup
  rng : ∀ p ∈ q, 0 ≤ p.1 ∧ p.1 < (m.next.length : Int)
  pos : 0 < q.length
  head : ix q 0 = (s, [])
  len : ∀ j, 0 ≤ j → j < (q.length : Int) → ((ix q j).2.length : Int) ≤ j
  ne : ∀ j, 0 < j → j < (q.length : Int) → (ix q j).2 ≠ []
theorem Bq.le {m : Mly} {s : Int} {q : List Pl} (h : Bq m s q) : q.length ≤ m.next.length := by
  have := zVv5 m.next.length h.nd (fun x hx => by
    obtain ⟨p, hp, rfl⟩ := List.mem_map.1 hx
    exact h.rng p hp)
  simpa using this
theorem Bq.init {m : Mly} {s : Int} (h : 0 ≤ s ∧ s < (m.next.length : Int)) : Bq m s [(s, [])] := by
  refine ⟨by simp, by simpa using h, by simp, rfl, fun j j0 j1 => ?_, fun j j0 j1 => ?_⟩
  · simp at j1
    rw [show j = 0 by omega]; simp [ix]
  · simp at j1; omega
theorem zT8e {α : Type} [Inhabited α] {l m : List α} {j : Int} (h0 : 0 ≤ j) (h1 : j < l.length) : ix (l ++ m) j = ix l j := by
  unfold ix
  rw [List.getD_eq_getElem?_getD, List.getD_eq_getElem?_getD, List.getElem?_append_left (by omega)]
theorem zD1B {α : Type} [Inhabited α] {l : List α} {x : α} : ix (l ++ [x]) (l.length : Int) = x := by
  unfold ix
  rw [List.getD_eq_getElem?_getD, Int.toNat_natCast, List.getElem?_append_right (Nat.le_refl _)]; simp
def hasS (q : List Pl) (t : Int) : Bool := q.any fun x => x.1 == t
theorem zOV0 {q : List Pl} {t : Int} : hasS q t = true ↔ t ∈ q.map (·.1) := by
  simp [hasS]
theorem Bq.add {m : Mly} {s : Int} {q : List Pl} (h : Bq m s q) {t : Int} {w : List Int} (ht : 0 ≤ t ∧ t < (m.next.length : Int)) (hn : hasS q t = false) (hw : w ≠ []) (hl : w.length ≤ q.length) : Bq m s (q ++ [(t, w)]) := by
  have hq := h.pos
  have hn' : t ∉ q.map (·.1) := fun hm => by rw [zOV0.2 hm] at hn; simp at hn
  refine ⟨?_, fun p hp => ?_, by simp, by rw [zT8e (by omega) (by omega)]; exact h.head, fun j j0 j1 => ?_, fun j j0 j1 => ?_⟩
  · rw [List.map_append, List.nodup_append]
    refine ⟨h.nd, by simp, fun a ha b hb => ?_⟩
    simp at hb; subst hb
    exact fun e => hn' (e ▸ ha)
  · rcases List.mem_append.1 hp with hp | hp
    · exact h.rng p hp
    · simp at hp; subst hp; exact ht
  · by_cases hj : j < (q.length : Int)
    · rw [zT8e j0 hj]; exact h.len j j0 hj
    · simp at j1
      rw [show j = (q.length : Int) by omega, zD1B]
      simp; omega
  · by_cases hj : j < (q.length : Int)
    · rw [zT8e (by omega) hj]; exact h.ne j j0 hj
    · simp at j1
      rw [show j = (q.length : Int) by omega, zD1B]
      exact hw
theorem zWJS {m : Mly} {p : Pl} {q : List Pl} {a : Int} (h : hasS q (ix (ix m.next p.1) a) = true) : bstep m p q a = q := if_pos h
theorem z8XM {m : Mly} {p : Pl} {q : List Pl} {a : Int} (h : hasS q (ix (ix m.next p.1) a) = false) : bstep m p q a = q ++ [(ix (ix m.next p.1) a, p.2 ++ [a])] := if_neg (by unfold hasS at h; simp [h])
theorem Bq.step {m : Mly} (hm : m.Ok) {s : Int} {q : List Pl} (h : Bq m s q) {p : Pl} (hp : 0 ≤ p.1 ∧ p.1 < (m.next.length : Int)) (hl : p.2.length < q.length) {a : Int} (a0 : 0 ≤ a) (a1 : a < m.inputs) : Bq m s (bstep m p q a) := by
  have ht := hm.nx p.1 a hp.1 hp.2 a0 a1
  cases hh : hasS q (ix (ix m.next p.1) a) with
  | true => rw [zWJS hh]; exact h
  | false => rw [z8XM hh]; exact h.add ht hh (by simp) (by simp; omega)
theorem zDcS {m : Mly} {p : Pl} {q : List Pl} {a : Int} : ∃ l, bstep m p q a = q ++ l := by
  unfold bstep
  split
  · exact ⟨[], by simp⟩
  · exact ⟨_, rfl⟩
theorem zXiF {m : Mly} {f : Nat} {i : Int} {q : List Pl} (h : ¬ i < (q.length : Int)) : bfs m f i q = q := by
  cases f with
  | zero => rfl
  | succ f => unfold bfs; rw [if_neg h]
theorem zcUu {m : Mly} {f : Nat} {i : Int} {q : List Pl} (h : i < (q.length : Int)) : bfs m (f + 1) i q = bfs m f (i + 1) (brow m (ix q i) q m.inputs) := by
  conv => lhs; unfold bfs
  rw [if_pos h]
end Ab
