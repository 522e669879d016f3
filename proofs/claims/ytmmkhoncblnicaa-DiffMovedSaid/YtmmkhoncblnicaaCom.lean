/- Functions of the library and small laws on lists that many proofs share. Condition: none. -/
import Derived.Test.YtmmkhoncblnicaaIr
import Derived.Test.YtmmkhoncblnicaaAbL
set_option linter.all false
set_option maxRecDepth 100000
set_option maxHeartbeats 4000000
namespace Ab
noncomputable abbrev PC := PCx L
/-- The first place where p holds, or -1. -/
def idx {α : Type} (p : α → Bool) (xs : List α) : Int := match xs.findIdx? p with
  | some i => i
  | none => -1
theorem idx_some {α : Type} [Inhabited α] {p : α → Bool} {xs : List α} {i : Int} (h0 : 0 ≤ i) (h1 : i < xs.length) (h : p (ix xs i) = true) (h2 : ∀ j, 0 ≤ j → j < i → p (ix xs j) = false) : idx p xs = i := by
  have e : xs.findIdx? p = some i.toNat := by
    rw [List.findIdx?_eq_some_iff_getElem]
    refine ⟨by omega, ?_, fun j hj => ?_⟩
    · rw [← ix_nat (by omega), show ((i.toNat : Nat) : Int) = i by omega]; exact h
    · have := h2 j (by omega) (by omega)
      rw [ix_nat (by omega)] at this
      simp [this]
  unfold idx; rw [e]; simp; omega
theorem idx_none {α : Type} [Inhabited α] {p : α → Bool} {xs : List α} (h2 : ∀ j, 0 ≤ j → j < (xs.length : Int) → p (ix xs j) = false) : idx p xs = -1 := by
  have e : xs.findIdx? p = none := by
    rw [List.findIdx?_eq_none_iff]
    intro x hx
    obtain ⟨i, hi, rfl⟩ := List.mem_iff_getElem.1 hx
    rw [← ix_nat hi]; exact h2 i (by omega) (by omega)
  unfold idx; rw [e]
theorem idx_any {α : Type} {p : α → Bool} {xs : List α} : decide (0 ≤ idx p xs) = xs.any p := by
  unfold idx
  cases h : xs.findIdx? p with
  | none =>
    rw [List.findIdx?_eq_none_iff] at h
    simp
    intro x hx; simpa using h x hx
  | some i =>
    rw [List.findIdx?_eq_some_iff_getElem] at h
    obtain ⟨h1, h2, _⟩ := h
    simp
    exact ⟨_, List.getElem_mem h1, h2⟩
/-- The first of f 0, .., f (n - 1) that is not 0; else 0. -/
def firstN (f : Int → Int) (n : Int) : Int := (((List.range n.toNat).map fun i => f (i : Nat)).find? fun x => x != 0).getD 0
theorem firstN_some {f : Int → Int} {n i : Int} (h0 : 0 ≤ i) (h1 : i < n) (h : f i ≠ 0) (h2 : ∀ j, 0 ≤ j → j < i → f j = 0) : firstN f n = f i := by
  have e : (((List.range n.toNat).map fun i => f (i : Nat)).find? fun x => x != 0) = some (f i) := by
    rw [List.find?_eq_some_iff_getElem]
    refine ⟨by simpa using h, i.toNat, by simp; omega, by simp; congr 1; omega, fun j hj => ?_⟩
    simp; exact h2 j (by omega) (by omega)
  unfold firstN; rw [e]; rfl
theorem firstN_none {f : Int → Int} {n : Int} (h2 : ∀ j, 0 ≤ j → j < n → f j = 0) : firstN f n = 0 := by
  have e : (((List.range n.toNat).map fun i => f (i : Nat)).find? fun x => x != 0) = none := by
    rw [List.find?_eq_none]
    simp
    intro a ha; exact h2 a (by omega) (by omega)
  unfold firstN; rw [e]; rfl
theorem firstN_eq {f : Int → Int} {n : Int} : firstN f n = 0 ↔ ∀ j, 0 ≤ j → j < n → f j = 0 := by
  constructor
  · intro h j h0 h1
    unfold firstN at h
    cases e : (((List.range n.toNat).map fun i => f (i : Nat)).find? fun x => x != 0) with
    | none =>
      rw [List.find?_eq_none] at e
      simp at e
      have := e j.toNat (by omega)
      rwa [show ((j.toNat : Nat) : Int) = j by omega] at this
    | some x =>
      have hx := List.find?_some e
      rw [e] at h; simp at h hx; exact absurd h hx
  · exact firstN_none
theorem firstN_congr {f g : Int → Int} {n : Int} (h : ∀ j, 0 ≤ j → j < n → f j = g j) : firstN f n = firstN g n := by
  unfold firstN
  congr 2
  apply List.map_congr_left
  intro a ha
  simp at ha
  exact h a (by omega) (by omega)
/-- Up to one more. -/
theorem upto_succ {P : Int → Prop} {i : Int} (h : P i) (h2 : ∀ j, 0 ≤ j → j < i → P j) : ∀ j, 0 ≤ j → j < i + 1 → P j := by
  intro j a b
  by_cases e : j = i
  · subst e; exact h
  · exact h2 j a (by omega)
theorem upto_zero {P : Int → Prop} : ∀ j, 0 ≤ j → j < (0 : Int) → P j := fun j a b => by omega

theorem IndexFunc_s (xs : List Int) (f : Nat) (caps : List AV) (p : Int → Bool) (hl : (xs.length : Int) ≤ 9223372036854775807) (hc : noLocs caps = true)
    (hp : ∀ x ∈ xs, PC f (.int x :: caps.map wk) = some (.bool (p x))) : PC F_slices_IndexFunc_Sint_int [iL xs, .func f caps] = some (.int (idx p xs)) := by
  refine PCx_of (go_slices_IndexFunc_Sint_int rfl ?_)
  simp
  refine W_iter (fun i : Int => [(2, .int i)]) (fun _ => []) (fun i => 0 ≤ i ∧ i ≤ xs.length ∧ ∀ j, 0 ≤ j → j < i → p (ix xs j) = false) (fun i => (xs.length - i).toNat) 0 rfl (by simp; omega) fun i ⟨h0, h1, h2⟩ => ?_
  by_cases hi : i < xs.length
  · have hq := hp _ (ix_mem h0 hi)
    simp [hi, h0, hc, hq]
    exact ⟨fun h => (idx_some h0 hi h h2).symm, fun h => ⟨by omega, ⟨by omega, by omega, upto_succ h h2⟩, by omega⟩⟩
  · simp [hi]
    rw [idx_none fun j a b => h2 j a (by omega)]
theorem ContainsFunc_s (xs : List Int) (f : Nat) (caps : List AV) (p : Int → Bool) (hl : (xs.length : Int) ≤ 9223372036854775807) (hc : noLocs caps = true) (hw : caps.map wk = caps)
    (hp : ∀ x ∈ xs, PC f (.int x :: caps) = some (.bool (p x))) : PC F_slices_ContainsFunc_Sint_int [iL xs, .func f caps] = some (.bool (xs.any p)) := by
  refine PCx_of (go_slices_ContainsFunc_Sint_int rfl ?_)
  simp [hc, hw, IndexFunc_s xs f caps p hl hc (by rw [hw]; exact hp)]
  exact idx_any
/-- A number is not from 0 to k - 1. -/
def out1 (k x : Int) : Bool := decide (x < 0) || decide (k ≤ x)
theorem out1_f {k x : Int} : out1 k x = false ↔ 0 ≤ x ∧ x < k := by simp [out1]
/-- Some number is not. -/
def bad (xs : List Int) (k : Int) : Bool := xs.any (out1 k)
theorem bad_f {xs : List Int} {k : Int} : bad xs k = false ↔ ∀ x ∈ xs, 0 ≤ x ∧ x < k := by
  simp [bad, List.any_eq_false, out1]
theorem bad_fi {xs : List Int} {k : Int} : bad xs k = false ↔ ∀ j, 0 ≤ j → j < (xs.length : Int) → 0 ≤ ix xs j ∧ ix xs j < k := by
  rw [bad_f]
  constructor
  · exact fun h j a b => h _ (ix_mem a b)
  · intro h x hx
    obtain ⟨i, hi, rfl⟩ := List.mem_iff_getElem.1 hx
    rw [← ix_nat hi]; exact h i (by omega) (by omega)
theorem bad_t {xs : List Int} {k j : Int} (h0 : 0 ≤ j) (h1 : j < xs.length) (h : out1 k (ix xs j) = true) : bad xs k = true := by
  cases hb : bad xs k with
  | true => rfl
  | false => rw [out1_f.2 (bad_fi.1 hb j h0 h1)] at h; exact h
theorem bad_n {xs : List Int} {k : Int} (h : ∀ j, 0 ≤ j → j < (xs.length : Int) → out1 k (ix xs j) = false) : bad xs k = false :=
  bad_fi.2 fun j a b => out1_f.1 (h j a b)
theorem not_out1 {k x : Int} : (!out1 k x) = (decide (0 ≤ x) && decide (x < k)) := by
  rw [Bool.eq_iff_iff]; simp [out1]
/-! ### Words -/
theorem foldl_take {α β : Type} [Inhabited β] {f : α → β → α} {a : α} {w : List β} {i : Int} (h0 : 0 ≤ i) (h1 : i < w.length) : (w.take (i + 1).toNat).foldl f a = f ((w.take i.toNat).foldl f a) (ix w i) := by
  have e : w.take (i + 1).toNat = w.take i.toNat ++ [ix w i] := by
    rw [show (i + 1).toNat = i.toNat + 1 by omega, List.take_add_one, ix_eq h0 h1]
    rfl
  rw [e, List.foldl_append]; rfl
theorem foldl_take0 {α β : Type} {f : α → β → α} {a : α} {w : List β} : (w.take (0 : Int).toNat).foldl f a = a := rfl
theorem foldl_take1 {α β : Type} {f : α → β → α} {a : α} {w : List β} {i : Int} (h : (w.length : Int) ≤ i) : (w.take i.toNat).foldl f a = w.foldl f a := by
  rw [List.take_of_length_le (by omega)]
/-- The error of a word. -/
def wordE (w : List Int) (k : Int) : Int := if k < 1 ∨ 1024 < k then 2 else if 1024 < (w.length : Int) then 3 else if bad w k = true then 1 else 0
theorem wcheck1_s (x k : Int) : PC F_word_Check_1 [.int x, .pimm (.int k)] = some (.bool (out1 k x)) := by
  refine PCx_of (go_word_Check_1 rfl ?_)
  simp [out1]
  omega
theorem permitted_s (k : Int) : PC F_word_permitted [.int k] = some (.bool (decide (1 ≤ k) && decide (k ≤ 1024))) := by
  refine PCx_of (go_word_permitted rfl ?_)
  simp
  omega
theorem wCheck_s (w : List Int) (k : Int) (hl : (w.length : Int) ≤ 9223372036854775807) : PC F_word_Check [iL w, .int k] = some (.int (wordE w k)) := by
  refine PCx_of (go_word_Check rfl ?_)
  have e1 := permitted_s k
  by_cases hk : k < 1 ∨ 1024 < k
  · simp [e1, show (decide (1 ≤ k) && decide (k ≤ 1024)) = false by simp; omega]
    simp [wordE, hk]
  have e2 : PC F_slices_ContainsFunc_Sint_int [iL w, .func F_word_Check_1 [.pimm (.int k)]] = some (.bool (bad w k)) := ContainsFunc_s w F_word_Check_1 [.pimm (.int k)] (out1 k) hl rfl rfl (fun x _ => wcheck1_s x k)
  simp [e1, show (decide (1 ≤ k) && decide (k ≤ 1024)) = true by simp; omega, e2]
  simp only [wordE, if_neg hk]
  exact ⟨fun a => by simp [a], fun a => ⟨fun b => by simp [b]; omega, fun b => by simp [b]; omega⟩⟩
end Ab
