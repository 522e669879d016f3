/- Small functions of the document. Condition: none. -/
import Derived.Test.YtbpkebkldaifgaaBfs
import Derived.Test.YtbpkebkldaifgaaWords
set_option linter.all false
set_option maxRecDepth 100000
set_option maxHeartbeats 4000000
namespace Ab
theorem any_ix {α : Type} [Inhabited α] {p : α → Bool} {xs : List α} {i : Int} (h0 : 0 ≤ i) (h1 : i < xs.length) (h : p (ix xs i) = true) : xs.any p = true := List.any_eq_true.2 ⟨_, ix_mem h0 h1, h⟩
theorem any_no {α : Type} [Inhabited α] {p : α → Bool} {xs : List α} (h2 : ∀ j, 0 ≤ j → j < (xs.length : Int) → p (ix xs j) = false) : xs.any p = false := by
  rw [List.any_eq_false]
  intro x hx
  obtain ⟨i, hi, rfl⟩ := List.mem_iff_getElem.1 hx
  rw [← ix_nat hi]; simp [h2 i (by omega) (by omega)]
theorem vd_LL {σ : List Blk} {fr : Bool} {b n : Nat} {xs : List (List Int)} {st : BSt} (h : blk σ b = some ⟨none, xs.map iL, st⟩) (hs : st ≠ .dead) (hn : n = xs.length) : view σ false vd (.sl b n 0 n) = some (iLL xs) := view_sm (k := 11) (f := iL) (g := iL) h hs hn fun _ _ => rfl
theorem rhas_l (l : List Int) (n : Int) (hl : (l.length : Int) ≤ 1000000) : LX L F_ref10_has [iL l, .int n] [] (fun v _ => v = .bool (l.any fun x => x == n)) := by
  refine go_ref10_has rfl ?_
  simp
  refine W_iter (fun i : Int => [(2, .int i)]) (fun _ => []) (fun i => 0 ≤ i ∧ i ≤ l.length ∧ ∀ j, 0 ≤ j → j < i → ¬ ix l j = n) (fun i => (l.length - i).toNat) 0 rfl ⟨by omega, by omega, upto_zero⟩ fun i ⟨i0, i1, i2⟩ => ?_
  by_cases hi : i < l.length
  · simp [-More_nor, hi, i0]
    refine ⟨fun h => h ▸ ix_mem i0 hi, fun h => ⟨by omega, More_of (i + 1) rfl rfl ⟨by omega, by omega, upto_succ h i2⟩ (by omega)⟩⟩
  · have e := any_no (p := fun x => x == n) (xs := l) fun j a b => by simpa using i2 j a (by omega)
    simp [hi]
    simpa using e
theorem rhas_s (l : List Int) (n : Int) (hl : (l.length : Int) ≤ 1000000) : ∃ σ', L F_ref10_has [iL l, .int n] [] = some (.bool (l.any fun x => x == n), σ') := by
  obtain ⟨_, σ', h, rfl⟩ := LX_s (rhas_l l n hl)
  exact ⟨σ', h⟩
theorem Ext_s (w : List Int) (a : Int) (hl : (w.length : Int) ≤ 1000000) : PC F_ref09_Extended [iL w, .int a] = some (iL (w ++ [a])) := by
  refine PCx_of (go_ref09_Extended rfl ?_)
  simp
  refine ⟨by omega, fun h => ?_, fun h => ⟨by omega, ?_⟩⟩
  · subst h; rfl
  · have := vd_iL (σ := [⟨none, (w ++ [a]).map .int, .live⟩]) (fr := false) (b := 0) (xs := w ++ [a]) (n := w.length + 1) (st := .live) rfl (by simp) (by simp)
    simp at this
    simp [this]
theorem Equal_r (l : List Int) (hl : (l.length : Int) ≤ 1000000) : PC F_ref08_Equal [iL l, iL l] = some (.bool true) := by
  refine PCx_of (go_ref08_Equal rfl ?_)
  simp
  refine W_iter (fun i : Int => [(2, .int i)]) (fun _ => []) (fun i => 0 ≤ i ∧ i ≤ l.length) (fun i => (l.length - i).toNat) 0 rfl ⟨by omega, by omega⟩ fun i ⟨i0, i1⟩ => ?_
  by_cases hi : i < l.length
  · simp [-More_nor, hi, i0]
    exact ⟨by omega, More_of (i + 1) rfl rfl ⟨by omega, by omega⟩ (by omega)⟩
  · simp [hi]
theorem Same_r (l : List (List Int)) (hl : (l.length : Int) ≤ 1000000) (hw : ∀ w ∈ l, (w.length : Int) ≤ 1000000) : PC F_ref10_Same [iLL l, iLL l] = some (.bool true) := by
  refine PCx_of (go_ref10_Same rfl ?_)
  simp
  refine W_iter (fun i : Int => [(2, .int i)]) (fun _ => []) (fun i => 0 ≤ i ∧ i ≤ l.length) (fun i => (l.length - i).toNat) 0 rfl ⟨by omega, by omega⟩ fun i ⟨i0, i1⟩ => ?_
  by_cases hi : i < l.length
  · have hwi := hw _ (ix_mem i0 hi)
    simp [-More_nor, hi, i0]
    refine W_iter (fun k : Int => [(3, .int k)]) (fun _ => []) (fun k => 0 ≤ k ∧ k ≤ (ix l i).length) (fun k => ((ix l i).length - k).toNat) 0 rfl ⟨by omega, by omega⟩ fun k ⟨k0, k1⟩ => ?_
    by_cases hk : k < (ix l i).length
    · simp [-More_nor, hi, i0, hk, k0]
      exact ⟨by omega, More_of (k + 1) rfl rfl ⟨by omega, by omega⟩ (by omega)⟩
    · simp [-More_nor, hk]
      (repeat' apply And.intro) <;> try omega
      refine More_of (i + 1) rfl rfl ⟨by omega, by omega⟩ (by omega)
  · simp [hi]
def Mly.great (m : Mly) : Bool := decide (12 < (m.next.length : Int)) || decide (12 < (m.out.length : Int)) || decide (6 < m.inputs) || (m.next.any fun r => decide (12 < (r.length : Int))) || (m.out.any fun r => decide (12 < (r.length : Int)))
theorem Great_s (m : Mly) (h : m.fits) : PC F_law08_Great [m.av] = some (.bool m.great) := by
  refine PCx_of (go_law08_Great rfl ?_)
  have hn := h.next.1
  have ho := h.out.1
  have g1 : 12 < (m.next.length : Int) ∨ 12 < (m.out.length : Int) ∨ 6 < m.inputs → m.great = true := by
    intro h; unfold Mly.great; simp only [Bool.or_eq_true, decide_eq_true_eq]; omega
  have g2 : ∀ i, 0 ≤ i → i < (m.next.length : Int) → 12 < ((ix m.next i).length : Int) → m.great = true := fun i h0 h1 h2 => by
    have := any_ix (p := fun r => decide (12 < (r.length : Int))) h0 h1 (by simpa using h2)
    unfold Mly.great; rw [this]; simp
  have g3 : ∀ i, 0 ≤ i → i < (m.out.length : Int) → 12 < ((ix m.out i).length : Int) → m.great = true := fun i h0 h1 h2 => by
    have := any_ix (p := fun r => decide (12 < (r.length : Int))) h0 h1 (by simpa using h2)
    unfold Mly.great; rw [this]; simp
  simp
  refine ⟨fun h => (g1 (.inl h)), fun a1 => ⟨fun h => (g1 (.inr (.inl h))), fun a2 => ⟨fun h => (g1 (.inr (.inr h))), fun a3 => ?_⟩⟩⟩
  refine W_iter (fun i : Int => [(2, .int i)]) (fun _ => []) (fun i => 0 ≤ i ∧ i ≤ m.next.length ∧ ∀ j, 0 ≤ j → j < i → ((ix m.next j).length : Int) ≤ 12) (fun i => (m.next.length - i).toNat) 0 rfl ⟨by omega, by omega, upto_zero⟩ fun i ⟨i0, i1, i2⟩ => ?_
  by_cases hi : i < m.next.length
  · simp [-More_nor, hi, i0]
    refine ⟨fun h => (g2 i i0 hi h), fun h => ⟨by omega, More_of (i + 1) rfl rfl ⟨by omega, by omega, upto_succ (by omega) i2⟩ (by omega)⟩⟩
  · simp [hi]
    refine W_iter (fun i : Int => [(5, .int i)]) (fun _ => []) (fun i => 0 ≤ i ∧ i ≤ m.out.length ∧ ∀ j, 0 ≤ j → j < i → ((ix m.out j).length : Int) ≤ 12) (fun i => (m.out.length - i).toNat) 0 rfl ⟨by omega, by omega, upto_zero⟩ fun k ⟨k0, k1, k2⟩ => ?_
    by_cases hk : k < m.out.length
    · simp [-More_nor, hk, k0]
      refine ⟨fun h => (g3 k k0 hk h), fun h => ⟨by omega, More_of (k + 1) rfl rfl ⟨by omega, by omega, upto_succ (by omega) k2⟩ (by omega)⟩⟩
    · simp [hk]
      have e1 := any_no (p := fun r : List Int => decide (12 < (r.length : Int))) (xs := m.next) fun j a b => by simpa using i2 j a (by omega)
      have e2 := any_no (p := fun r : List Int => decide (12 < (r.length : Int))) (xs := m.out) fun j a b => by simpa using k2 j a (by omega)
      unfold Mly.great
      rw [e1, e2]
      simp
      omega
theorem great_f {m : Mly} (h : m.great = false) : (m.next.length : Int) ≤ 12 ∧ m.inputs ≤ 6 := by
  unfold Mly.great at h
  simp only [Bool.or_eq_false_iff, decide_eq_false_iff_not] at h
  omega
end Ab
