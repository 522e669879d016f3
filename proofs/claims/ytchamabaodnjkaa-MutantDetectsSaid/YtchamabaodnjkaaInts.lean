/- Equality of lists, of machines. Condition: none. -/
import Derived.Test.YtchamabaodnjkaaCovP
set_option linter.all false
set_option maxRecDepth 100000
set_option maxHeartbeats 4000000
namespace Ab
theorem ext_ix {a b : List Int} (hl : a.length = b.length) (h : ∀ j, 0 ≤ j → j < (a.length : Int) → ix a j = ix b j) : a = b := by
  apply List.ext_getElem hl
  intro i h1 h2
  have := h i (by omega) (by omega)
  rwa [ix_nat h1, ix_nat h2] at this
theorem ext_ixL {a b : List (List Int)} (hl : a.length = b.length) (h : ∀ j, 0 ≤ j → j < (a.length : Int) → ix a j = ix b j) : a = b := by
  apply List.ext_getElem hl
  intro i h1 h2
  have := h i (by omega) (by omega)
  rwa [ix_nat h1, ix_nat h2] at this
theorem Ints_s (a b : List Int) (ha : (a.length : Int) ≤ 1000000) (hb : (b.length : Int) ≤ 9223372036854775807) : PC F_ref06_Ints [iL a, iL b] = some (.bool (decide (a = b))) := by
  refine PCx_of (go_ref06_Ints rfl ?_)
  by_cases hl : a.length = b.length
  · simp [hl]
    refine W_iter (fun i : Int => [(2, .int i)]) (fun _ => []) (fun i => 0 ≤ i ∧ i ≤ b.length ∧ ∀ j, 0 ≤ j → j < i → ix a j = ix b j) (fun i => (b.length - i).toNat) 0 rfl ⟨by omega, by omega, upto_zero⟩ fun i ⟨i0, i1, i2⟩ => ?_
    by_cases hi : i < a.length
    · have hib : i < (b.length : Int) := by omega
      simp [-More_nor, hl, hib, i0]
      refine ⟨fun h => ⟨by omega, More_of (i + 1) rfl rfl ⟨by omega, by omega, upto_succ h i2⟩ (by omega)⟩, fun h e => ?_⟩
      subst e; exact h rfl
    · have hib : ¬ i < (b.length : Int) := by omega
      have e := ext_ix hl fun j j0 j1 => i2 j j0 (by omega)
      simp [hl, hib]
      exact e
  · have hl' : ¬ (a.length : Int) = b.length := by omega
    have he : ¬ a = b := fun e => hl (by rw [e])
    simp [hl', he, hl]
theorem Lists_s (a b : List (List Int)) (ha : (a.length : Int) ≤ 1000000) (hb : (b.length : Int) ≤ 9223372036854775807) (ra : ∀ r ∈ a, (r.length : Int) ≤ 1000000) (rb : ∀ r ∈ b, (r.length : Int) ≤ 9223372036854775807) : PC F_ref06_Lists [iLL a, iLL b] = some (.bool (decide (a = b))) := by
  refine PCx_of (go_ref06_Lists rfl ?_)
  by_cases hl : a.length = b.length
  · simp [hl]
    refine W_iter (fun i : Int => [(2, .int i)]) (fun _ => []) (fun i => 0 ≤ i ∧ i ≤ b.length ∧ ∀ j, 0 ≤ j → j < i → ix a j = ix b j) (fun i => (b.length - i).toNat) 0 rfl ⟨by omega, by omega, upto_zero⟩ fun i ⟨i0, i1, i2⟩ => ?_
    by_cases hi : i < a.length
    · have hib : i < (b.length : Int) := by omega
      have hI := Ints_s (ix a i) (ix b i) (ra _ (ix_mem i0 hi)) (rb _ (ix_mem i0 hib))
      by_cases he : ix a i = ix b i
      · rw [decide_eq_true he] at hI
        simp [-More_nor, hl, hib, i0, hI]
        exact ⟨by omega, More_of (i + 1) rfl rfl ⟨by omega, by omega, upto_succ he i2⟩ (by omega)⟩
      · rw [decide_eq_false he] at hI
        simp [-More_nor, hl, hib, i0, hI]
        intro e; subst e; exact he rfl
    · have hib : ¬ i < (b.length : Int) := by omega
      have e := ext_ixL hl fun j j0 j1 => i2 j j0 (by omega)
      simp [hl, hib]
      exact e
  · have hl' : ¬ (a.length : Int) = b.length := by omega
    have he : ¬ a = b := fun e => hl (by rw [e])
    simp [hl', he, hl]
/-- The lengths are not great. -/
structure Mly.Lil (m : Mly) : Prop where
  nl : (m.next.length : Int) ≤ 1000000
  ol : (m.out.length : Int) ≤ 1000000
  nr : ∀ r ∈ m.next, (r.length : Int) ≤ 1000000
  or : ∀ r ∈ m.out, (r.length : Int) ≤ 1000000
theorem Same06_r (m : Mly) (h : m.Lil) : PC F_ref06_Same [m.av, m.av] = some (.bool true) := by
  refine PCx_of (go_ref06_Same rfl ?_)
  have e1 := Lists_s m.next m.next h.nl (by have := h.nl; omega) h.nr fun r hr => by have := h.nr r hr; omega
  have e2 := Lists_s m.out m.out h.ol (by have := h.ol; omega) h.or fun r hr => by have := h.or r hr; omega
  simp at e1 e2
  simp [e1, e2]
end Ab
