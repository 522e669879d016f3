/- Sorted words, by the document. Condition: none. -/
import Derived.Test.YtkedjdfangojmaaWRef
set_option linter.all false
set_option maxRecDepth 100000
set_option maxHeartbeats 4000000
namespace Ab
/-- The place of a word in a sorted list. -/
def atP (l : List (List Int)) (w : List Int) (k : Nat) : Prop := k ≤ l.length ∧ (∀ j : Nat, j < k → slxC (ix l (j : Int)) w < 0) ∧ ∀ j : Nat, k ≤ j → j < l.length → 0 ≤ slxC (ix l (j : Int)) w
theorem asc_ix {l : List (List Int)} (h : asc l) {i j : Nat} (hij : i < j) (hj : j < l.length) : slxC (ix l (i : Int)) (ix l (j : Int)) < 0 := by
  rw [asc, ascG, List.pairwise_iff_getElem] at h
  have := h i j (by omega) hj hij
  rwa [← ix_nat (by omega), ← ix_nat hj] at this
theorem slxC_lt_of {u v w : List Int} (h : slxC u v < 0) (k : slxC v w ≤ 0) : slxC u w < 0 := by
  have h1 := slxC_ok.trans u v w (by omega) k
  by_cases e : slxC u w = 0
  · have e' := slxC_ok.eq u w e
    subst e'
    have := slxC_ok.anti u v
    omega
  · omega
theorem place_l (l : List (List Int)) (h : asc l) (w : List Int) (hl : (l.length : Int) ≤ 1000000) (hw : fitW l) (hww : (w.length : Int) ≤ 1000000) : LX L F_ref02_place [iLL l, iL w] [] (fun v _ => ∃ k : Nat, v = .int k ∧ atP l w k) := by
  refine go_ref02_place rfl ?_
  simp
  refine W_iter (fun p : Nat × Nat => [(2, .int p.1), (3, .int p.2)]) (fun _ => []) (fun p => p.1 ≤ p.2 ∧ p.2 ≤ l.length ∧ (∀ j : Nat, j < p.1 → slxC (ix l (j : Int)) w < 0) ∧ ∀ j : Nat, p.2 ≤ j → j < l.length → 0 ≤ slxC (ix l (j : Int)) w) (fun p => p.2 - p.1) (0, l.length) (by simp [sets]) ⟨by simp, by simp, fun j h => by simp at h, fun j a b => by dsimp only at a; omega⟩ ?_
  rintro ⟨a, b⟩ ⟨h1, h2, h3, h4⟩
  dsimp only at h1 h2 h3 h4 ⊢
  by_cases hab : a < b
  · obtain ⟨k, hk⟩ : ∃ k, k = (a + b) / 2 := ⟨_, rfl⟩
    have hki : ((a : Int) + b).tdiv 2 = (k : Int) := by rw [hk, Int.tdiv_eq_ediv_of_nonneg (by omega)]; omega
    have hkl : k < l.length := by omega
    have hc := rcmp_s (ix l (k : Int)) w (by have := hw _ (ix_mem (l := l) (n := (k : Int)) (by omega) (by omega)); omega) (by omega)
    simp [-More_nor, hab, hki, hkl, hc]
    refine ⟨by omega, by omega, fun h5 => ⟨by omega, More_of (k + 1, b) (by simp) rfl ⟨by dsimp only; omega, h2, fun j hj => ?_, h4⟩ (by dsimp only; omega)⟩, fun h5 => More_of (a, k) (by simp) rfl ⟨by dsimp only; omega, by dsimp only; omega, h3, fun j hj1 hj2 => ?_⟩ (by dsimp only; omega)⟩
    · by_cases e : j = k
      · subst e; exact h5
      · have := asc_ix h (i := j) (j := k) (by dsimp only at hj; omega) hkl
        exact slxC_lt_of this (by omega)
    · by_cases e : j = k
      · subst e; exact h5
      · have := asc_ix h (i := k) (j := j) (by dsimp only at hj1; omega) hj2
        have h6 := slxC_ok.anti w (ix l (k : Int))
        have h7 := slxC_ok.trans w (ix l (k : Int)) (ix l (j : Int)) (by omega) (by omega)
        have h8 := slxC_ok.anti w (ix l (j : Int))
        omega
  · have e : a = b := by omega
    subst e
    simp
    first | exact ⟨h2, h3, h4⟩ | exact ⟨_, rfl, h2, h3, h4⟩
/-- A word put at its place. -/
theorem ins_asc {l : List (List Int)} (h : asc l) {w : List Int} {k : Nat} (hk : atP l w k) (hne : ¬ (k < l.length ∧ ix l (k : Int) = w)) : asc (l.take k ++ w :: l.drop k) := by
  obtain ⟨k1, k2, k3⟩ := hk
  have lo : ∀ v ∈ l.take k, slxC v w < 0 := fun v hv => by
    obtain ⟨j, hj, rfl⟩ := List.mem_iff_getElem.1 hv
    have hj' : j < min k l.length := by simpa using hj
    have := k2 j (by omega)
    rw [ix_nat (by omega)] at this
    simpa using this
  have hi : ∀ v ∈ l.drop k, slxC w v < 0 := fun v hv => by
    obtain ⟨j, hj, rfl⟩ := List.mem_iff_getElem.1 hv
    have hj' : j < l.length - k := by simpa using hj
    have h0 := k3 (k + j) (by omega) (by omega)
    have hw : ¬ slxC (ix l ((k + j : Nat) : Int)) w = 0 := fun e => by
      have e := slxC_ok.eq _ _ e
      by_cases ej : j = 0
      · subst ej; exact hne ⟨by omega, e⟩
      · have := asc_ix h (i := k) (j := k + j) (by omega) (by omega)
        rw [e] at this
        have := k3 k (by omega) (by omega)
        omega
    have := slxC_ok.anti w (ix l ((k + j : Nat) : Int))
    rw [ix_nat (by omega)] at h0 hw this
    rw [List.getElem_drop]
    omega
  rw [asc, ascG, List.pairwise_append, List.pairwise_cons]
  refine ⟨h.take, ⟨hi, h.drop⟩, fun a ha b hb => ?_⟩
  rcases List.mem_cons.1 hb with rfl | hb
  · exact lo a ha
  · exact slxC_lt_of (lo a ha) (by have := hi b hb; omega)
end Ab
