/- Orders of words, and sorted lists. Condition: none. -/
import Derived.Test.YtbpkebkldaifgaaAbSortD
set_option linter.all false
namespace Ab
/-- A comparison that is a total order of words. -/
structure KOk (K : List Int → List Int → Int) : Prop where
  refl : ∀ u, K u u = 0
  anti : ∀ u v, K u v = - K v u
  eq : ∀ u v, K u v = 0 → u = v
  trans : ∀ u v w, K u v ≤ 0 → K v w ≤ 0 → K u w ≤ 0
theorem lexC_refl : ∀ u, lexC u u = 0
  | [] => rfl
  | x :: u => by unfold lexC; simp [lexC_refl u]
theorem lexC_anti : ∀ u v, lexC u v = - lexC v u
  | [], [] => rfl
  | [], _ :: _ => rfl
  | _ :: _, [] => rfl
  | x :: u, y :: v => by
    unfold lexC
    have := lexC_anti u v
    rcases Int.lt_trichotomy x y with h | h | h
    · rw [if_pos h, if_neg (by omega), if_pos h]
    · subst h; simp; exact this
    · rw [if_neg (by omega), if_pos h, if_pos h]; rfl
theorem lexC_eq : ∀ u v, lexC u v = 0 → u = v
  | [], [], _ => rfl
  | [], _ :: _, h => by simp [lexC] at h
  | _ :: _, [], h => by simp [lexC] at h
  | x :: u, y :: v, h => by
    unfold lexC at h
    rcases Int.lt_trichotomy x y with h1 | h1 | h1
    · rw [if_pos h1] at h; omega
    · subst h1; simp at h; rw [lexC_eq u v h]
    · rw [if_neg (by omega), if_pos h1] at h; omega
theorem lexC_trans : ∀ u v w, lexC u v ≤ 0 → lexC v w ≤ 0 → lexC u w ≤ 0
  | [], [], _, _, h => h
  | [], _ :: _, [], _, h => by simp [lexC] at h
  | [], _ :: _, _ :: _, _, _ => by simp [lexC]
  | _ :: _, [], _, h, _ => by simp [lexC] at h
  | _ :: _, _ :: _, [], _, h => by simp [lexC] at h
  | x :: u, y :: v, z :: w, h1, h2 => by
    unfold lexC at h1 h2 ⊢
    rcases Int.lt_trichotomy x y with a | a | a
    · rcases Int.lt_trichotomy y z with b | b | b
      · rw [if_pos (by omega)]; omega
      · subst b; rw [if_pos a]; omega
      · rw [if_neg (by omega), if_pos b] at h2; omega
    · subst a
      rcases Int.lt_trichotomy x z with b | b | b
      · rw [if_pos b]; omega
      · subst b; simp at h1 h2 ⊢; exact lexC_trans u v w h1 h2
      · rw [if_neg (by omega), if_pos b] at h2; omega
    · rw [if_neg (by omega), if_pos a] at h1; omega
theorem lexC_ok : KOk lexC := ⟨lexC_refl, lexC_anti, lexC_eq, lexC_trans⟩
theorem slxC_ok : KOk slxC := by
  refine ⟨fun u => by simp [slxC, lexC_refl], fun u v => ?_, fun u v h => ?_, fun u v w h1 h2 => ?_⟩
  · unfold slxC
    have := lexC_anti u v
    rcases Nat.lt_trichotomy u.length v.length with h | h | h
    · rw [if_pos h, if_neg (by omega), if_pos h]
    · rw [if_neg (by omega), if_neg (by omega), if_neg (by omega), if_neg (by omega)]; exact this
    · rw [if_neg (by omega), if_pos h, if_pos h]; rfl
  · unfold slxC at h
    split at h
    · omega
    split at h
    · omega
    exact lexC_eq u v h
  · unfold slxC at h1 h2 ⊢
    rcases Nat.lt_trichotomy u.length v.length with a | a | a
    · rcases Nat.lt_trichotomy v.length w.length with b | b | b
      · rw [if_pos (by omega)]; omega
      · rw [if_pos (by omega)]; omega
      · rw [if_neg (by omega), if_pos b] at h2; omega
    · rcases Nat.lt_trichotomy v.length w.length with b | b | b
      · rw [if_pos (by omega)]; omega
      · rw [if_neg (by omega), if_neg (by omega)] at h1 h2 ⊢; exact lexC_trans u v w h1 h2
      · rw [if_neg (by omega), if_pos b] at h2; omega
    · rw [if_neg (by omega), if_pos a] at h1; omega
theorem intsOf_eq : ∀ {l : List AV} {u : List Int}, intsOf l = some u → l = u.map .int
  | [], u, h => by simp [intsOf] at h; subst h; rfl
  | x :: r, u, h => by
    unfold intsOf at h
    split at h
    · rename_i h1; simp at h1
    · rename_i n r' h1
      simp at h1; obtain ⟨rfl, rfl⟩ := h1
      cases hr : intsOf r with
      | none => simp [hr] at h
      | some s => simp [hr] at h; subst h; simp [intsOf_eq hr]
    · simp at h
theorem intsOf_map : ∀ (u : List Int), intsOf (u.map .int) = some u
  | [] => rfl
  | x :: u => by simp [intsOf, intsOf_map u]
theorem wordOf_eq {x : AV} {u : List Int} (h : wordOf x = some u) : x = .imm false (u.map .int) := by
  unfold wordOf at h
  split at h
  · rw [intsOf_eq h]
  · simp at h
theorem wordOf_map (u : List Int) : wordOf (.imm false (u.map .int)) = some u := intsOf_map u
section
variable {K : List Int → List Int → Int}
theorem insK_perm (x : AV) : ∀ l, (insK K x l).Perm (x :: l)
  | [] => .refl _
  | y :: r => by
    unfold insK
    split
    · exact .refl _
    · exact ((insK_perm x r).cons y).trans (.swap x y r)
theorem sortK_perm : ∀ l, (sortK K l).Perm l
  | [] => .refl _
  | x :: r => (insK_perm x _).trans ((sortK_perm r).cons x)
/-- All are words. -/
def areWords (l : List AV) : Prop := ∀ x ∈ l, ∃ u, wordOf x = some u
theorem kLe_words {x y : AV} {u v : List Int} (h : wordOf x = some u) (k : wordOf y = some v) : kLe K x y = true ↔ K u v ≤ 0 := by simp [kLe, h, k]
theorem kLe_antisymm (hK : KOk K) {x y : AV} {u v : List Int} (hx : wordOf x = some u) (hy : wordOf y = some v) (h : kLe K x y = true) (k : kLe K y x = true) : x = y := by
  rw [kLe_words hx hy] at h
  rw [kLe_words hy hx, hK.anti] at k
  have := hK.eq u v (by omega)
  subst this
  rw [wordOf_eq hx, wordOf_eq hy]
theorem insK_sorted (hK : KOk K) {x : AV} : ∀ {l : List AV}, areWords (x :: l) → l.Pairwise (fun x y => kLe K x y = true) → (insK K x l).Pairwise (fun x y => kLe K x y = true)
  | [], _, _ => by simp [insK]
  | y :: r, hw, h => by
    obtain ⟨u, hu⟩ := hw x (by simp)
    obtain ⟨v, hv⟩ := hw y (by simp)
    unfold insK
    split
    · rename_i hxy
      refine List.pairwise_cons.2 ⟨fun z hz => ?_, h⟩
      rcases List.mem_cons.1 hz with rfl | hz
      · exact hxy
      · obtain ⟨t, ht⟩ := hw z (by simp [hz])
        have := (List.pairwise_cons.1 h).1 z hz
        rw [kLe_words hv ht] at this
        rw [kLe_words hu hv] at hxy
        rw [kLe_words hu ht]
        exact hK.trans _ _ _ hxy this
    · rename_i hxy
      have ih := insK_sorted hK (x := x) (l := r) (fun z hz => hw z (by rcases List.mem_cons.1 hz with rfl | hz <;> simp [*])) (List.pairwise_cons.1 h).2
      refine List.pairwise_cons.2 ⟨fun z hz => ?_, ih⟩
      rcases List.mem_cons.1 ((insK_perm x r).mem_iff.1 hz) with rfl | hz
      · rw [kLe_words hu hv] at hxy
        rw [kLe_words hv hu, hK.anti]
        omega
      · exact (List.pairwise_cons.1 h).1 z hz
theorem sortK_sorted (hK : KOk K) : ∀ {l : List AV}, areWords l → (sortK K l).Pairwise (fun x y => kLe K x y = true)
  | [], _ => by simp [sortK]
  | x :: r, hw => by
    have hw' : areWords r := fun z hz => hw z (by simp [hz])
    refine insK_sorted hK (fun z hz => ?_) (sortK_sorted hK hw')
    rcases List.mem_cons.1 hz with rfl | hz
    · exact hw z (by simp)
    · exact hw' z ((sortK_perm r).mem_iff.1 hz)
/-- One sorted permutation. -/
theorem sortK_unique (hK : KOk K) {l m : List AV} (hw : areWords l) (hp : m.Perm l) (hs : m.Pairwise (fun x y => kLe K x y = true)) : m = sortK K l := by
  refine List.Perm.eq_of_pairwise (le := fun x y => kLe K x y = true) (fun x y hx hy h k => ?_) hs (sortK_sorted hK hw) (hp.trans (sortK_perm l).symm)
  obtain ⟨u, hu⟩ := hw x (hp.mem_iff.1 hx)
  obtain ⟨v, hv⟩ := hw y ((sortK_perm l).mem_iff.1 hy)
  exact kLe_antisymm hK hu hv h k
end
end Ab
