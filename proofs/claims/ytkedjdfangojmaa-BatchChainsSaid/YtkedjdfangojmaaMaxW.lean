/- The words that are no proper prefixes of others. Condition: none. -/
import Derived.Test.YtkedjdfangojmaaSorted
set_option linter.all false
set_option maxRecDepth 100000
set_option maxHeartbeats 4000000
namespace Ab
theorem lex_pre : ∀ {w x v : List Int}, lexC w x ≤ 0 → lexC x v ≤ 0 → w <+: v → w <+: x
  | [], x, v, _, _, _ => List.nil_prefix
  | a :: w, [], v, h, _, _ => by simp [lexC] at h
  | a :: w, b :: x, [], _, _, h => by simp at h
  | a :: w, b :: x, c :: v, h1, h2, h => by
    rw [List.cons_prefix_cons] at h
    obtain ⟨rfl, h⟩ := h
    unfold lexC at h1 h2
    rcases Int.lt_trichotomy a b with e | e | e
    · rw [if_neg (by omega), if_pos e] at h2; omega
    · subst e
      simp at h1 h2
      rw [List.cons_prefix_cons]
      exact ⟨rfl, lex_pre h1 h2 h⟩
    · rw [if_neg (by omega), if_pos e] at h1; omega
theorem lex_of_pre : ∀ {w v : List Int}, w <+: v → w ≠ v → lexC w v < 0
  | [], [], _, h => absurd rfl h
  | [], _ :: _, _, _ => by simp [lexC]
  | a :: w, [], h, _ => by simp at h
  | a :: w, c :: v, h, hn => by
    rw [List.cons_prefix_cons] at h
    obtain ⟨rfl, h⟩ := h
    have := lex_of_pre h (fun e => hn (by rw [e]))
    simp [lexC]; exact this
theorem slx_of_pre {w v : List Int} (h : w <+: v) (hn : w ≠ v) : slxC w v < 0 := by
  have hl := h.length_le
  have : w.length < v.length := by
    rcases Nat.lt_or_eq_of_le hl with e | e
    · exact e
    · exact absurd (h.eq_of_length e) hn
  unfold slxC; rw [if_pos this]; omega
/-- No word of the list goes on behind this one. -/
def topW (l : List (List Int)) (w : List Int) : Bool := l.all fun v => !(decide (w ≠ v) && decide (v.take w.length = w))
theorem topW_iff {l : List (List Int)} {w : List Int} : topW l w = true ↔ ∀ v ∈ l, w ≠ v → ¬ w <+: v := by
  unfold topW
  rw [List.all_eq_true]
  refine forall_congr' fun v => forall_congr' fun _ => ?_
  have e : (v.take w.length = w) ↔ w <+: v := by rw [List.prefix_iff_eq_take]; exact eq_comm
  by_cases h : w = v <;> simp [h, ← e]
/-- The greatest words, sorted. -/
def maxW (l : List (List Int)) : List (List Int) := (sortU l).filter (topW l)
theorem maxW_mem {l : List (List Int)} {w : List Int} : w ∈ maxW l ↔ w ∈ l ∧ ∀ v ∈ l, w ≠ v → ¬ w <+: v := by
  unfold maxW
  rw [List.mem_filter, sortU_mem, topW_iff]
theorem maxW_asc (l : List (List Int)) : asc (maxW l) := List.Pairwise.filter _ (sortUG_asc slxC_ok l)
/-- In dictionary order the next word tells it. -/
theorem next_tells {l all : List (List Int)} (hs : ascG lexC all) (hm : ∀ w, w ∈ all ↔ w ∈ l) {i : Int} (i0 : 0 ≤ i) (i1 : i < all.length) :
    (i + 1 = all.length ∨ ¬ ix all i <+: ix all (i + 1)) ↔ ∀ v ∈ l, ix all i ≠ v → ¬ ix all i <+: v := by
  have hlt : ∀ a b : Int, 0 ≤ a → a < b → b < (all.length : Int) → lexC (ix all a) (ix all b) < 0 := fun a b a0 ab b1 => by
    have h := hs
    rw [ascG, List.pairwise_iff_getElem] at h
    have := h a.toNat b.toNat (by omega) (by omega) (by omega)
    rw [← ix_nat (by omega), ← ix_nat (by omega)] at this
    rwa [show ((a.toNat : Nat) : Int) = a by omega, show ((b.toNat : Nat) : Int) = b by omega] at this
  constructor
  · intro h v hv hne hp
    obtain ⟨j, hj, e⟩ := List.mem_iff_getElem.1 ((hm v).2 hv)
    have e : ix all (j : Int) = v := by rw [ix_nat hj]; exact e
    have hl := lex_of_pre hp hne
    rw [← e] at hl
    have hij : i < (j : Int) := by
      rcases Int.lt_trichotomy i (j : Int) with a | a | a
      · exact a
      · rw [← a] at e; exact absurd e hne
      · have h1 := hlt j i (by omega) a i1
        have := lexC_ok.anti (ix all i) (ix all (j : Int))
        omega
    rcases h with h | h
    · omega
    · apply h
      have h1 := hlt i (i + 1) i0 (by omega) (by omega)
      by_cases ej : (j : Int) = i + 1
      · rw [← ej, e]; exact hp
      · have h2 := hlt (i + 1) j (by omega) (by omega) (by omega)
        rw [e] at h2
        exact lex_pre (by omega) (by omega) hp
  · intro h
    by_cases e : i + 1 = (all.length : Int)
    · exact .inl e
    · right
      have h1 := hlt i (i + 1) i0 (by omega) (by omega)
      refine h _ ((hm _).1 (ix_mem (by omega) (by omega))) fun e' => ?_
      rw [← e'] at h1
      have := lexC_ok.refl (ix all i)
      omega
/-- What the program keeps of the words in dictionary order. -/
theorem keep_sort {l k : List (List Int)} (h : ∀ w, w ∈ k ↔ w ∈ l ∧ ∀ v ∈ l, w ≠ v → ¬ w <+: v) : sortU k = maxW l := sortU_eq (maxW_asc l) fun w => by rw [h, maxW_mem]
end Ab
