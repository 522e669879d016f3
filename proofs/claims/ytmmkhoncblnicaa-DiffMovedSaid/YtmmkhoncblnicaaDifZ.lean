/- The law on matched states. Condition: none. -/
import Derived.Test.YtmmkhoncblnicaaDifY
set_option linter.all false
set_option maxRecDepth 100000
set_option maxHeartbeats 4000000
namespace Ab
theorem mtA_len (a b : Mly) : (((mtA a b).1).length : Int) ≤ 1000000 := by
  unfold mtA
  split
  · simp
  · rename_i h
    obtain ⟨va, _, _⟩ := chkE_ok (by simpa using h)
    have := (mvalidE_ok va).states
    dsimp only
    rw [mt_len]; omega
theorem mvA_len (a b : Mly) (M : List Int) : (((mvA a b M).1).length : Int) ≤ 1000000 := by
  unfold mvA
  (repeat' split) <;> simp
  omega
theorem mvA_fit (a b : Mly) (M : List Int) : cgFit (mvA a b M).1 := by
  unfold mvA
  split
  · intro c hc; simp at hc
  · rename_i h
    obtain ⟨va, _, _⟩ := chkE_ok (by simpa using h)
    split
    · intro c hc; simp at hc
    · split
      · intro c hc; simp at hc
      · exact movs_fit (mvalidE_ok va)
theorem DiffMatches_l (aw : PC F_law49_exampleHolds [] = some (.bool true)) (a b : Mly) (ha : a.fits) (hb : b.fits) (M : List Int) (hM : (M.length : Int) ≤ 9223372036854775807) : PC F_law49_DiffMatches [a.av, b.av, iL M] = some (.bool true) := by
  refine PCx_of (go_law49_DiffMatches rfl ?_)
  have h1 := Great_s a ha
  have h2 := Great_s b hb
  cases hg : a.great
  case true => rw [hg] at h1; simp [h1, aw]
  rw [hg] at h1
  cases hg' : b.great
  case true => rw [hg'] at h2; simp [h1, h2, aw]
  rw [hg'] at h2
  by_cases hl : 20 < (M.length : Int)
  · simp [h1, h2, aw, hl]
  · have e1 := Equal_r _ (mtA_len a b)
    have e2 := Same_cg _ (mvA_len a b M) (mvA_fit a b M)
    simp [h1, h2, aw, hl, Match_s a b ha hb, RMatch_s a b ha hb, Moved_s a b ha hb M hM, RMoved_s a b ha hb M hM, e1, e2]
end Ab
