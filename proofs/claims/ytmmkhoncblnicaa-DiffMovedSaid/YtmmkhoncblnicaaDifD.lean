/- The law on the changes of Explain. Condition: none. -/
import Derived.Test.YtmmkhoncblnicaaDifC
import Derived.Test.YtmmkhoncblnicaaCovG
set_option linter.all false
set_option maxRecDepth 100000
set_option maxHeartbeats 4000000
namespace Ab
theorem Same_cg (l : List Cg) (hl : (l.length : Int) ≤ 1000000) (hw : cgFit l) : PC F_ref49_Same [.imm false (l.map Cg.av), .imm false (l.map Cg.av)] = some (.bool true) := by
  refine PCx_of (go_ref49_Same rfl ?_)
  simp
  refine W_iter (fun i : Int => [(2, .int i)]) (fun _ => []) (fun i => 0 ≤ i ∧ i ≤ l.length) (fun i => (l.length - i).toNat) 0 rfl ⟨by omega, by omega⟩ fun i ⟨i0, i1⟩ => ?_
  by_cases hi : i < l.length
  · have hwi := hw _ (ix_mem i0 hi)
    have e : PC F_ref10_Same [.imm false [iL (ix l i).w], .imm false [iL (ix l i).w]] = some (.bool true) := Same_r [(ix l i).w] (by simp) (by simpa using hwi)
    simp [-More_nor, hi, i0, Cg.av, e]
    exact ⟨by omega, More_of (i + 1) rfl rfl ⟨by omega, by omega⟩ (by omega)⟩
  · simp [hi]
theorem exA_len (a b : Mly) : (((exA a b).1).length : Int) ≤ 1000000 := by
  unfold exA
  split
  · simp
  · split
    · simp
    · dsimp only; omega
theorem exA_fit (a b : Mly) : cgFit (exA a b).1 := by
  unfold exA
  split
  · intro c hc; simp at hc
  · rename_i h
    obtain ⟨va, vb, hi⟩ := chkE_ok (by simpa using h)
    split
    · intro c hc; simp at hc
    · exact exps_fit (mvalidE_ok va) (mvalidE_ok vb) hi
theorem DiffExplains_l (aw : PC F_law49_exampleHolds [] = some (.bool true)) (a b : Mly) (ha : a.fits) (hb : b.fits) : PC F_law49_DiffExplains [a.av, b.av] = some (.bool true) := by
  refine PCx_of (go_law49_DiffExplains rfl ?_)
  have hs := Same_cg _ (exA_len a b) (exA_fit a b)
  have h1 := Great_s a ha
  have h2 := Great_s b hb
  cases hg : a.great
  · rw [hg] at h1
    cases hg' : b.great
    · rw [hg'] at h2
      simp [h1, h2, aw, Explain_s a b ha hb, RExplain_s a b ha hb, hs]
    · rw [hg'] at h2
      simp [h1, h2, aw]
  · rw [hg] at h1
    simp [h1, aw]
end Ab
