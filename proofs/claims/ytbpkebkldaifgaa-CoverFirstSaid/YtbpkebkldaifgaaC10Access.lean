/- The law on access words. Condition: none. -/
import Derived.Test.YtbpkebkldaifgaaCovF
set_option linter.all false
set_option maxRecDepth 100000
set_option maxHeartbeats 4000000
namespace Ab
theorem acc_fit (m : Mly) : (m.acc.1.length : Int) ≤ 1000000 ∧ (m.acc.2.1.length : Int) ≤ 1000000 ∧ ∀ w ∈ m.acc.2.1, (w.length : Int) ≤ 1000000 := by
  by_cases hv : m.validE = 0
  · have hm := mvalidE_ok hv
    have hst := hm.states
    have hq := places_ok m hm m.start hm.start
    have hqn := hq.le
    rw [acc_ok hv]
    refine ⟨by simp; omega, by simp; omega, fun w hw => ?_⟩
    obtain ⟨p, hp, rfl⟩ := List.mem_map.1 hw
    obtain ⟨i, hi, rfl⟩ := List.mem_iff_getElem.1 hp
    have := hq.len i (by omega) (by omega)
    rw [ix_nat hi] at this; omega
  · rw [acc_no hv]; simp
theorem CoverAccess_l (aw : PC F_law10_exampleHolds [] = some (.bool true)) (m : Mly) (h : m.fits) : PC F_law10_CoverAccess [m.av] = some (.bool true) := by
  refine PCx_of (go_law10_CoverAccess rfl ?_)
  obtain ⟨f1, f2, f3⟩ := acc_fit m
  have s1 := Equal_r _ f1
  have s2 := Same_r _ f2 f3
  have s3 : PC F_ref10_Same [iLL (if m.validE = 0 then m.tra else []), iLL (if m.validE = 0 then m.tra else [])] = some (.bool true) := by
    by_cases hv : m.validE = 0
    · rw [if_pos hv]
      have hm := mvalidE_ok hv
      have := tra_fit m hm
      exact Same_r _ (by omega) fun w hw => by have := this.2 w hw; omega
    · rw [if_neg hv]; exact Same_r _ (by simp) (by simp)
  have t1 := Tra_s m h
  have t2 := RTra_s m h
  generalize (if m.validE = 0 then m.tra else []) = T at *
  cases hg : m.great <;> simp [Great_s m h, hg, aw, Acc_s m h, RAcc_s m h, Cover_s m h, RCover_s m h, t1, t2, s1, s2, s3]
end Ab
