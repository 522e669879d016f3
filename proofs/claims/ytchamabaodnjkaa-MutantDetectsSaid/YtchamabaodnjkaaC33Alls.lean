/- The law on all mutations. Condition: none. -/
import Derived.Test.YtchamabaodnjkaaMutD
set_option linter.all false
set_option maxRecDepth 100000
set_option maxHeartbeats 4000000
namespace Ab
theorem Mut_same (X : List Mut) (hl : (X.length : Int) ≤ 1000000) : PC F_ref33_Same [muL X, muL X] = some (.bool true) := by
  refine PCx_of (go_ref33_Same rfl ?_)
  simp
  refine W_iter (fun i : Nat => [(2, .int i)]) (fun _ => []) (fun i => i ≤ X.length) (fun i => X.length - i) 0 rfl (by omega) ?_
  intro i i0
  by_cases hi : i < X.length
  · have e : ix (X.map Mut.av) (i : Int) = (ix X (i : Int)).av := ix_map (by omega) (by omega)
    simp [-More_nor, hi, e]
    exact ⟨by omega, More_of (i + 1) rfl rfl (by omega) (by omega)⟩
  · simp [hi]
theorem MutantAlls_l (aw : PC F_law33_exampleHolds [] = some (.bool true)) (m : Mly) (h : m.fits) : PC F_law33_MutantAlls [m.av] = some (.bool true) := by
  refine PCx_of (go_law33_MutantAlls rfl ?_)
  have hl : (m.allL.length : Int) ≤ 1000000 := by
    unfold Mly.allL
    split
    · simp
    · rename_i h1
      unfold Mly.allE at h1
      split at h1
      · rename_i h2; omega
      · split at h1 <;> omega
  cases hg : m.great <;> simp [Great_s m h, hg, aw, All_s m h, RAll_s m h, Mut_same _ hl]
end Ab
