/- The law on paths. Condition: none. -/
import Derived.Test.YtbpkebkldaifgaaMPath
set_option linter.all false
set_option maxRecDepth 100000
set_option maxHeartbeats 4000000
namespace Ab
theorem CoverPaths_l (aw : PC F_law10_exampleHolds [] = some (.bool true)) (m : Mly) (h : m.fits) (s t : Int) : PC F_law10_CoverPaths [m.av, .int s, .int t] = some (.bool true) := by
  refine PCx_of (go_law10_CoverPaths rfl ?_)
  have hl := path_len m h s t
  cases hg : m.great <;> simp [Great_s m h, hg, aw, Path_s m h s t, RPath_s m h s t, Equal_r _ hl]
end Ab
