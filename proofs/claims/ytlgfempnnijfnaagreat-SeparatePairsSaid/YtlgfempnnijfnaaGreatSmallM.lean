/- Whether a machine is small. Condition: none. -/
import Derived.Test.YtlgfempnnijfnaaGreatSepK
set_option linter.all false
set_option maxRecDepth 100000
set_option maxHeartbeats 4000000
namespace Ab
def Mly.small (m : Mly) : Bool := !m.great && decide ((m.next.length : Int) ≤ 8) && decide (m.inputs ≤ 4)
theorem zL6e (m : Mly) (h : m.fits) : PC zjm7 [m.av] = some (.bool m.small) := by
  refine zx72 (z2MR rfl ?_)
  unfold Mly.small
  cases hg : m.great with
  | true => simp [zMHv m h, hg]
  | false =>
    by_cases h1 : (m.next.length : Int) ≤ 8
    · simp [zMHv m h, hg, h1]
    · simp [zMHv m h, hg, h1]
end Ab
