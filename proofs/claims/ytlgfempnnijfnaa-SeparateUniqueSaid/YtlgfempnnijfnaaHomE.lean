/- The example of the chapter, from what the functions are. Condition: none. -/
import Derived.Test.YtlgfempnnijfnaaHomV
import Derived.Test.YtlgfempnnijfnaaC11Splits
set_option linter.all false
set_option maxRecDepth 100000
set_option maxHeartbeats 1000000
namespace Ab
def exm : Mly := ⟨1, 0, [[1], [2], [0]], [[0], [0], [1]]⟩
theorem exm_v : exm.validE = 0 := by decide +kernel
theorem z57U : exm.Ok := zaDP exm_v
theorem znhH : exm.mnlb = true := zVHJ.2 ⟨exm_v, (ztpQ z57U).1 (by decide +kernel)⟩
end Ab
