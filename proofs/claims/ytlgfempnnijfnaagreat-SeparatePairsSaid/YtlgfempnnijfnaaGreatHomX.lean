/- The example of the chapter, from what the functions are. homing.Word, by the document; the law on homing words. Condition: none. -/
import Derived.Test.YtlgfempnnijfnaaGreatHomV
import Derived.Test.YtlgfempnnijfnaaGreatSepB
import Derived.Test.YtlgfempnnijfnaaGreatHomR
import Derived.Test.YtlgfempnnijfnaaGreatCompJ
import Derived.Test.YtlgfempnnijfnaaGreatRMinC
import Derived.Test.YtlgfempnnijfnaaGreatSmallM
set_option linter.all false
set_option maxRecDepth 100000
set_option maxHeartbeats 1000000
namespace Ab
def exm : Mly := ⟨1, 0, [[1], [2], [0]], [[0], [0], [1]]⟩
theorem exm_v : exm.validE = 0 := by decide +kernel
theorem z57U : exm.Ok := zaDP exm_v
theorem znhH : exm.mnlb = true := zVHJ.2 ⟨exm_v, (ztpQ z57U).1 (by decide +kernel)⟩
end Ab
namespace Ab
theorem zuiB (m : Mly) (h : m.fits) (hv : m.validE = 0) (s t : Int) (hs : 0 ≤ s ∧ s < (m.next.length : Int)) (ht : 0 ≤ t ∧ t < (m.next.length : Int)) : PC zAOG [m.av, .int s, .int t] = some (.tup [iL ((dist m m s t).getD []), .bool (dist m m s t).isSome, .int 0]) := by
  refine zx72 (zLHJ rfl ?_)
  have hV := zrVN m h
  rw [hv] at hV
  have hm := zaDP hv
  have hS := zkpq m m hm hm rfl s t hs ht
  have h1 : (s < 0) = False := eq_false (by omega)
  have h2 : (t < 0) = False := eq_false (by omega)
  have h3 : ((m.next.length : Int) ≤ s) = False := eq_false (by omega)
  have h4 : ((m.next.length : Int) ≤ t) = False := eq_false (by omega)
  simp [hV, hS, h1, h2, h3, h4]
end Ab
