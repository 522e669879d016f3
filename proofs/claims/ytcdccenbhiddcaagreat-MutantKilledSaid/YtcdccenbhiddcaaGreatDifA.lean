/- The changes of two machines: how they lie in memory; the check of two machines; changes in their order. Condition: none. -/
import Derived.Test.YtcdccenbhiddcaaGreatEqv
import Derived.Test.YtcdccenbhiddcaaGreatCovF
set_option linter.all false
set_option maxRecDepth 100000
set_option maxHeartbeats 4000000
namespace Ab
structure Cg where
 w:List Int
 s:Int
 t:Int
 f:Int
 u:Int
 deriving DecidableEq,Inhabited
def Cg.av (c:Cg):AV:=.agg [iL c.w,.int c.s,.int c.t,.int c.f,.int c.u]
end Ab
