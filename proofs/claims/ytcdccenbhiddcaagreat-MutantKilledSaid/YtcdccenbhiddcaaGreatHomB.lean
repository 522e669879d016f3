/- Where a number stands in an ascending list. Condition: none. -/
import Derived.Test.YtcdccenbhiddcaaGreatWsuM
set_option linter.all false
set_option maxRecDepth 100000
set_option maxHeartbeats 1000000
namespace Ab
structure Cut (l:List Int) (t:Int) (i:Nat):Prop where
 le:i<=l.length
 lo:∀x∈l.take i,x<t
 hi:∀x∈l.drop i,¬x<t
end Ab
