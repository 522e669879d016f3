/- The first unique input-output word, in plain terms. Condition: none. -/
import Derived.Test.YtcdccenbhiddcaaGreatWsuM
set_option linter.all false
set_option maxRecDepth 100000
set_option maxHeartbeats 1000000
namespace Ab
abbrev Sit:=Int×List Int
structure Uok (m:ak) (x:Sit):Prop where
 wo : 0<=x.1/\x.1<(m.next.length:Int)
 up:up x.2
 fS:∀t∈x.2,0<=t/\t<(m.next.length:Int)
end Ab
