/- Lists that grow from nil, and are given away. Condition: none. -/
import Derived.Test.YtdenhmniigikcaaGreatBfsOrd
set_option linter.all false
set_option maxRecDepth 100000
set_option maxHeartbeats 4000000
namespace Ab
abbrev mb (out:List (List Int)):ag:=⟨none,out.map iL,if out=[]then .jP else .live⟩
theorem al4{σ:List ag}{b:Nat}{out:List (List Int)}(h:al σ b=some (mb out)):view σ false vd (.sl b out.length 0 out.length)=some (cO out):=GP (fr:=false) h (by split<;>simp) rfl
abbrev fy (out:List Int):ag:=⟨none,out.map .int,if out=[]then .jP else .live⟩
theorem S9{σ:List ag}:∀(ws:List (List Int)) (acc:List Nat),(ws.map iL).foldl (λacc y=>reach σ 11 y acc) acc=acc
 | [],_=>rfl
 |w::ws,acc=>by simp only[dd,mA];exact S9 ws acc
end Ab
