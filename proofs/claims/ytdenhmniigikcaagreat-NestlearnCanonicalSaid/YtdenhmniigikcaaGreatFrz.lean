/- Lists that grow from nil, and are given away. Condition: none. -/
import Derived.Test.YtdenhmniigikcaaGreatBfsOrd
set_option linter.all false
set_option maxRecDepth 100000
set_option maxHeartbeats 4000000
namespace Ab
abbrev lH (out:List (List Int)):ah:=⟨none,out.map iL,if out=[]then .jq else .live⟩
variable{σ:List ah}{b:Nat}
theorem ai8{out:List (List Int)}(h:ak σ b=some (lH out)):view σ false vd (.sl b out.length 0 out.length)=some (bN out):=CU (fr:=false) h (by split<;>simp) rfl
abbrev bG (out:List Int):ah:=⟨none,out.map .int,if out=[]then .jq else .live⟩
theorem ai9{out:List Int}(h:ak σ b=some (bG out)):view σ false vd (.sl b out.length 0 out.length)=some (iL out):=ow h (by split<;>simp) rfl
theorem Qm{σ:List ah}:∀(ws:List (List Int)) (acc:List Nat),(ws.map iL).foldl (λacc y=>reach σ 11 y acc) acc=acc
 | [],_=>rfl
 |w::ws,acc=>by simp only[cJ,l0];exact Qm ws acc
end Ab
