/- Lists that grow from nil, and are given away. Condition: none. -/
import Derived.Test.YtdenhmniigikcaaGreatBfsOrd
set_option linter.all false
set_option maxRecDepth 100000
set_option maxHeartbeats 4000000
namespace Ab
abbrev l9 (out:List (List Int)):ag:=⟨none,out.map iL,if out=[]then .jN else .live⟩
theorem akW{σ:List ag}{b:Nat}{out:List (List Int)}(h:ak σ b=some (l9 out)):view σ false vd (.sl b out.length 0 out.length)=some (cK out):=Ge (fr:=false) h (by split<;>simp) rfl
abbrev fv (out:List Int):ag:=⟨none,out.map .int,if out=[]then .jN else .live⟩
theorem Sw{σ:List ag}:∀(ws:List (List Int)) (acc:List Nat),(ws.map iL).foldl (λacc y=>reach σ 11 y acc) acc=acc
 | [],_=>rfl
 |w::ws,acc=>by simp only[db,oA];exact Sw ws acc
end Ab
