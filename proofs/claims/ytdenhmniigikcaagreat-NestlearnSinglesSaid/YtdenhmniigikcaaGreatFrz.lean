/- Lists that grow from nil, and are given away. Condition: none. -/
import Derived.Test.YtdenhmniigikcaaGreatBfsOrd
set_option linter.all false
set_option maxRecDepth 100000
set_option maxHeartbeats 4000000
namespace Ab
abbrev mA (out:List (List Int)):al:=⟨none,out.map iL,if out=[]then .gN else .live⟩
variable{σ:List al}{b:Nat}
def al8{out:List (List Int)}(h:aq σ b=some (mA out)):view σ false vd (.sl b out.length 0 out.length)=some (b8 out):=tD (fr:=false) h (by split<;>simp) rfl
abbrev bp (out:List Int):al:=⟨none,out.map .int,if out=[]then .gN else .live⟩
def Dc{out:List Int}(h:aq σ b=some (bp out)):view σ false vd (.sl b out.length 0 out.length)=some (iL out):=nU h (by split<;>simp) rfl
def S8{σ:List al}:∀(ws:List (List Int)) (acc:List Nat),(ws.map iL).foldl (λacc y=>reach σ 11 y acc) acc=acc
 | [],_=>rfl
 |w::ws,acc=>by simp only[cS,jW];exact S8 ws acc
end Ab
