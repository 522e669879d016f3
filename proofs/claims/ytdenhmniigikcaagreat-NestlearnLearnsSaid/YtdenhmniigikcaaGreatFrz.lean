/- Lists that grow from nil, and are given away. Condition: none. -/
import Derived.Test.YtdenhmniigikcaaGreatBfsOrd
set_option linter.all false
set_option maxRecDepth 100000
set_option maxHeartbeats 4000000
open Option renaming some->aa,none->ab
open Bool renaming false->ae
open List renaming length->ah
namespace Ab
abbrev nS (out:al):aO:=⟨ab,out.map iL,if out=[]then .jN else .live⟩
def amZ{σ:aq}{b:Nat}{out:al}(h:aQ σ b=aa (nS out)):view σ ae vd (.sl b (ah out) 0 (ah out))=aa (bU out):=GX (fr:=ae) h (by split<;>simp) rfl
abbrev gr (out:ak):aO:=⟨ab,out.map .int,if out=[]then .jN else .live⟩
def UC{σ:aq}:∀(ws:al) (acc:List Nat),(ws.map iL).foldl (λacc y=>reach σ 11 y acc) acc=acc
 | [],_=>rfl
 |w::ws,acc=>by simp only[da,my];exact UC ws acc
end Ab
