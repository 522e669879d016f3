/- The chapter's examples: a closed run of the interpreter, evaluated in the kernel. Condition: none. -/
import Derived.Test.YtcdccenbhiddcaaGreatIr
set_option linter.all false
namespace Ab
def isTrue:Option (AV×List aj)->Bool
 |some (.bool true,_)=>true
 |_=>false
def qE:∀{x},isTrue x=true->∃σ,x=some (.bool true,σ)
 |some (.bool true,σ),_=>⟨σ,rfl⟩
set_option maxRecDepth 100000 in
def B6:isTrue (b9 G Q 16 16 oF [] [])=true:=by decide +kernel
def awake:jN L oF []=some (.bool true):=by
 obtain⟨a,h⟩:=qE B6;unfold jN;rw[show L oF [] []=some (.bool true,a)from ug jB (N:=16) h]
 rfl
end Ab
