/- A valid machine has no error and fits. Condition: none. -/
import Derived.Test.YtcdccenbhiddcaaGreatCan
set_option linter.all false
set_option maxRecDepth 100000
set_option maxHeartbeats 4000000
namespace Ab
variable{m:ak}
def mn(h:m.Ok):m.ao=0:=by
 have o:=h.inputs;have g:=h.states;have p:=h.start;have q:=h.len;have a:m.next ≠ []:=by intro e;rw[e]at g;simp at g
 have i:m.dW=0:=by
  unfold ak.dW;rw[ae aa,ae aa,ae a,ae aa,ae aa,ae aa,ae aa]
 unfold ak.ao;rw[ae (by simpa using i)]
 refine oH λs b d=>?_;obtain⟨r,u⟩:=h.row s b d;have b1:bad (ix m.next s) m.next.length=false:=qm.2 λj f l=>h.nx s j b d f aa
 have n:bad (ix m.out s) 1048577=false:=qm.2 λj f l=>by have:=h.ot s j b d f aa;omega
 unfold ak.dB;rw[ae aa,ae (by simp[b1,n])]
def Io(a:m.Ok):m.fits:=by
 have h:=a.inputs;have l:=a.states;have n:=a.len;have o:=a.start;refine⟨k9.2 aa,k9.2 aa,⟨aa,λr e=>?_⟩,⟨aa,λr e=>?_⟩⟩
 .obtain⟨i,d,rfl⟩:=cd.1 e
  have b:=(a.row i aa aa).1
  rw[aK d]at b;refine⟨aa,λx f=>?_⟩
  obtain⟨j,g,rfl⟩:=cd.1 f;have:=a.nx i j aa aa aa aa
  rw[aK d,aK g]at this;exact k9.2 aa
 .obtain⟨i,d,rfl⟩:=cd.1 e
  have b:=(a.row i aa aa).2
  rw[aK d]at b;refine⟨aa,λx f=>?_⟩
  obtain⟨j,g,rfl⟩:=cd.1 f;have:=a.ot i j aa aa aa aa
  rw[aK d,aK g]at this;exact k9.2 aa
end Ab
