/- All mutations of a machine, twice. Condition: none. -/
import Derived.Test.YtcdccenbhiddcaaGreatWsuS
set_option linter.all false
set_option maxRecDepth 100000
set_option maxHeartbeats 4000000
namespace Ab
variable{m:ak}{s:Int}
def aaA{a:Int}{outs:List Int}(d:outs.length<=8192) (e:m.next.length<=128) (f:m.inputs<=64):(m.iX s a outs).length<=600000:=by
 unfold ak.iX;have g:=s7 (k:=1) (s:=s) (a:=a) (b:=0) (x:=ix (ix m.out s) a) (outs:=outs);have h:=BO (s:=s) (a:=a) (t:=ix (ix m.next s) a) (n:=m.next.length)
 have i:=vB (s:=s) (a:=a) (row:=ix m.out (ix (ix m.next s) a)) (outs:=outs) (n:=m.inputs.toNat)
 have j:m.inputs.toNat*outs.length<=64*8192:=jg aa d
 split<;>simp<;>omega
def er (m:ak) (s:Int) (o:List Int):Nat->List e8
 |0=>[]
 |a+1=>er m s o a++m.iX s (a:Nat) o
def Kf{m:ak}{s:Int}{o:List Int}{a:Nat}:∀{b:Nat},a<=b->(er m s o a).length<=(er m s o b).length
 |0,h=>by
  have:a=0:=aa
  subst this;exact aY _
 |b+1,h=>by
  by_cases e:a=b+1
  .subst e;exact aY _
  .have:=Kf (m:=m) (s:=s) (o:=o) (a:=a) (b:=b) aa
   simp only[er,ez];omega
def ju (m:ak) (l:List Int):List e8:=l.flatMap λs=>er m s m.dj m.inputs.toNat
def BQ{k l:List Int}:ju m (k++l)=ju m k++ju m l:=by simp[ju]
def Kg:ju m [s]=er m s m.dj m.inputs.toNat:=by simp[ju]
def ak.rz (m:ak):List Int:=bl ((m.af m.start).map (·.1))
def ak.allM (m:ak):List e8:=ju m m.rz
def ak.fV (m:ak):Int:=if m.ao ≠ 0 then m.ao else if 10000<m.allM.length then 11 else 0
def ak.lC (m:ak):List e8:=if m.fV ≠ 0 then[]else m.allM
abbrev vD (m:ak):AV:=.bz [J8 m.lC,.int m.fV]
def aaB:s∈m.rz↔ib (m.af m.start) s=true:=by
 unfold ak.rz;rw[(kS _).mem_iff,uZ]
def Kh(a:m.Ok):∀s∈m.rz,0<=s/\s<(m.next.length:Int):=λs b=>by
 have d:=AN m a m.start a.start;rw[aaB,uZ]at b;obtain⟨p,f,e⟩:=cB.1 b;subst e;exact d.fS p f
def Ki:m.rz.length=(m.af m.start).length:=by
 unfold ak.rz;rw[(kS _).length_eq,cP]
variable{X:List e8}
def BR:(X.map e8.av).flatMap AV.cells=pw X:=by
 rw[List.flatMap_map];rfl
def BS:fitAll 5 (X.map e8.av)=true:=by
 induction X with
 |nil=>rfl
 |cons x r e=>simp only[bC,fitAll,e];rfl
def z206(a:m.ao=0) (h:m.allM.length<=10000):m.fV=0/\m.lC=m.allM:=by
 have:m.fV=0:=by unfold ak.fV;rw[ae (by simp[a]),ae aa]
 exact⟨this,by unfold ak.lC;rw[ae (by simp[this])]⟩
def aaC(a:m.ao=0) (h:10000<m.allM.length):m.fV=11/\m.lC=[]:=by
 have:m.fV=11:=by unfold ak.fV;rw[ae (by simp[a]),ah aa]
 exact⟨this,by unfold ak.lC;rw[ah (by simp[this])]⟩
def aaD(a:m.Ok):m.dj.length<=8192:=by
 have b:=BL (bl m.out.flatten);have d:=(kS m.out.flatten).length_eq;have e:=(Ok.pv a).1;unfold ak.dj;omega
def aaE (m:ak) (h:m.fits) (d:m.ao=0):∃b:List Bool,L nA [m.av] []=some (.sl 1 (m.af m.start).length 0 (m.af m.start).length,[⟨none,b.map .bool,.live⟩,Zb ((m.af m.start).map (·.1))]):=by
 have a:=aas m h d;unfold LX at a;generalize L nA [m.av] []=o at *;cases o with
 |none=>exact absurd a (by simp[aH])
 |some p=>
  obtain⟨b,e,f⟩:=a;exact⟨b,by rw[<-e,<-f]⟩
def Kj{n:Nat}:∀l:List Int,iy n (l.map .int)=l.map .int
 | []=>rfl
 |x::l=>by simp only[bC,iy,iz,Kj l]
def Kk{n:Nat}:∀l:List Bool,iy n (l.map .bool)=l.map .bool
 | []=>rfl
 |x::l=>by simp only[bC,iy,iz,Kk l]
def wA (m:ak) (h:m.fits):PC ux [m.av]=some (vD m):=by
 refine ba (VU rfl ?_)
 by_cases hv:m.ao=0
 case neg=>
  have e1:m.fV=m.ao:=by unfold ak.fV;rw[ah hv]
  have e2:m.lC=[]:=by unfold ak.lC;rw[ah (by rw[e1];exact hv)]
  unfold vD;rw[e1,e2];simp[fD m h,hv]
 have hm:=fQ hv;have jQ:=hm.inputs;have eA:=hm.states;have wu:=aaD hm;have hq:=AN m hm m.start hm.start;have hqn:=hq.le;have ZR:=Ki (m:=m);have JB:=hq.pos;obtain⟨b,hR⟩:=aaE m h hv;have hf:∀i:Nat,i<m.rz.length->∀a:Nat,a<=m.inputs.toNat->(ju m (m.rz.take i)).length+(er m (ix m.rz i) m.dj a).length<=m.allM.length:=λi hi a ha=>by
  have e1:=List.take_append_drop (i+1) m.rz;have e2:m.rz.take (i+1)=m.rz.take i ++ [ix m.rz i]:=by rw[eD,cG hi,aK hi];rfl
  unfold ak.allM;rw[<-e1,BQ,e2,BQ,Kg];have:=Kf (m:=m) (s:=ix m.rz i) (o:=m.dj) ha;simp only[ez];rw[<-e2,e1];omega
 have ta:=JZ (σ:=[⟨none,b.map .bool,.live⟩,Zb ((m.af m.start).map (·.1))]) (b:=1) (n:=(m.af m.start).length) (zs:=(m.af m.start).map (·.1)) rfl ab (λe=>absurd (List.map_eq_nil_iff.1 e) (fc.1 JB)) ai
 have fp:az [⟨none,b.map .bool,.live⟩,Zb ((m.af m.start).map (·.1))] 1 (Zb (bl ((m.af m.start).map (·.1))))=[⟨none,b.map .bool,.live⟩,Zb m.rz]:=rfl;rw[fp]at ta;rw[<-ZR]at hR ta;simp[-List.map_map,fD m h,hv,iz,fZ,Kj,Kk,hR,ta,aae m h hv];refine a6 (λi:Nat=>[(4,.int i),(9,uS 2 (ju m (m.rz.take i)))]) (λi=>[⟨none,b.map .bool,.live⟩,Zb m.rz,uB (ju m (m.rz.take i))]) (λi=>i<=m.rz.length/\(ju m (m.rz.take i)).length<=10000) (λi=>m.rz.length-i) 0 (by simp[b5,ju,pw]) ⟨aa,by simp[ju]⟩ ?_
 rintro i ⟨i0,i1⟩
 by_cases hi:i<m.rz.length
 .have hfi:=hf i hi
  have e2:m.rz.take (i+1)=m.rz.take i ++ [ix m.rz i]:=by rw[eD,cG hi,aK hi];rfl
  have BE:=Kh hm _ (bt (l:=m.rz) (n:=(i:Int)) aa aa)
  have Ld:ju m (m.rz.take (i+1))=ju m (m.rz.take i)++er m (ix m.rz (i:Int)) m.dj m.inputs.toNat:=by rw[e2,BQ,Kg]
  generalize ju m (m.rz.take i)=B at *;simp[-ax,hi];refine a6 (λa:Nat=>[(7,.int a),(9,uS 2 (B++er m (ix m.rz (i:Int)) m.dj a))]) (λa=>[⟨none,b.map .bool,.live⟩,Zb m.rz,uB (B++er m (ix m.rz (i:Int)) m.dj a)]) (λa=>(a:Int)<=m.inputs/\(B++er m (ix m.rz (i:Int)) m.dj a).length<=10000) (λa=>m.inputs.toNat-a) 0 (by simp[b5,er]) ⟨aa,by simpa[er]using i1⟩ ?_
  rintro a ⟨a0,a1⟩
  by_cases ha:(a:Int)<m.inputs
  .have wC:er m (ix m.rz (i:Int)) m.dj (a+1)=er m (ix m.rz (i:Int)) m.dj a++m.iX (ix m.rz (i:Int)) (a:Nat) m.dj:=rfl
   have hfa:=hfi (a+1) aa
   rw[wC]at hfa;have hT:=aar m hm (ix m.rz (i:Int)) a BE ⟨aa,ha⟩ m.dj wu
   have vQ:=aaA (m:=m) (s:=ix m.rz (i:Int)) (a:=a) wu aa aa
   generalize m.iX (ix m.rz (i:Int)) (a:Nat) m.dj=X at *;generalize er m (ix m.rz (i:Int)) m.dj a=C at *;have nU:=j6 (xs:=B++C);have hux:=j6 (xs:=X);have Kl:(5*(B++C).length=(B++C).length*aC (some 5))=True:=cq gY
   have hlD:(B++C).length=B.length+C.length:=ab
   have hlE:((B++C)++X).length=B.length+C.length+X.length:=ai
   generalize BP:B++C=D at *
   by_cases h10:10000<((D++X).length:Int)
   .obtain⟨z1,z2⟩:=aaC (m:=m) hv (by simp at hfa;omega)
    unfold vD;rw[z1,z2];have hX:(X.length=0)=False:=cf aa
    simp[-ax,-List.length_append,ha,hT,Kl,nU,hux,BR,BS,hX];refine⟨dA,aa,λhh=>?_⟩
    omega
   .by_cases hX:X=[]
    .subst hX
     rw[js]at wC hlE h10;have hhm:¬10000<(D.length:Int):=h10;simp[-ax,-List.length_append,ha,hT,Kl,nU,BR,BS];refine⟨dA,aa,λhh=>absurd hh hhm,λ_=>⟨aa,aL (a+1) (by simp[wC,BP]) (by simp[wC,BP]) ⟨aa,by rw[wC,BP];exact a1⟩ aa⟩⟩
    .have hX' : (X.length=0)=False:=cf (by simpa using hX)
     have hX2:X.length ≠ 0:=by simpa using hX
     simp[-ax,-List.length_append,ha,hT,Kl,nU,hux,BR,BS,hX'];refine⟨dA,aa,λhh=>aa,λ_=>⟨aa,aL (a+1) (by simp[wC,<-List.append_assoc,BP,qD,j6];omega) (by simp[wC,<-List.append_assoc,BP,qD,hX]) ⟨aa,by rw[wC,<-List.append_assoc,BP];omega⟩ aa⟩⟩
  .have ea:m.inputs.toNat=a:=by omega
   rw[ea]at Ld;generalize er m (ix m.rz (i:Int)) m.dj a=C at *;simp[-ax,-List.length_append,ha];exact⟨aa,aL (i+1) (by simp[Ld]) (by simp[Ld]) ⟨aa,by rw[Ld];exact a1⟩ aa⟩
 .have ei:i=m.rz.length:=by omega
  subst ei;rw[kW]at i1 ⊢;obtain⟨z1,z2⟩:=z206 (m:=m) hv i1;unfold vD;rw[z1,z2];have hv:=vA (fr:=false) (σ:=[⟨none,b.map .bool,.live⟩,Zb m.rz,uB (ju m m.rz)]) (b:=2) (xs:=ju m m.rz) rfl;simp[-ax,hi,hv]
  rfl
end Ab
