/- The example of chapter 44 holds. Condition: none. -/
import Derived.Test.YtdenhmniigikcaaGreatU44O
set_option linter.all false
set_option maxRecDepth 100000
set_option maxHeartbeats 4000000
open Option renaming some->aa,none->ab
open Bool renaming true->ad,false->ae
open List renaming length->ah
namespace Ab
variable{f N:Nat}{v:AV}
def Zc(h:(cN G Q N f [] []).map (λp=>cK p.2 ae p.1)=aa (aa v)):PC f []=aa v:=by
 cases e:cN G Q N f [] []with
 |none=>rw[e]at h;simp at h
 |some p=>
  rw[e]at h;simp at h;unfold PC Aj;rw[show L f [] []=aa p from Eg pM e];exact h
def arv:PC Ez []=aa dZ.av:=Zc (N:=50) (by kernel_rfl)
def arw:PC EA []=aa tR.av:=Zc (N:=50) (by kernel_rfl)
def arx:tR.fits:=MT Yj ⟨cp,cp,cp,cp⟩
def Zd (n:aS) (d:n.Ok) (g:n.fits) (h:ah n.az^ah n.bQ<=512) (i:n.dB=dZ.dB) (j:n.bT=dZ.bT):PC tw [n.av]=aa (.bY [tR.av,.int 0]):=by
 obtain⟨⟨x,e⟩,l,_,m⟩:=Nk n g λ_=>h;obtain⟨ws,b,a⟩:=m (CM d);rw[i,j]at b a;rw[b.rq Gi]at a;have o:zR dZ.dB dZ.bT [[],[0,3]]=(tR,0):=by
  unfold zR;rw[<-Nn];simp
  decide
 rw[o]at a;injection a with p q
 rw[l,p,q]
def ary{a:ao}(h:(cN G Q N f a []).map (λp=>cK p.2 ae p.1)=aa (aa v)):PC f a=aa v:=by
 cases e:cN G Q N f a []with
 |none=>rw[e]at h;simp at h
 |some p=>
  rw[e]at h;simp at h;unfold PC Aj;rw[show L f a []=aa p from Eg pM e];exact h
def arz:PC EH [tR.av,dZ.av]=aa (.bY [.aX ae [],.bool ae,.int 0]):=ary (N:=100) (by kernel_rfl)
def brO (i:Nat):Option aO:=if i=0 then aa gD else ab
def brS:aq:=[gD,⟨aa 2,[.str [],.str []],.live⟩,⟨aa 0,[],.map []⟩,⟨aa 13,dZ.lQ ++ [bU [[]],.sl 1 2 0 1,.cZ 2],.live⟩]
def arA:LM (rA [[]]) brO brS:=by
 refine⟨rfl,rfl,rfl,λe a=>?_,λe a=>?_,λe a=>?_,by simp[rA],by simp[rA],cp,λe a=>?_,λi B b=>?_⟩
 .simp[rA]at a
 .simp[rA]at a
 .simp[rA]at a
 .simp[rA]at a
 .unfold brO at b
  split at b
  .rename_i d
   subst d;simp at b;subst b;exact⟨rfl,cp,cp,cp,λe a=>by simp[rA]at a⟩
  .simp at b
def arB:PC zh [dZ.av]=aa (.bY [tR.av,.int 1,.int 0]):=by
 refine cB (S3 rfl ?_);have w:=zn dZ Gk;rw[Hk]at w;obtain⟨r,d,x,T,p,S,_,_,D,y,z,rfl⟩:=dt (YN arA aq3 aq4);rw[YT]at y z x;have C:=(D 0 gD rfl).2;have o:=cX C;simp[-aK,w];refine⟨rfl,bB (λ_:Unit=>[]) (λ_=>brS) (λ_=>True) (λ_=>0) () rfl trivial ?_⟩;intro _ _;have h:tR.cv p=[.int 2,.int 0,.int 2,.int 4,.int 0,jf (p .ac) 2,dh (p (.ls .cl)) 2,dh (p (.ls .ps)) 2,dh (p (.ls .bp)) 2,dh (p .po) 2]:=rfl;have i :=x;rw[h]at i;have q:∀b m:Nat,eA (dh b m)=ad:=λb m=>by unfold dh;split<;>rfl
 have E:∀Y:aO,aQ (d ++ [Y]) (ah d)=aa Y:=λY=>gZ;have es:∀Y Z:aO,aV (d ++ [Y]) (ah d) Z=d ++ [Z]:=λY Z=>vj;simp[-aK,i, E,es,q];have e:∀t B,tR.cont p t=aa B->4<p t/\p t<ah d:=λt B g=>(z t B g).2;refine Y6 (A:=tR) (p:=p) (b:=ah d) (y.other λt B g=>fD (e t B g).2) gZ (λt B g=>by have:=(e t B g).2;omega) rfl λl U F=>?_
 have j:aQ l 0=aa gD:=by
  rw[F 0 ax λt B g=>by have:=(e t B g).1;omega,fD o];exact C
 have s:0<ah l:=cX j;have a:∀B:aO,aQ (aV l 0 B) 0=aa B:=λB=>cQ s;have u:=λ(ce:CE) (G H I J K L M N O P:AV)=>pP (ce:=ce) (σ:=aV l 0 ⟨aa 10,[G,H,I,J,K,L,M,N,O,P],.live⟩) (n:=0) (a _);have Q:=arz;have R:=Zd tR Yj arx cp rfl aqq
 simp[-aK,Q,R,j,a,u]
def arC:PC tw [dZ.av]=aa (.bY [tR.av,.int 0]):=Zd dZ xt Gk cp rfl rfl
def awake:PC zg []=aa (.bool ad):=by
 refine cB (ajK rfl ?_);have d:=arv;have e:=arw;have g:=arC;have h:=arB;have a:tR.ZZ:=by rw[<-Nn];exact(X9 Yk.ok.dB cp cp).1
 have b:=W7 tR tR a a;rw[M0.2 rfl]at b;simp[-aK,d,e,g,h,b]
end Ab
