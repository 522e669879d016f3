/- Blocks of numbers; stores: blocks behind others, blocks that are put, rows that lie somewhere; and what it leans on. Condition: none. -/
import Derived.Test.YtcdccenbhiddcaaGreatGbf
import Derived.Test.YtcdccenbhiddcaaGreatMnlT
import Derived.Test.YtcdccenbhiddcaaGreatCovB
import Derived.Test.YtcdccenbhiddcaaGreatCovF
import Derived.Test.YtcdccenbhiddcaaGreatMokA
import Derived.Test.YtcdccenbhiddcaaGreatWsuM
import Derived.Test.YtcdccenbhiddcaaGreatMinE
import Derived.Test.YtcdccenbhiddcaaGreatEqv
set_option linter.all false
set_option maxRecDepth 100000
set_option maxHeartbeats 4000000
namespace Ab
abbrev Zb (vs:List Int):aj:=⟨none,vs.map .int,.live⟩
def bE:∀(σ:List aj) (i:Nat),ay σ i=σ[i]?
 | [],i=>by simp[ay]
 |x::r,0=>rfl
 |x::r,i+1=>by simp[ay,bE r i]
def sE:∀(σ:List aj) (i:Nat) (B:aj),az σ i B=σ.set i B
 | [],i,B=>by simp[az]
 |x::r,0,B=>rfl
 |x::r,i+1,B=>by simp[az,sE r i B]
def qy{n:Nat}:∀l:List Int,iy n (l.map .int)=l.map .int
 | []=>rfl
 |x::l=>by simp only[bC,iy,iz,qy l]
def rws (e:Nat) (p:Nat->Nat) (n K:Nat):List AV:=(List.range n).map λj=>.sl (p j+e) K 0 K
variable{e n K:Nat}{p:Nat->Nat}
def oP:rws e p (n+1) K=rws e p n K ++ [.sl (p n+e) K 0 K]:=by simp[rws,List.range_succ]
def kD:(rws e p n K).length=n:=by simp[rws]
variable{r:List aj}
def lx{ce:CE}{a b c d:AV}:ev ce (⟨some 4,[a,b,c,d],.live⟩::r) 0 [] (λ_=>.ptr 0 (aC (some 4)) 0) (.ld (.v 0) (some 4))=some (.agg [a,b,c,d],none):=(rfl)
variable{k:Nat}
def Zr:iy k (rws e p n K)=rws (e+k) p n K:=by
 have:∀l:List Nat,iy k (l.map λi=>AV.sl (p i+e) K 0 K)=l.map λi=>AV.sl (p i+(e+k)) K 0 K:=by
  intro l
  induction l with
  |nil=>rfl
  |cons a l b=>simp only[bC,iy,iz,b];congr 2;omega
 exact this _
theorem nS{x:aj}{l:List aj}:ay (x::l) (n+1)=ay l n:=rfl
variable{B:aj}
theorem BC{x:aj}{l:List aj}:az (x::l) (n+1) B=x::az l n B:=rfl
variable{i:Nat}
def oQ{Q:List aj}(h:ay Q i=some B):i<Q.length:=by
 rw[bE]at h;exact(cM.1 h).1
def gE{Q:List aj}(h:ay Q i=some B):ay (Q++r) i=some B:=by
 have:=oQ h;rw[bE]at h ⊢;rw[dG this];exact h
def ly{Q:List aj}:ay (Q++B::r) Q.length=some B:=by rw[bE];simp
def vq{Q:List aj}{A:aj}:ay (Q++A::B::r) (Q.length+1)=some B:=by rw[bE];simp
variable{C:aj}
def Jw{Q:List aj}{A:aj}:ay (Q++A::B::C::r) (Q.length+2)=some C:=by rw[bE];simp
def eF{Q:List aj}:(az Q i B).length=Q.length:=by rw[sE];simp
def sW{Q:List aj}(h:i<Q.length):az (Q++r) i B=az Q i B++r:=by rw[sE,sE,iG,ah h]
def lz{Q:List aj}:az (Q++B::r) Q.length C=Q++C::r:=by rw[sE,iG,ae aa];simp
def BD{Q:List aj}{A:aj}:az (Q++A::B::r) (Q.length+1) C=Q++A::C::r:=by rw[sE,iG,ae aa];simp
variable{Q':List aj}
def sX{Q:List aj}(h:Q'.length=Q.length):ay (Q' ++ B::r) Q.length=some B:=by rw[<-h];exact ly
def Jx{Q:List aj}(h:Q'.length=Q.length):az (Q' ++ B::r) Q.length C=Q' ++ C::r:=by rw[<-h];exact lz
def qz{Q:List aj}(h:i<Q.length):ay (az Q i B) i=some B:=by
 rw[bE,sE,List.getElem?_set,ah rfl,ah h]
variable{j:Nat}
def e6{Q:List aj}(h:i ≠ j):ay (az Q i B) j=ay Q j:=by
 rw[bE,bE,sE,List.getElem?_set,ae h]
variable{σ:List aj}{b:Nat}{l:List Int}
def Zs(h:ay σ b=some (Zb l)):view σ false (k+2) (.sl b l.length 0 l.length)=some (iL l):=by
 have a:upto σ b l.length=some (Zb l):=by
  unfold upto;rw[h];simp
 unfold view;simp only[a,aC,iF,eL,Nat.mul_one];have e:aM (view σ false (k+1)) (l.map AV.int)=some (l.map AV.int):=nI (f:=AV.int) (g:=AV.int) λ_ _=>rfl;rw[ah ab,u5 ab,e]
structure en (σ:List aj) (b:Nat) (wo : Nat->Nat) (l:List (List Int)):Prop where
 tab:ay σ b=some ⟨none,(List.range l.length).map λ(j:Nat)=>AV.sl (wo j) (ix l (j:Int)).length 0 (ix l (j:Int)).length,.live⟩
 row:∀j:Nat,j<l.length->ay σ (wo j)=some (Zb (ix l (j:Int)))
variable{wo: Nat->Nat}
def Zt{l:List (List Int)}(h:∀j:Nat,j<l.length->ay σ (wo j)=some (Zb (ix l (j:Int)))):aM (view σ false (k+2)) ((List.range l.length).map λ(j:Nat)=>AV.sl (wo j) (ix l (j:Int)).length 0 (ix l (j:Int)).length)=some (l.map iL):=by
 have e:l.map iL=(List.range l.length).map λ(j:Nat)=>iL (ix l (j:Int)):=by
  apply List.ext_getElem
  .simp
  .intro i a d
   simp at a;simp only[List.getElem_map,List.getElem_range];rw[aK a]
 rw[e,nI];intro j b;exact Zs (h j (gw.1 b))
def kE{l:List (List Int)}(h:en σ b wo l) (a:n=l.length):view σ false (k+3) (.sl b n 0 n)=some (aW l):=by
 subst a;have d:upto σ b l.length=some ⟨none,(List.range l.length).map λ(j:Nat)=>AV.sl (wo j) (ix l (j:Int)).length 0 (ix l (j:Int)).length,.live⟩:=by
  unfold upto;rw[h.tab];simp
 unfold view;simp only[d,aC,iF,eL,Nat.mul_one];rw[ah ab,u5 ab,Zt h.row]
def pR (j:Nat):Nat:=if j=0 then 3 else 5+j
def K7 (a:Int) (num:List Int) (K:Nat) (R O:List (List Int)):List aj:=match R with
 |r::R=>⟨some 4,[.int 0,.int 0,.ag,.ag],.live⟩::Zb num::⟨some 4,[.int a,.int 0,.sl 4 (R.length+1) 0 (R.length+1),.sl 5 (R.length+1) 0 (R.length+1)],.live⟩::Zb r::⟨none,rws 0 pR (R.length+1) K,.live⟩::⟨none,O.map iL,.live⟩::R.map Zb
 | []=>[⟨some 4,[.int 0,.int 0,.ag,.ag],.live⟩,Zb num,⟨some 4,[.int a,.int 0,.ag,.ag],.live⟩]
variable{df:Int}{num:List Int}{R O:List (List Int)}
theorem vt{r:List Int}:K7 df num K (r::R) O=⟨some 4,[.int 0,.int 0,.ag,.ag],.live⟩::Zb num::⟨some 4,[.int df,.int 0,.sl 4 (R.length+1) 0 (R.length+1),.sl 5 (R.length+1) 0 (R.length+1)],.live⟩::Zb r::⟨none,rws 0 pR (R.length+1) K,.live⟩::⟨none,O.map iL,.live⟩::R.map Zb:=rfl
theorem Zu:K7 df num K [] O=[⟨some 4,[.int 0,.int 0,.ag,.ag],.live⟩,Zb num,⟨some 4,[.int df,.int 0,.ag,.ag],.live⟩]:=rfl
def Zv(h:j<R.length):ay (R.map Zb) j=some (Zb (ix R (j:Int))):=by
 rw[bE,eQ,cG h,aK h];rfl
variable{B0 B1 B2:aj}
def Zw{b:aj}{r:List Int}(h:∀x∈r::R,x.length=K):en (B0::B1::B2::Zb r::⟨none,rws 0 pR (R.length+1) K,.live⟩::b::R.map Zb) 4 pR (r::R):=by
 refine⟨?_,λj a=>?_⟩
 .show some (aj.mk none (rws 0 pR (R.length+1) K) .live)=_
  unfold rws
  congr 2
  refine mT λj a=>?_;have:=h _ (bt (l:=r::R) (n:=(j:Int)) aa (by simp at a ⊢;omega))
  rw[this];rfl
 .cases j with
  |zero=>rfl
  |succ j=>
   have e:pR (j+1)=j+6:=by unfold pR;rw[ae aa];omega
   rw[e];show ay (R.map Zb) j=_;rw[Zv cV]
   simp[ix]
def oR (num l:List Int) (K x:Nat):List Int:=(l.take x).map (λt=>ix num t)++List.replicate (K-x) 0
variable{x:Nat}
def Jy(h:l.length=K) (a:x<=K):(oR num l K x).length=K:=by
 unfold oR;simp;omega
def Jz:oR num l K 0=List.replicate K 0:=by simp[oR]
def JA(h:l.length=K) (d:x<K):oR num l K (x+1)=(oR num l K x).set x (ix num (ix l (x:Int))):=by
 unfold oR;rw[iG,ae ai]
 have a:(List.map (λt=>ix num t) (l.take x)).length=x:=ai
 rw[a,Nat.sub_self];obtain⟨j,b⟩:∃j,K-x=j+1:=⟨K-x-1,aa⟩
 rw[b,mH,List.set_cons_zero,show K-(x+1)=j by omega,eD,cG aa,aK aa]
 simp only[eE,fO,Option.toList_some,bC,List.map_nil,List.singleton_append]
def Zx(h:l.length=K):oR num l K K=l.map λt=>ix num t:=by
 unfold oR;rw[hJ aa,Nat.sub_self];simp
def lA (m:ak):ak×Int:=if m.ao ≠ 0 then(⟨0,0,[],[]⟩,m.ao)else(m.trim,0)
variable{m:ak}
def Zy(a:m.Ok):∀x∈m.trim.next,x.length=m.inputs.toNat:=by
 intro x b;obtain⟨i,d,rfl⟩:=cd.1 b;have:=(oL a).row (i:Int) aa aa
 rw[aK d]at this;have e:m.trim.inputs=m.inputs:=rfl;omega
def Zz (m:ak) (h:m.fits):PC yt [m.av]=some (.bz [(lA m).1.av,.int (lA m).2]):=by
 refine ba (V9 rfl ?_);have hv:=fD m h
 by_cases h0:m.ao=0
 case neg=>
  have e:lA m=(⟨0,0,[],[]⟩,m.ao):=by unfold lA;rw[ah h0]
  rw[e];simp[hv,h0,lx]
 have e:lA m=(m.trim,0):=by unfold lA;rw[ae aa]
 rw[e];have hm:=fQ h0;have jQ:=hm.inputs;have eA:=hm.states;have vQ:=hm.len;have hR:=IE m h h0;rw[h0]at hv;have hf:=iW m hm m.start hm.start;have JB:=hf.bq.pos;have hle:=hf.bq.le;have wg:m.trim.next.length=(m.af m.start).length:=mm
 have hto:m.trim.out.length=(m.af m.start).length:=Ig;have ZA:m.num=lp (m.af m.start) m.next.length (m.af m.start).length:=rfl
 have JC:=Zy hm;have hTn:=λi h0 h1=>Ba (m:=m) (i:=i) h0 h1;have hTo:=λi h0 h1=>vc (m:=m) (i:=i) h0 h1;have hTi:m.trim.av = .agg [.int m.inputs,.int 0,aW m.trim.next,aW m.trim.out]:=rfl
 have BE:∀i:Nat,i<(m.af m.start).length->0<=(ix (m.af m.start) (i:Int)).1/\(ix (m.af m.start) (i:Int)).1<(m.next.length:Int):=λi hi=>hf.bq.fS _ (bt aa aa)
 rw[hTi];generalize m.trim.next=R at *
 generalize m.trim.out=O at *;have B8:m.num.length=m.next.length:=Ye
 generalize m.num=N at *;generalize m.af m.start=P at *;simp[-List.map_map,-List.map_replicate,-ax,hv,hR];refine⟨aa,?_⟩
 refine a6 (λi:Nat=>[(5,.int i)]) (λi=>[⟨some 4,[.int 0,.int 0,.ag,.ag],.live⟩,Zb (lp P m.next.length i)]) (λi=>i<=P.length) (λi=>P.length-i) 0 (by simp[b5,lp,ml]) aa ?_
 intro i i1;have hNl:(lp P m.next.length i).length=m.next.length:=by unfold lp;rw[sP];simp
 by_cases hi:i<P.length
 .have hp:=BE i hi
  have g1:ix (P.map (·.1)) (i:Int)=(ix P (i:Int)).1:=gz aa aa
  have Cn:lp P m.next.length (i+1)=(lp P m.next.length i).set (ix P (i:Int)).1.toNat (i:Int):=rfl
  generalize lp P m.next.length i=Q at *
  simp[-List.map_map,-List.map_set,-ax,hi,g1,hp.1,hp.2,hNl];refine⟨aa,aL (i+1) ab (by rw[Cn]) aa aa⟩
 .have:i=P.length:=by omega
  subst this;rw[<-ZA];have hK:m.inputs=(m.inputs.toNat:Int):=aa
  have hK0:0<m.inputs.toNat:=aa
  simp[-List.map_map,-ax];refine a6 (λi:Nat=>[(11,.int i)]) (λi=>K7 m.inputs N m.inputs.toNat (R.take i) (O.take i)) (λi=>i<=P.length) (λi=>P.length-i) 0 (by simp[b5,K7]) aa ?_
  intro i i1;obtain⟨r,R,rfl⟩:∃r R', R=r::R' :=by cases R with
   |nil=>simp at wg;omega
   |cons r R=>exact⟨r,R,rfl⟩
  by_cases hi:i<P.length
  .have hp:=BE i hi
   have g1:ix (P.map (·.1)) (i:Int)=(ix P (i:Int)).1:=gz aa aa
   have hl:=hm.row _ hp.1 hp.2;have Ct:(ix m.next (ix P (i:Int)).1).length=m.inputs.toNat:=aa
   have ZC:=hTn (i:Int) aa aa
   have hOi:=hTo (i:Int) aa aa
   rw[<-Zx Ct]at ZC;have wq:(ix P (i:Int)).1<(m.out.length:Int):=aa
   have hP' : (i:Int)<(P.length:Int):=aa
   have JD:∀x:Nat,(x:Int)<m.inputs->0<=ix (ix m.next (ix P (i:Int)).1) (x:Int)/\ix (ix m.next (ix P (i:Int)).1) (x:Int)<(N.length:Int):=λx hx=>by
    have:=hm.nx _ (x:Int) hp.1 hp.2 aa hx
    omega
   generalize (ix P (i:Int)).1=s at *;have xI:((ix m.next s).length:Int)=m.inputs:=hl.1
   have pC:PC iS [iL (ix m.out s)]=some (iL (ix m.out s)):=IS _ aa
   have Ci:(ix m.next s).length=m.inputs.toNat:=Ct
   rcases i with _|j
   .rw[show(r::R).take 0=[]from rfl,Zu]
    have ZD : ix (P.map (·.1)) 0=s:=g1;have hP0:(P=[])=False:=cf (by intro e;rw[e]at hi;simp at hi)
    have ZE : (0<P.length)=True:=cq hi;simp[-List.map_map,-List.map_replicate,-ax,hP0,ZE, ZD, hp.1,hp.2];refine⟨aa,?_⟩
    refine a6 (λx:Nat=>[(15,.int x)]) (λx=>[⟨some 4,[.int 0,.int 0,.ag,.ag],.live⟩,Zb N,⟨some 4,[.int m.inputs,.int 0,.ag,.ag],.live⟩,Zb (oR N (ix m.next s) m.inputs.toNat x)]) (λx=>x<=m.inputs.toNat) (λx=>m.inputs.toNat-x) 0 (by simp[-List.map_replicate,b5,Jz]) aa ?_
    intro x x1;have kH:=Jy (num:=N) Ct (x:=x) x1
    by_cases hx:x<m.inputs.toNat
    .have hn:=JD x aa
     have mr:((x:Int)<m.inputs)=True:=cq aa
     have sY:=JA (num:=N) Ct hx;generalize oR N (ix m.next s) m.inputs.toNat x=X at *
     simp[-List.map_map,-List.map_set,-List.map_take,-ax,xI,mr,hn.1,hn.2,kH];refine⟨aa,B8,aa,aa,aL (x+1) ab (by rw[sY]) aa aa⟩
    .have:x=m.inputs.toNat:=by omega
     subst this;have mr:(((m.inputs.toNat:Nat):Int)<m.inputs)=False:=cf aa
     have Uw:r=oR N (ix m.next s) m.inputs.toNat m.inputs.toNat:=ZC
     have hoo:O.take 1=[ix m.out s]:=by
      obtain⟨o,O,rfl⟩:∃o O', O=o::O' :=by cases O with
       |nil=>simp at hto;omega
       |cons o O=>exact⟨o,O,rfl⟩
      rw[<-hOi];rfl
     simp[-List.map_map,-List.map_set,-List.map_take,-ax,-Int.ofNat_toNat,xI,mr,hp.1,wq,pC];refine aL 1 ab ?_ aa aa
     rw[hoo,show(r::R).take 1=[r]from rfl,vt,<-Uw]
     rfl
   .have hjl:j<R.length+1:=by simp at wg;omega
    have ht:(R.take j).length=j:=by rw[ji,Nat.min_eq_left (by simp at wg;omega)]
    rw[show(r::R).take (j+1)=r::R.take j from rfl,vt,ht,List.map_take (f:=iL)];have hTl:((R.take j).map Zb).length=j:=by rw[cP,ht]
    have ZF : ((j:Int)+1<(P.length:Int))=True:=cq aa
    have hjP:(j+1<P.length)=True:=cq hi;have ZD : ix (P.map (·.1)) ((j:Int)+1)=s:=g1;have Cu:(R.take (j+1)).map Zb=(R.take j).map Zb ++ [Zb (oR N (ix m.next s) m.inputs.toNat m.inputs.toNat)]:=by
     have hj:j<R.length:=by simp at wg;omega
     rw[eD,cG hj,<-ZC,eE];rw[show ix (r::R) ((j+1:Nat):Int)=R[j]by rw[aK ai];rfl]
     rfl
    have hO2:(O.map iL).take (j+2)=(O.map iL).take (j+1) ++ [iL (ix m.out s)]:=by
     rw[eD,cG ai,<-hOi,aK aa]
     simp
    generalize (R.take j).map Zb=T at *;simp[-List.map_map,-List.map_replicate,-List.map_take,-ax,hjP,ZF, ZD, hp.1,hp.2];refine⟨aa,aa,?_⟩
    refine a6 (λx:Nat=>[(15,.int x)]) (λx=>⟨some 4,[.int 0,.int 0,.ag,.ag],.live⟩::Zb N::⟨some 4,[.int m.inputs,.int 0,.sl 4 (j+1) 0 (j+1),.sl 5 (j+1) 0 (j+1)],.live⟩::Zb r::⟨none,rws 0 pR (j+1) m.inputs.toNat,.live⟩::⟨none,(O.map iL).take (j+1),.live⟩::(T ++ [Zb (oR N (ix m.next s) m.inputs.toNat x)])) (λx=>x<=m.inputs.toNat) (λx=>m.inputs.toNat-x) 0 (by simp[-List.map_replicate,-List.map_take,b5,Jz]) aa ?_
    intro x x1;have kH:=Jy (num:=N) Ct (x:=x) x1;have wu:((O.map iL).take (j+1)).length=j+1:=ai
    by_cases hx:x<m.inputs.toNat
    .have hn:=JD x aa
     have mr:((x:Int)<m.inputs)=True:=cq aa
     have sY:=JA (num:=N) Ct hx;generalize oR N (ix m.next s) m.inputs.toNat x=X at *
     simp[-List.map_map,-List.map_set,-List.map_take,-ax,xI,mr,hn.1,hn.2,kH,↓ly,↓lz];refine⟨aa,B8,aa,aa,aL (x+1) ab (by rw[sY]) aa aa⟩
    .have:x=m.inputs.toNat:=by omega
     subst this;have mr:(((m.inputs.toNat:Nat):Int)<m.inputs)=False:=cf aa
     simp[-List.map_map,-List.map_set,-List.map_take,-ax,-Int.ofNat_toNat,xI,mr,hp.1,wq,pC,wu,kD];refine⟨aa,aa,aL (j+2) ai ?_ aa aa⟩
     have Nx:(R.take (j+1)).length=j+1:=by rw[ji,Nat.min_eq_left (by simp at wg;omega)]
     have hp2:pR (j+1)=j+6:=by unfold pR;rw[ae aa];omega
     rw[show(r::R).take (j+2)=r::R.take (j+1)from rfl,vt,Nx,List.map_take (f:=iL),hO2,Cu,oP (n:=j+1),hp2,hTl]
  .have:i=P.length:=by omega
   subst this;rw[hJ aa,hJ aa,vt]
   have v1:∀B0,view (B0::Zb N::⟨some 4,[.int m.inputs,.int 0,.sl 4 (R.length+1) 0 (R.length+1),.sl 5 (R.length+1) 0 (R.length+1)],.live⟩::Zb r::⟨none,rws 0 pR (R.length+1) m.inputs.toNat,.live⟩::⟨none,O.map iL,.live⟩::R.map Zb) false 11 (.sl 4 (R.length+1) 0 (R.length+1))=some (aW (r::R)):=λB0=>kE (k:=8) (Zw JC) rfl;have v2:∀B0,view (B0::Zb N::⟨some 4,[.int m.inputs,.int 0,.sl 4 (R.length+1) 0 (R.length+1),.sl 5 (R.length+1) 0 (R.length+1)],.live⟩::Zb r::⟨none,rws 0 pR (R.length+1) m.inputs.toNat,.live⟩::⟨none,O.map iL,.live⟩::R.map Zb) false 11 (.sl 5 (R.length+1) 0 (R.length+1))=some (aW O):=λB0=>AL (k:=10) (f:=iL) (g:=iL) (st:=.live) (xs:=O) rfl ab (by simp at wg;omega) λ_ _=>rfl
   simp[-List.map_map,-List.map_take,lx,v1,v2]
def mN (j:Nat):Nat:=if j=0 then 2 else 2*j+4
def mO (j:Nat):Nat:=if j=0 then 4 else 2*j+5
def jZ (A O:List (List Int)):List aj:=(List.zip A O).flatMap λp=>[Zb p.1,Zb p.2]
def BF:∀{A O:List (List Int)},A.length=O.length->(jZ A O).length=2*A.length
 | [],[],_=>rfl
 |a::A,o::O,h=>by
  have:=BF (A:=A) (O:=O) ch
  simp[jZ]at this ⊢;omega
variable{A:List (List Int)}{a o:List Int}
def JE(h:A.length=O.length):jZ (A ++ [a]) (O ++ [o])=jZ A O ++ [Zb a,Zb o]:=by
 unfold jZ;rw[List.zip_append h];simp
def nT:∀{A O:List (List Int)}{j:Nat},A.length=O.length->j<A.length->ay (jZ A O) (2*j)=some (Zb (ix A (j:Int)))/\ay (jZ A O) (2*j+1)=some (Zb (ix O (j:Int)))
 |a::A,o::O,0,h,_=>⟨rfl,rfl⟩
 |a::A,o::O,j+1,h,b=>by
  have:=nT (A:=A) (O:=O) (j:=j) ch (by simpa using b)
  have d:ix (a::A) ((j+1:Nat):Int)=ix A (j:Int):=by simp[ix]
  have e:ix (o::O) ((j+1:Nat):Int)=ix O (j:Int):=by simp[ix]
  rw[d,e];exact this
def K8 (df:Int) (K:Nat) (N O:List (List Int)):List aj:=match N,O with
 |a::A,o::O=>⟨some 4,[.int 0,.int 0,.ag,.ag],.live⟩::⟨some 4,[.int df,.int 0,.sl 3 (A.length+1) 0 (A.length+1),.sl 5 (A.length+1) 0 (A.length+1)],.live⟩::Zb a::⟨none,rws 0 mN (A.length+1) K,.live⟩::Zb o::⟨none,rws 0 mO (A.length+1) K,.live⟩::jZ A O
 |_,_=>[⟨some 4,[.int 0,.int 0,.ag,.ag],.live⟩,⟨some 4,[.int df,.int 0,.ag,.ag],.live⟩]
theorem vu:K8 df K (a::A) (o::O)=⟨some 4,[.int 0,.int 0,.ag,.ag],.live⟩::⟨some 4,[.int df,.int 0,.sl 3 (A.length+1) 0 (A.length+1),.sl 5 (A.length+1) 0 (A.length+1)],.live⟩::Zb a::⟨none,rws 0 mN (A.length+1) K,.live⟩::Zb o::⟨none,rws 0 mO (A.length+1) K,.live⟩::jZ A O:=rfl
theorem ZG:K8 df K [] []=[⟨some 4,[.int 0,.int 0,.ag,.ag],.live⟩,⟨some 4,[.int df,.int 0,.ag,.ag],.live⟩]:=rfl
def JF(b:A.length=O.length) (f:∀x∈a::A,x.length=K) (g:∀x∈o::O,x.length=K):en (B0::B1::Zb a::⟨none,rws 0 mN (A.length+1) K,.live⟩::Zb o::⟨none,rws 0 mO (A.length+1) K,.live⟩::jZ A O) 3 mN (a::A)/\en (B0::B1::Zb a::⟨none,rws 0 mN (A.length+1) K,.live⟩::Zb o::⟨none,rws 0 mO (A.length+1) K,.live⟩::jZ A O) 5 mO (o::O):=by
 refine⟨⟨?_,λj d=>?_⟩,⟨?_,λj d=>?_⟩⟩
 .show some (aj.mk none (rws 0 mN (A.length+1) K) .live)=_
  unfold rws
  congr 2
  refine mT λj d=>?_;have:=f _ (bt (l:=a::A) (n:=(j:Int)) aa (by simp at d ⊢;omega))
  rw[this];rfl
 .cases j with
  |zero=>rfl
  |succ j=>
   have e:mN (j+1)=2*j+6:=by unfold mN;rw[ae aa];omega
   rw[e];show ay (jZ A O) (2*j)=_;rw[(nT b (by simpa using d)).1]
   simp[ix]
 .show some (aj.mk none (rws 0 mO (A.length+1) K) .live)=_
  unfold rws;rw[b]
  congr 2
  refine mT λj d=>?_;have:=g _ (bt (l:=o::O) (n:=(j:Int)) aa (by simp at d ⊢;omega))
  rw[this];rfl
 .cases j with
  |zero=>rfl
  |succ j=>
   have e:mO (j+1)=2*j+7:=by unfold mO;rw[ae aa];omega
   rw[e];show ay (jZ A O) (2*j+1)=_;rw[(nT b (by simp at d;omega)).2]
   simp[ix]
abbrev ZH (l:List Int):aj:=⟨none,l.map .int,if l=[]then .fN else .live⟩
def lB (m:ak):ak×Int:=if m.ao ≠ 0 then(⟨0,0,[],[]⟩,m.ao)else(m.aP,0)
def BG{t:ak}{c:List Int}:∀{s:Nat},(bc t c s).1.length=(bc t c s).2.length
 |0=>rfl
 |s+1=>by
  unfold bc;split
  .exact BG
  .simp[BG]
def JG{t:ak}{c:List Int}:∀{s:Nat},(bc t c s).1.length<=s
 |0=>aY 0
 |s+1=>by
  have:=JG (t:=t) (c:=c) (s:=s);unfold bc;split
  .omega
  .simp;omega
def mF (c l:List Int) (x:Nat):List Int:=(l.take x).map λn=>ix c n
variable{c:List Int}
def JH(h:x<=l.length):(mF c l x).length=x:=by simp[mF];omega
def JI(h:x<l.length):mF c l (x+1)=mF c l x ++ [ix c (ix l (x:Int))]:=by
 unfold mF;rw[eD,cG h,eE,aK h];rfl
def JJ(h:x=l.length):mF c l x=l.map λn=>ix c n:=by
 unfold mF;rw[hJ aa]
theorem qA:mF c l 0=[]:=rfl
def JK{t:ak}(d:t.Ok){c:List Int}(f:c.length=t.next.length):∀{s:Nat},s<=c.length->(∀x∈(bc t c s).1,x.length=t.inputs.toNat)/\∀x∈(bc t c s).2,x.length=t.inputs.toNat
 |0,_=>⟨λx a=>by simp[bc]at a,λx a=>by simp[bc]at a⟩
 |s+1,h=>by
  have b:=JK d f (s:=s) aa
  have e:=d.row (s:Int) aa aa
  unfold bc;split
  .exact b
  .refine⟨λx a=>?_,λx a=>?_⟩
   .rcases cp.1 a with a|a
    .exact b.1 x a
    .simp at a;subst a;simp;omega
   .rcases cp.1 a with a|a
    .exact b.2 x a
    .simp at a;subst a;omega
def wv (m:ak) (h:m.fits):PC uy [m.av]=some (.bz [(lB m).1.av,.int (lB m).2]):=by
 refine ba (VW rfl ?_);have hT:=Zz m h
 by_cases h0:m.ao=0
 case neg=>
  have e:lB m=(⟨0,0,[],[]⟩,m.ao):=by unfold lB;rw[ah h0]
  have e' : lA m=(⟨0,0,[],[]⟩,m.ao):=by unfold lA;rw[ah h0]
  rw[e];rw[e']at hT;simp[hT,h0,lx]
 have e:lB m=(m.aP,0):=by unfold lB;rw[ae aa]
 have e' : lA m=(m.trim,0):=by unfold lA;rw[ae aa]
 rw[e];rw[e']at hT;have hm:=fQ h0;have ht:=oL hm;have jQ:=ht.inputs;have eA:=ht.states;have vQ:=ht.len;have hC:=X8 m.trim (Io ht);have hp:ll m.trim 128=((eY m.trim 128).1,0):=by unfold ll;rw[ae (by have:=mn ht;omega)]
 rw[hp]at hC;obtain⟨k,hk⟩:=vg hm;have pC:=hk.len;have hM:m.aP=m.trim.quo (eY m.trim 128).1:=rfl;have hMa:m.aP.av = .agg [.int m.trim.inputs,.int 0,aW (bc m.trim (eY m.trim 128).1 (eY m.trim 128).1.length).1,aW (bc m.trim (eY m.trim 128).1 (eY m.trim 128).1.length).2]:=rfl;rw[hMa];generalize (eY m.trim 128).1=c at *;generalize m.trim=t at *;have BE:∀s:Int,0<=s->s<t.next.length->0<=ix c s/\ix c s<k:=λs s0 s1=>vf hk s0 s1
 simp[-ax,hT,hC];refine a6 (λs:Nat=>[(6,.int s)]) (λs=>K8 t.inputs t.inputs.toNat (bc t c s).1 (bc t c s).2) (λs=>s<=c.length) (λs=>c.length-s) 0 (by simp[b5,bc,K8]) aa ?_
 intro s s1;have hlen:=BG (t:=t) (c:=c) (s:=s);have Cv:=JK ht pC (s:=s) s1
 by_cases hs:s<c.length
 .have oc:=BE (s:Int) aa aa
  have j5:=ht.row (s:Int) aa aa
  have IA:(s:Int)<(t.next.length:Int):=aa
  have wq:(s:Int)<(t.out.length:Int):=aa
  have JD:∀x:Nat,(x:Int)<t.inputs->0<=ix (ix t.next (s:Int)) (x:Int)/\ix (ix t.next (s:Int)) (x:Int)<(c.length:Int):=λx hx=>by
   have:=ht.nx (s:Int) (x:Int) aa aa aa hx
   omega
  have oS : bc t c (s+1)=if ix c (s:Int)<((bc t c s).1.length:Int)then bc t c s else((bc t c s).1 ++ [(ix t.next (s:Int)).map λn=>ix c n],(bc t c s).2 ++ [ix t.out (s:Int)]):=rfl
  have JL:=JG (t:=t) (c:=c) (s:=s);generalize bc t c s=R at *;obtain⟨A,O⟩:=R;dsimp only at hlen Cv oS JL ⊢;rcases A with _|⟨a,A⟩
  .have:O=[]:=fY (by simpa using hlen.symm)
   subst this;rw[ZG];have bP:(ix c (s:Int)<0)=False:=cf aa
   rw[ae ai]at oS
   simp[-ax,hs,bP];refine⟨aa,?_⟩
   refine a6 (λx:Nat=>[(12,.int x),(15,.sl (2) x 0 x)]) (λx=>[⟨some 4,[.int 0,.int 0,.ag,.ag],.live⟩,⟨some 4,[.int t.inputs,.int 0,.ag,.ag],.live⟩,ZH (mF c (ix t.next (s:Int)) x)]) (λx=>x<=t.inputs.toNat) (λx=>t.inputs.toNat-x) 0 (by simp[b5,qA]) aa ?_
   intro x x1;have kH:=JH (c:=c) (l:=ix t.next (s:Int)) (x:=x) aa
   by_cases hx:x<t.inputs.toNat
   .have hn:=JD x aa
    have mr:((x:Int)<t.inputs)=True:=cq aa
    have sY:=JI (c:=c) (l:=ix t.next (s:Int)) (x:=x) aa
    have hxb:(x:Int)<=64:=aa
    rcases x with _|y
    .have tU:0<=ix (ix t.next (s:Int)) 0:=hn.1
     have tV:ix (ix t.next (s:Int)) 0<(c.length:Int):=hn.2
     have oT : (0<t.inputs)=True:=mr;simp[-ax,-List.map_append,j5.1,oT, tU,tV,qA];refine aL 1 ab ?_ aa aa
     rw[sY,qA];simp
    .generalize mF c (ix t.next (s:Int)) (y+1)=X at *
     have wx:(X=[])=False:=cf (by intro e;rw[e]at kH;simp at kH)
     have tU:0<=ix (ix t.next (s:Int)) ((y:Int)+1):=hn.1
     have tV:ix (ix t.next (s:Int)) ((y:Int)+1)<(c.length:Int):=hn.2
     have oT : ((y:Int)+1<t.inputs)=True:=mr;simp[-ax,-List.map_append,j5.1,oT, tU,tV,kH,wx];refine⟨aa,aa,aa,aL (y+2) ai ?_ aa aa⟩
     rw[sY];simp
   .have:x=t.inputs.toNat:=by omega
    subst this;have mr:(((t.inputs.toNat:Nat):Int)<t.inputs)=False:=cf aa
    have wx:(mF c (ix t.next (s:Int)) t.inputs.toNat=[])=False:=cf (by intro e;rw[e]at kH;simp at kH;omega)
    have K9:=JJ (c:=c) (l:=ix t.next (s:Int)) (x:=t.inputs.toNat) aa
    have re:(ix t.out (s:Int)=[])=False:=cf (by intro e;rw[e]at j5;simp at j5;omega)
    have wu:(ix t.out (s:Int)).length=t.inputs.toNat:=aa
    have A2:(t.inputs<=0)=False:=cf aa
    have Ce:(0<t.inputs)=True:=cq aa
    simp[-ax,-Int.ofNat_toNat,A2,Ce,j5.1,j5.2,mr,IA,wq,kH,wx,re,wu];refine⟨aa,aa,aL (s+1) ab ?_ aa aa⟩
    rw[oS, <-K9]
    rfl
  .rcases O with _|⟨o,O⟩
   .simp at hlen
   have JM:A.length=O.length:=by simpa using hlen
   rw[vu];have hT:=BF JM;have Cu:=JE (a:=(ix t.next (s:Int)).map λn=>ix c n) (o:=ix t.out (s:Int)) JM
   have fP:A.length+1<=s:=by simpa using JL
   by_cases bP:ix c (s:Int)<((a::A).length:Int)
   .rw[ah bP]at oS
    have BH : (ix c (s:Int)<(A.length:Int)+1)=True:=cq (by simpa using bP)
    simp[-ax,hs,BH];refine⟨aa,aL (s+1) ab ?_ aa aa⟩
    rw[oS, vu]
   have BH : (ix c (s:Int)<(A.length:Int)+1)=False:=cf (by simpa using bP)
   rw[ae bP]at oS;generalize jZ A O=T at *;simp[-ax,hs,BH];refine⟨aa,?_⟩
   refine a6 (λx:Nat=>[(12,.int x),(15,.sl (T.length+1+1+1+1+1+1) x 0 x)]) (λx=>⟨some 4,[.int 0,.int 0,.ag,.ag],.live⟩::⟨some 4,[.int t.inputs,.int 0,.sl 3 (A.length+1) 0 (A.length+1),.sl 5 (A.length+1) 0 (A.length+1)],.live⟩::Zb a::⟨none,rws 0 mN (A.length+1) t.inputs.toNat,.live⟩::Zb o::⟨none,rws 0 mO (A.length+1) t.inputs.toNat,.live⟩::(T ++ [ZH (mF c (ix t.next (s:Int)) x)])) (λx=>x<=t.inputs.toNat) (λx=>t.inputs.toNat-x) 0 (by simp[b5,qA]) aa ?_
   intro x x1;have kH:=JH (c:=c) (l:=ix t.next (s:Int)) (x:=x) aa
   by_cases hx:x<t.inputs.toNat
   .have hn:=JD x aa
    have mr:((x:Int)<t.inputs)=True:=cq aa
    have sY:=JI (c:=c) (l:=ix t.next (s:Int)) (x:=x) aa
    have hxb:(x:Int)<=64:=aa
    rcases x with _|y
    .have tU:0<=ix (ix t.next (s:Int)) 0:=hn.1
     have tV:ix (ix t.next (s:Int)) 0<(c.length:Int):=hn.2
     have oT : (0<t.inputs)=True:=mr;simp[-ax,-List.map_append,j5.1,oT, tU,tV,qA,↓ly,↓lz,kD];refine aL 1 ab ?_ aa aa
     rw[sY,qA];simp
    .generalize mF c (ix t.next (s:Int)) (y+1)=X at *
     have wx:(X=[])=False:=cf (by intro e;rw[e]at kH;simp at kH)
     have tU:0<=ix (ix t.next (s:Int)) ((y:Int)+1):=hn.1
     have tV:ix (ix t.next (s:Int)) ((y:Int)+1)<(c.length:Int):=hn.2
     have oT : ((y:Int)+1<t.inputs)=True:=mr;simp[-ax,-List.map_append,j5.1,oT, tU,tV,kH,wx,↓ly,↓lz,kD];refine⟨aa,aa,aa,aL (y+2) ai ?_ aa aa⟩
     rw[sY];simp
   .have:x=t.inputs.toNat:=by omega
    subst this;have mr:(((t.inputs.toNat:Nat):Int)<t.inputs)=False:=cf aa
    have wx:(mF c (ix t.next (s:Int)) t.inputs.toNat=[])=False:=cf (by intro e;rw[e]at kH;simp at kH;omega)
    have K9:=JJ (c:=c) (l:=ix t.next (s:Int)) (x:=t.inputs.toNat) aa
    have re:(ix t.out (s:Int)=[])=False:=cf (by intro e;rw[e]at j5;simp at j5;omega)
    have wu:(ix t.out (s:Int)).length=t.inputs.toNat:=aa
    have A2:(t.inputs<=0)=False:=cf aa
    have Ce:(0<t.inputs)=True:=cq aa
    simp[-ax,-Int.ofNat_toNat,A2,Ce,j5.1,j5.2,mr,IA,wq,kH,wx,re,wu,↓ly,↓lz,kD];refine⟨aa,aa,aa,aa,aL (s+1) ab ?_ aa aa⟩
    have e1:mN (A.length+1)=T.length+6:=by unfold mN;rw[ae aa];omega
    have e2:mO (A.length+1)=T.length+7:=by unfold mO;rw[ae aa];omega
    rw[oS, <-K9];rw[<-K9]at Cu;dsimp only;rw[List.cons_append,List.cons_append,vu,Cu,List.length_append,List.length_singleton,oP (n:=A.length+1),oP (n:=A.length+1),e1,e2];have hrb:ZH (mF c (ix t.next (s:Int)) t.inputs.toNat)=Zb (mF c (ix t.next (s:Int)) t.inputs.toNat):=by
     show(⟨none,(mF c (ix t.next (s:Int)) t.inputs.toNat).map .int,if mF c (ix t.next (s:Int)) t.inputs.toNat=[]then .fN else .live⟩:aj)=_
     rw[ae (by rw[wx];exact id)]
    rw[hrb]
 .have:s=c.length:=by omega
  subst this;have hA0:0<(bc t c c.length).1.length:=by
   have h1:(bc t c c.length).1.length=k:=(sQ hk).1;have h2:=BE 0 aa aa
   omega
  generalize bc t c c.length=R at *;obtain⟨A,O⟩:=R;dsimp only at hlen Cv hA0 ⊢;rcases A with _|⟨a,A⟩
  .simp at hA0
  rcases O with _|⟨o,O⟩
  .simp at hlen
  have JM:A.length=O.length:=by simpa using hlen
  rw[vu];have v1:∀B0 B1,view (B0::B1::Zb a::⟨none,rws 0 mN (A.length+1) t.inputs.toNat,.live⟩::Zb o::⟨none,rws 0 mO (A.length+1) t.inputs.toNat,.live⟩::jZ A O) false 11 (.sl 3 (A.length+1) 0 (A.length+1))=some (aW (a::A)):=λB0 B1=>kE (k:=8) (JF JM Cv.1 Cv.2).1 rfl;have v2:∀B0 B1,view (B0::B1::Zb a::⟨none,rws 0 mN (A.length+1) t.inputs.toNat,.live⟩::Zb o::⟨none,rws 0 mO (A.length+1) t.inputs.toNat,.live⟩::jZ A O) false 11 (.sl 5 (A.length+1) 0 (A.length+1))=some (aW (o::O)):=λB0 B1=>kE (k:=8) (JF JM Cv.1 Cv.2).2 hlen;simp[lx,v1,v2]
noncomputable def ak.fT (m:ak):Bool:=@decide (m.ao=0/\gJ m) (Classical.propDecidable _)
def oU:m.fT=true↔m.ao=0/\gJ m:=by unfold ak.fT;exact @decide_eq_true_iff _ (Classical.propDecidable _)
def sZ(h:¬(m.ao=0/\gJ m)):m.fT=false:=by
 cases e:m.fT with
 |false=>rfl
 |true=>exact absurd (oU.1 e) h
def ZI (m:ak) (h:m.fits):PC yF [m.av]=some (.bool m.fT):=by
 refine ba (Wv rfl ?_);have hv:=fD m h
 by_cases h0:m.ao=0
 case neg=>
  have e:=sZ (m:=m) λh=>h0 h.1;rw[e];simp[hv,h0]
 have hm:=fQ h0;have hR:=IE m h h0;have hM:=wv m h;have eM:lB m=(m.aP,0):=by unfold lB;rw[ae aa]
 rw[eM]at hM;rw[h0]at hv;have hi:=Ym hm
 by_cases h1:(m.af m.start).length=m.next.length
 .have tp : (((m.af m.start).length:Int)=(m.next.length:Int))=True:=cq aa
  have vw :=cq h1
  by_cases h2:m.aP.next.length=m.next.length
  .have wW : ((m.aP.next.length:Int)=(m.next.length:Int))=True:=cq aa
   have BI :=cq h2;have e:=oU.2 ⟨h0,hi.1 ⟨h1,h2⟩⟩;rw[e];simp[-List.map_map,hv,hR,hM,tp, wW, vw, BI]
  .have wW : ((m.aP.next.length:Int)=(m.next.length:Int))=False:=cf aa
   have BI :=cf h2;have e:=sZ (m:=m) λh=>h2 (hi.2 h.2).2;rw[e];simp[-List.map_map,hv,hR,hM,tp, wW, vw, BI]
 .have tp : (((m.af m.start).length:Int)=(m.next.length:Int))=False:=cf aa
  have vw :=cf h1;have e:=sZ (m:=m) λh=>h1 (hi.2 h.2).1;rw[e];simp[-List.map_map,hv,hR,hM,tp, vw]
variable{s t:Nat}
def JN(f:t<s) (e:cJ m c (t:Int)=cJ m c (s:Int)):∃n:Nat,kT (cJ m c (s:Int)) 0 (bF m c s).1=some n/\ix (bF m c s).2 (t:Int)=(n:Int):=by
 obtain⟨_,g,h⟩:=qt (m:=m) (c:=c) (s:=s);obtain⟨n,i,a⟩:=h t f;rw[e]at a;cases d:kT (cJ m c (s:Int)) 0 (bF m c s).1 with
 |none=>exact absurd (ke a) (A8 d)
 |some k=>
  obtain⟨_,_,b⟩:=va d;rw[Nat.sub_zero]at b;obtain⟨j,a⟩:=cM.1 a;obtain⟨l,b⟩:=cM.1 b;have:=(List.getElem_inj g).1 (a.trans b.symm);subst this;exact⟨n,rfl,i⟩
def ZJ(h:kT (cJ m c (s:Int)) 0 (bF m c s).1=some n):∃t:Nat,t<s/\cJ m c (t:Int)=cJ m c (s:Int):=by
 obtain⟨d,j,f⟩:=qt (m:=m) (c:=c) (s:=s);obtain⟨_,l,a⟩:=va h;rw[Nat.sub_zero]at a;obtain⟨t,g,e⟩:=cd.1 (d.HF (n:Int) aa aa)
 have o:=(lj (m:=m) (c:=c) (s:=s)).1;obtain⟨k,i,b⟩:=f t aa
 rw[aK g,e]at i;have:k=n:=aa
 subst this;rw[a]at b;exact⟨t,aa,(Option.some.inj b).symm⟩
def qB (m:ak) (c:List Int) (s T:Nat):Int:=if((List.range s).any λ(t:Nat)=>decide (T<=t)&&decide (cJ m c (t:Int)=cJ m c (s:Int)))=true then(((kT (cJ m c (s:Int)) 0 (bF m c s).1).getD 0:Nat):Int)else -1
variable{T:Nat}
def qC{p:Nat->Prop} [DecidablePred p]:((List.range s).any λ(t:Nat)=>decide (T<=t)&&decide (p t))=true↔∃t:Nat,t<s/\T<=t/\p t:=ab
def ZK:qB m c s s = -1:=by
 unfold qB;rw[ae];rw[qC (p:=λt=>cJ m c ((t:Nat):Int)=cJ m c (s:Int))];rintro⟨t,a,b,_⟩;omega
def ZL(h:T<s) (e:cJ m c (T:Int)=cJ m c (s:Int)):qB m c s T=ix (bF m c s).2 (T:Int):=by
 obtain⟨n,a,b⟩:=JN h e;unfold qB;rw[ah ((qC (p:=λt=>cJ m c ((t:Nat):Int)=cJ m c (s:Int))).2 ⟨T,h,aY _,e⟩),a,b];rfl
def ZM(h:T<s) (e:cJ m c (T:Int) ≠ cJ m c (s:Int)):qB m c s T=qB m c s (T+1):=by
 unfold qB;have:(((List.range s).any λ(t:Nat)=>decide (T<=t)&&decide (cJ m c (t:Int)=cJ m c (s:Int)))=true)↔(((List.range s).any λ(t:Nat)=>decide (T+1<=t)&&decide (cJ m c (t:Int)=cJ m c (s:Int)))=true):=by
  rw[qC (p:=λt=>cJ m c ((t:Nat):Int)=cJ m c (s:Int)),qC (p:=λt=>cJ m c ((t:Nat):Int)=cJ m c (s:Int))];constructor
  .rintro⟨t,d,f,a⟩
   rcases Nat.eq_or_lt_of_le f with g | i
   .subst g; exact absurd a e
   .exact⟨t,d,i, a⟩
  .rintro⟨t,d,f,a⟩;exact⟨t,d,aa,a⟩
 by_cases b:((List.range s).any λ(t:Nat)=>decide (T<=t)&&decide (cJ m c (t:Int)=cJ m c (s:Int)))=true
 .rw[ah b,ah (this.1 b)]
 .rw[ae b,ae λh=>b (this.2 h)]
def ZN:(0<=qB m c s 0/\(bF m c (s+1)).2=(bF m c s).2 ++ [qB m c s 0]/\(bF m c (s+1)).1=(bF m c s).1)\/(qB m c s 0 = -1/\(bF m c (s+1)).2=(bF m c s).2 ++ [((bF m c s).1.length:Int)]/\(bF m c (s+1)).1.length=(bF m c s).1.length+1):=by
 unfold qB;cases a:kT (cJ m c (s:Int)) 0 (bF m c s).1 with
 |some n=>
  left;obtain⟨t,b,d⟩:=ZJ a;rw[ah ((qC (p:=λt=>cJ m c ((t:Nat):Int)=cJ m c (s:Int))).2 ⟨t,b,aa,d⟩)]
  refine⟨ab,?_,?_⟩
  .show(match kT (cJ m c (s:Int)) 0 (bF m c s).1 with|some n=>_|none=>_:List (List Int)×List Int).2=_
   rw[a];rfl
  .show(match kT (cJ m c (s:Int)) 0 (bF m c s).1 with|some n=>_|none=>_:List (List Int)×List Int).1=_
   rw[a]
 |none=>
  right;have e:¬((List.range s).any λ(t:Nat)=>decide (0<=t)&&decide (cJ m c (t:Int)=cJ m c (s:Int)))=true:=λh=>by
   obtain⟨t,b,_,d⟩:=(qC (p:=λt=>cJ m c ((t:Nat):Int)=cJ m c (s:Int))).1 h;obtain⟨n,f,_⟩:=JN b d;rw[a]at f;simp at f
  rw[ae e];refine⟨rfl,?_,?_⟩
  .show(match kT (cJ m c (s:Int)) 0 (bF m c s).1 with|some n=>_|none=>_:List (List Int)×List Int).2=_
   rw[a]
  .show(match kT (cJ m c (s:Int)) 0 (bF m c s).1 with|some n=>_|none=>_:List (List Int)×List Int).1.length=_
   rw[a];simp
def Sam (m:ak) (c:List Int) (s t:Int) (a:Nat):Prop:=ix c s=ix c t/\∀x:Nat,x<a->ix (ix m.out s) (x:Int)=ix (ix m.out t) (x:Int)/\ix c (ix (ix m.next s) (x:Int))=ix c (ix (ix m.next t) (x:Int))
def ZO(a:m.Ok)(e:s<m.next.length) (f:t<m.next.length) (h:Sam m c (s:Int) (t:Int) m.inputs.toNat):cJ m c (s:Int)=cJ m c (t:Int):=by
 have g:=a.row (s:Int) aa aa
 have i:=a.row (t:Int) aa aa
 rw[sO a e f];refine⟨Hx aa λx b d=>?_,Hx ai λx b d=>?_⟩
 .obtain⟨x,rfl⟩:=dz b
  exact(h.2 x aa).1
 .rw[cP]at d
  obtain⟨x,rfl⟩:=dz b;rw[gz aa aa,gz aa aa]
  exact(h.2 x aa).2
def JO(a:m.Ok)(b:s<m.next.length) (d:t<m.next.length) (h:cJ m c (s:Int)=cJ m c (t:Int))(g:(x:Int)<m.inputs):ix (ix m.out (s:Int)) (x:Int)=ix (ix m.out (t:Int)) (x:Int)/\ix c (ix (ix m.next (s:Int)) (x:Int))=ix c (ix (ix m.next (t:Int)) (x:Int)):=by
 have i:=a.row (s:Int) aa aa
 have j:=a.row (t:Int) aa aa
 rw[sO a b d]at h;refine⟨by rw[h.1],?_⟩
 have e:ix ((ix m.next (s:Int)).map λt=>ix c t) (x:Int)=ix c (ix (ix m.next (s:Int)) (x:Int)):=gz aa aa
 have f:ix ((ix m.next (t:Int)).map λt=>ix c t) (x:Int)=ix c (ix (ix m.next (t:Int)) (x:Int)):=gz aa aa
 rw[<-e,<-f,h.2]
structure ZP (m:ak) (c:List Int) (s t:Nat) (p:Nat×Bool):Prop where
 le:(p.1:Int)<=m.inputs
 yes:p.2=true->Sam m c (s:Int) (t:Int) p.1
 no:p.2=false->cJ m c (t:Int) ≠ cJ m c (s:Int)
def ZQ (m:ak) (q:m.Ok) (c:List Int) (hc:c.length=m.next.length) (hr:Cq m c):L yR [m.av,iL c] []=some (.sl 0 m.next.length 0 m.next.length,[fE (bF m c m.next.length).2]):=by
 refine rR (WR rfl ?_);have eA:=q.states;have jQ:=q.inputs;have vQ:=q.len;simp[-ax];refine a6 (λs:Nat=>[(2,.int s),(7,.sl 0 s 0 s),(9,.int (bF m c s).1.length)]) (λs=>[fE (bF m c s).2]) (λs=>s<=m.next.length) (λs=>m.next.length-s) 0 (by simp[b5,bF]) aa ?_
 intro s s1;have j:=lj (m:=m) (c:=c) (s:=s)
 by_cases hs:s<m.next.length
 .have u : ((s:Int)<(c.length:Int))=True:=cq aa
  have f : (s<c.length)=True:=cq aa
  have g:=q.row (s:Int) aa aa
  have z:(s:Int)<(m.next.length:Int):=aa
  have A:(s:Int)<(m.out.length:Int):=aa
  have K:=ZN (m:=m) (c:=c) (s:=s);simp[-ax,u, f];refine⟨aa,?_⟩
  refine a6 (λT:Nat=>[(3,.int ((T:Int)-1)),(8,.int (qB m c s T))]) (λ_=>[fE (bF m c s).2]) (λT=>T<=s) (λT=>T) s (by simp[b5,ZK]) aa ?_
  intro T T1
  by_cases hT:0<T
  .obtain⟨t,rfl⟩:∃t,T=t+1:=⟨T-1,aa⟩
   have et:(((t+1:Nat):Int)-1)=(t:Int):=aa
   have B:(t:Int)<(m.next.length:Int):=aa
   have C:(t:Int)<(m.out.length:Int):=aa
   have M:((t:Int)<(c.length:Int))=True:=cq aa
   have H : (t<c.length)=True:=cq aa
   have i:=q.row (t:Int) aa aa
   rw[et];simp[-ax,u, f, M,H];refine a6 (λp:Nat×Bool=>[(4,.int p.1),(6,.bool p.2)]) (λ_=>[fE (bF m c s).2]) (λp=>ZP m c s t p) (λp=>(m.inputs-p.1).toNat) (0,decide (ix c (s:Int)=ix c (t:Int))) dL ⟨by show(0:Int)<=m.inputs;omega,λh=>⟨ch,λx Z=>aa⟩,λh e=>by have:=hr t s aa aa e;simp at h;exact h this.symm⟩ ?_
   rintro⟨a,b⟩ ⟨a1,a2,a3⟩;dsimp only at a1 a2 a3 ⊢;cases b with
   |false=>
    have N:=a3 rfl;have w:=ZM (m:=m) (c:=c) (s:=s) (T:=t) aa N
    by_cases r:(a:Int)<m.inputs
    .simp[-ax,r]
     refine⟨aa,aL t ?_ rfl aa aa⟩
     rw[w];simp
    .simp[-ax,r]
     refine⟨aa,aL t ?_ rfl aa aa⟩
     rw[w];simp
   |true=>
    have D:=a2 rfl
    by_cases r:(a:Int)<m.inputs
    .have O:=q.nx (s:Int) (a:Int) aa aa aa r
     have P:=q.nx (t:Int) (a:Int) aa aa aa r
     have E:ix (ix m.next (s:Int)) (a:Int)<(c.length:Int):=aa
     have F:ix (ix m.next (t:Int)) (a:Int)<(c.length:Int):=aa
     have l : s<m.next.length:=aa
     have n : t<m.next.length:=aa
     have o : s<m.out.length:=aa
     have d : t<m.out.length:=aa
     by_cases I:ix (ix m.out (s:Int)) (a:Int)=ix (ix m.out (t:Int)) (a:Int)
     .have y :=cq I
      by_cases J:ix c (ix (ix m.next (s:Int)) (a:Int))=ix c (ix (ix m.next (t:Int)) (a:Int))
      .have G :=cq J
       simp[-ax,r,g.1,g.2,i.1,i.2,z,A,B,C,l, n, o, d, O.1,E,P.1,F,y, G];refine⟨aa,aL (a+1,true) ab rfl ⟨by show((a+1:Nat):Int)<=_;omega,λ_=>⟨D.1,λx Z=>?_⟩,λh=>cy⟩ (by show _<_;omega)⟩
       by_cases ex:x=a
       .subst ex;exact⟨I,J⟩
       .exact D.2 x (by dsimp only at Z;omega)
      .have G :=cf J
       simp[-ax,r,g.1,g.2,i.1,i.2,z,A,B,C,l, n, o, d, O.1,E,P.1,F,y, G];refine⟨aa,aL (a+1,false) ab rfl ⟨by show((a+1:Nat):Int)<=_;omega,λh=>cy,λ_ e=>J ?_⟩ (by show _<_;omega)⟩
       exact(JO q aa aa e.symm r).2
     .have y :=cf I
      simp[-ax,r,g.1,g.2,i.1,i.2,z,A,B,C,l, n, o, d, O.1,E,P.1,F,y];refine⟨aa,aL (a+1,false) ab rfl ⟨by show((a+1:Nat):Int)<=_;omega,λh=>cy,λ_ e=>I ?_⟩ (by show _<_;omega)⟩
      exact(JO q aa aa e.symm r).1
    .have ea:a=m.inputs.toNat:=by omega
     subst ea;have Q:=ZO q (s:=s) (t:=t) aa aa D
     have w:=ZL (m:=m) (c:=c) (s:=s) (T:=t) aa Q.symm
     have R : (((m.inputs.toNat:Nat):Int)<m.inputs)=False:=cf aa
     have S:(t:Int)<((bF m c s).2.length:Int):=aa
     have U:(if(bF m c s).2=[]then c6.fN else c6.live) = .live:=by rw[ae];intro e;rw[e]at j;simp at j;omega
     have V:t<s:=aa
     simp[-ax,-Int.ofNat_toNat,R, S,U,j.1,V];refine⟨aa,aL t ?_ rfl aa aa⟩
     rw[w];simp
  .have:T=0:=by omega
   subst this;rcases K with⟨f1,W,X⟩|⟨f1,W,X⟩
   .have Y : (qB m c s 0<0)=False:=cf aa
    simp[-ax,Y, j.1];refine⟨by split<;>rfl,aa,aa,aL (s+1) (by simp[X]) ?_ aa aa⟩
    rw[W];simp
   .rw[f1]
    simp[-ax,j.1];refine⟨aa,by split<;>rfl,aa,aa,aL (s+1) (by simp[X]) ?_ aa aa⟩
    rw[W];simp
 .have:s=m.next.length:=by omega
  subst this;have u : ((m.next.length:Int)<(c.length:Int))=False:=cf aa
  have f : (m.next.length<c.length)=False:=cf aa
  simp[u, f]
def JP (m:ak) (h:m.fits):PC yB [m.av]=some (.bz [iL (if m.ao=0 then fL m m.next.length else[]),.int m.ao]):=by
 have hP:PC yM [m.av,.int m.next.length]=some (.bz [iL (if m.ao=0 then fL m m.next.length else[]),.int m.ao]):=by
  refine ba (WJ rfl ?_);have hv:=HD m h
  by_cases h0:m.ao=0
  case neg=>
   rw[ae h0];simp[hv,h0]
  have hm:=fQ h0;have eA:=hm.states;rw[ah h0,h0];rw[h0]at hv;generalize hZ:List.replicate m.next.length (0:Int)=Z at *
  have hZl:Z.length=m.next.length:=by rw[<-hZ];simp
  have hz0:fL m 0=Z:=hZ;simp[-ax,-List.map_replicate,hv,hZ];refine⟨aa,?_⟩
  refine a6 (λi:Nat=>[(4,.int i),(5,nK i m.next.length (fL m i))]) (λ_=>[⟨none,Z.map .int,.live⟩]) (λi=>i<=m.next.length) (λi=>m.next.length-i) 0 (by simp[b5,nK,hZl]) aa ?_
  intro i i1;have ZR:=Ik (m:=m) (i:=i);have BJ:view [⟨none,Z.map AV.int,.live⟩] false vd (nK i m.next.length (fL m i))=some (iL (fL m i)):=by
   cases i with
   |zero=>
    rw[hz0];exact iU (σ:=[⟨none,Z.map .int,.live⟩]) (fr:=false) (b:=0) (xs:=Z) (n:=m.next.length) (st:=.live) rfl ab hZl.symm
   |succ i=>rfl
  by_cases hi:i<m.next.length
  .have hF:=ZQ m hm (fL m i) ZR (Be hm)
   have sY:fL m (i+1)=(bF m (fL m i) m.next.length).2:=rfl
   have Ci:=(lj (m:=m) (c:=fL m i) (s:=m.next.length)).1
   have xx:=iU (σ:=[fE (bF m (fL m i) m.next.length).2]) (fr:=true) (b:=0) (xs:=(bF m (fL m i) m.next.length).2) (n:=m.next.length) (st:=if(bF m (fL m i) m.next.length).2=[]then .fN else .live) rfl dA Ci.symm
   simp[-ax,hi,BJ,hF,xx,aM];refine⟨aa,aL (i+1) (by simp[nK,sY]) rfl aa aa⟩
  .have:i=m.next.length:=by omega
   subst this;simp[BJ,aM]
 refine ba (Wr rfl ?_);simp[hP]
def qN (j:Nat):Nat:=if j=0 then 4 else 2*j+6
def qO (j:Nat):Nat:=if j=0 then 5 else 2*j+7
def La (df:Int) (K:Nat) (N O:List (List Int)):List aj:=match N,O with
 |a::A,o::O=>⟨some 4,[.int df,.int 0,.sl 6 (A.length+1) 0 (A.length+1),.sl 7 (A.length+1) 0 (A.length+1)],.live⟩::Zb a::Zb o::⟨none,rws 0 qN (A.length+1) K,.live⟩::⟨none,rws 0 qO (A.length+1) K,.live⟩::jZ A O
 |_,_=>[⟨some 4,[.int df,.int 0,.ag,.ag],.live⟩]
theorem BK:La df K (a::A) (o::O)=⟨some 4,[.int df,.int 0,.sl 6 (A.length+1) 0 (A.length+1),.sl 7 (A.length+1) 0 (A.length+1)],.live⟩::Zb a::Zb o::⟨none,rws 0 qN (A.length+1) K,.live⟩::⟨none,rws 0 qO (A.length+1) K,.live⟩::jZ A O:=rfl
theorem JQ:La df K [] []=[⟨some 4,[.int df,.int 0,.ag,.ag],.live⟩]:=rfl
def JR{f:aj}(b:A.length=O.length) (g:∀x∈a::A,x.length=K) (h:∀x∈o::O,x.length=K):en (B0::B1::B2::f::Zb a::Zb o::⟨none,rws 0 qN (A.length+1) K,.live⟩::⟨none,rws 0 qO (A.length+1) K,.live⟩::jZ A O) 6 qN (a::A)/\en (B0::B1::B2::f::Zb a::Zb o::⟨none,rws 0 qN (A.length+1) K,.live⟩::⟨none,rws 0 qO (A.length+1) K,.live⟩::jZ A O) 7 qO (o::O):=by
 refine⟨⟨?_,λj d=>?_⟩,⟨?_,λj d=>?_⟩⟩
 .show some (aj.mk none (rws 0 qN (A.length+1) K) .live)=_
  unfold rws
  congr 2
  refine mT λj d=>?_;have:=g _ (bt (l:=a::A) (n:=(j:Int)) aa (by simp at d ⊢;omega))
  rw[this];rfl
 .cases j with
  |zero=>rfl
  |succ j=>
   have e:qN (j+1)=2*j+8:=by unfold qN;rw[ae aa];omega
   rw[e];show ay (jZ A O) (2*j)=_;rw[(nT b (by simpa using d)).1]
   simp[ix]
 .show some (aj.mk none (rws 0 qO (A.length+1) K) .live)=_
  unfold rws;rw[b]
  congr 2
  refine mT λj d=>?_;have:=h _ (bt (l:=o::O) (n:=(j:Int)) aa (by simp at d ⊢;omega))
  rw[this];rfl
 .cases j with
  |zero=>rfl
  |succ j=>
   have e:qO (j+1)=2*j+9:=by unfold qO;rw[ae aa];omega
   rw[e];show ay (jZ A O) (2*j+1)=_;rw[(nT b (by simp at d;omega)).2]
   simp[ix]
structure Rq (m:ak) (c:List Int) (i a:Nat) (q nb:List Int):Prop where
 nd:(q.map λs=>ix c s).Nodup
 fS:∀s∈q,0<=s/\s<(m.next.length:Int)
 get:∀s∈q,∃w,(∀x∈w,0<=x/\x<m.inputs)/\m.run m.start w=s
 fst:ix c m.start∈q.map λs=>ix c s
 len:nb.length=m.next.length
 num:∀v:Int,0<=v->v<(m.next.length:Int)->(ix nb v<0↔v∉q.map λs=>ix c s)
 done:∀j b:Nat,j<q.length->(j<i\/j=i/\b<a)->(b:Int)<m.inputs->ix c (ix (ix m.next (ix q (j:Int))) (b:Int))∈q.map λs=>ix c s
variable{q nb:List Int}
def Rq.le{a:Nat}(h:Rq m c i a q nb):q.length<=m.next.length:=lg m.next.length (Bc h.nd) h.fS
def Rq.cls(h:Rq m c i 0 q nb) (hi:q.length<=i):Rcl m c q:=by
 refine⟨h.nd,h.fS,h.get,h.fst,λs hs a a0 a1=>?_⟩;obtain⟨j,Y,rfl⟩:=cd.1 hs;obtain⟨b,rfl⟩:=dz a0;have:=h.done j b Y (.inl aa) a1
 rwa [aK Y]at this
def Rq.next{a:Nat}(h:Rq m c i a q nb) (ha:m.inputs<=(a:Int)):Rq m c (i+1) 0 q nb:=
 ⟨h.nd,h.fS,h.get,h.fst,h.len,h.num,λj b hj hb Y=>h.done j b hj aa Y⟩
def Rq.old{m:ak}{c:List Int}{i a:Nat}{q nb:List Int}(h:Rq m c i a q nb) (hi:i<q.length){v:Int}(hv:ix c (ix (ix m.next (ix q (i:Int))) (a:Int))=v) (hr:0<=v/\v<(m.next.length:Int)) (hn:¬ix nb v<0):Rq m c i (a+1) q nb:=by
 refine⟨h.nd,h.fS,h.get,h.fst,h.len,h.num,λj b hj hb Y=>?_⟩
 by_cases e:j=i/\b=a
 .obtain⟨rfl,rfl⟩:=e
  rw[hv];exact Classical.not_not.1 λhc=>hn ((h.num v hr.1 hr.2).2 hc)
 .exact h.done j b hj aa Y
def Rq.new{m:ak}(hm:m.Ok){c:List Int}{i a:Nat}{q nb:List Int}(h:Rq m c i a q nb) (hi:i<q.length) (ha:(a:Int)<m.inputs){t v:Int}(ht:ix (ix m.next (ix q (i:Int))) (a:Int)=t) (hv:ix c t=v) (hr:0<=v/\v<(m.next.length:Int)) (hn:ix nb v<0):Rq m c i (a+1) (q ++ [t]) (nb.set v.toNat (q.length:Int)):=by
 have re:=(h.num v hr.1 hr.2).1 hn;have Y:=h.fS _ (bt (l:=q) (n:=(i:Int)) aa aa)
 have Cn:=hm.nx _ (a:Int) Y.1 Y.2 aa ha
 rw[ht]at Cn;refine⟨?_,λs Y=>?_,λs Y=>?_,?_,by simp[h.len],λu u0 u1=>?_,λj b hj hb jQ=>?_⟩
 .rw[eE,List.nodup_append]
  exact⟨h.nd,ab,λx hx y hy=>by simp at hy;subst hy;rw[hv];exact λe=>re (e▸hx)⟩
 .rcases cp.1 Y with Y|Y
  .exact h.fS s Y
  .simp at Y;subst Y;exact Cn
 .rcases cp.1 Y with Y|Y
  .exact h.get s Y
  .simp at Y;subst Y
   obtain⟨w,hw,e⟩:=h.get _ (bt (l:=q) (n:=(i:Int)) aa aa)
   refine⟨w ++ [(a:Int)],λx hx=>?_,?_⟩
   .rcases cp.1 hx with hx|hx
    .exact hw x hx
    .simp at hx;omega
   .rw[iV,e];exact ht
 .rw[eE];exact List.mem_append_left _ h.fst
 .have hl:=h.len
  rw[eE,cp,not_or]
  by_cases e:u=v
  .subst e
   have:ix (nb.set u.toNat (q.length:Int)) u=(q.length:Int):=by
    obtain⟨k,rfl⟩:=dz u0;rw[aK ai];simp
   rw[this];constructor
   .intro h'; omega
   .rintro⟨_,h'⟩;simp[hv]at h'
  .have:ix (nb.set v.toNat (q.length:Int)) u=ix nb u:=by
    obtain⟨k,rfl⟩:=dz u0;rw[aK ai,aK aa,List.getElem_set_ne aa]
   rw[this,h.num u u0 u1];constructor
   .intro h'; exact⟨h', by simp[hv];exact e⟩
   .exact λh' =>h'.1
 .rw[eE,cp]
  rw[ez,List.length_singleton]at hj
  by_cases ej:j=q.length
  .subst ej;omega
  .rw[a7 aa aa]
   by_cases e:j=i/\b=a
   .obtain⟨rfl,rfl⟩:=e
    right;simp[ht]
   .exact .inl (h.done j b aa aa jQ)
structure RqI (m:ak) (c:List Int) (i:Nat) (p:Nat×List Int×List Int×List Int×List Int):Prop where
 q:Rq m c i p.1 p.2.1 p.2.2.1
 i:i<p.2.1.length
 a:(p.1:Int)<=m.inputs
 l1:p.2.2.2.1.length=p.1
 l2:p.2.2.2.2.length=p.1
structure RqO (m:ak) (c:List Int) (p:Nat×List Int×List Int×List (List Int)×List (List Int)):Prop where
 q:Rq m c p.1 0 p.2.1 p.2.2.1
 i:p.1<=p.2.1.length
 l1:p.2.2.2.1.length=p.1
 l2:p.2.2.2.2.length=p.1
 k1:∀x∈p.2.2.2.1,x.length=m.inputs.toNat
 k2:∀x∈p.2.2.2.2,x.length=m.inputs.toNat
def ZS (m:ak) (h:m.fits) (hv:m.ao=0):LX L se [m.av] [] (λv σ' =>∃M:ak,bu σ' false v=some (.bz [M.av,.int 0])/\(M.next.length=m.next.length↔gJ m)):=by
 refine Hd rfl ?_;have P:=fQ hv;have eA:=P.states;have jQ:=P.inputs;have vQ:=P.len;have B:=P.start;have hC:=JP m h;rw[ah hv,hv]at hC;obtain⟨k,hk⟩:=Yn P;have pC:=hk.len;have hcr:∀s:Int,0<=s->s<(m.next.length:Int)->0<=ix (fL m m.next.length) s/\ix (fL m m.next.length) s<(m.next.length:Int):=λs s0 s1=>by
  have:=vf hk s0 s1;have:=hk.can.len;omega
 generalize fL m m.next.length=c at *
 have hz:∀i,i<m.next.length->(List.replicate i (-1:Int)++List.replicate (m.next.length-i) 0).set i (-1)=List.replicate (i+1) (-1)++List.replicate (m.next.length-(i+1)) 0:=λi hi=>by
  rw[iG,ae ab,List.length_replicate,Nat.sub_self,show m.next.length-i=(m.next.length-(i+1))+1 by omega,mH,List.set_cons_zero,List.replicate_succ', fO];rfl
 simp[-ax,-List.map_replicate,hC];refine⟨aa,?_⟩
 refine a6 (λi:Nat=>[(4,.int i)]) (λi=>[⟨some 4,[.int 0,.int 0,.ag,.ag],.live⟩,Zb [m.start],Zb (List.replicate i (-1)++List.replicate (m.next.length-i) 0)]) (λi=>i<=m.next.length) (λi=>m.next.length-i) 0 (by simp[-List.map_replicate,b5]) aa ?_
 intro i i1;have Q:(List.replicate i (-1:Int)++List.replicate (m.next.length-i) 0).length=m.next.length:=ai
 by_cases hi:i<m.next.length
 .have hzi:=hz i hi
  generalize List.replicate i (-1:Int)++List.replicate (m.next.length-i) 0=X at *
  simp[-ax,-List.map_set,hi,Q];refine⟨aa,aL (i+1) ab (by rw[hzi];rfl) aa aa⟩
 have:i=m.next.length:=aa
 subst this;have hX:List.replicate m.next.length (-1:Int)++List.replicate (m.next.length-m.next.length) 0=List.replicate m.next.length (-1):=ab
 have hXi:∀v:Int,0<=v->v<(m.next.length:Int)->ix (List.replicate m.next.length (-1:Int)) v = -1:=λv v0 v1=>by
  obtain⟨v,rfl⟩:=dz v0;rw[aK ai];simp
 rw[hX]at Q ⊢;generalize List.replicate m.next.length (-1:Int)=X at *
 have K0:=hcr m.start B.1 B.2;have oc:m.start<(c.length:Int):=aa
 have XI:Rq m c 0 0 [m.start] (X.set (ix c m.start).toNat 0):=by
  refine⟨ab,by simpa using B,λs E=>?_,ab,by simp[Q],λv v0 v1=>?_,λj b hj hb=>aa⟩
  .simp at E;subst E;exact⟨[],ab,rfl⟩
  .obtain⟨v,rfl⟩:=dz v0
   have hXv:=hXi (v:Int) aa v1
   rw[aK aa]at hXv
   rw[aK ai,List.getElem_set]
   by_cases e:(ix c m.start).toNat=v
   .rw[ah e];simp;omega
   .rw[ae e,hXv];simp;omega
 simp[-ax,-List.map_set,Q,B.1,oc,K0.1,K0.2];refine a6 (λp:Nat×List Int×List Int×List (List Int)×List (List Int)=>[(7,.int p.1),(8,.sl 1 p.2.1.length 0 p.2.1.length)]) (λp=>⟨some 4,[.int 0,.int 0,.ag,.ag],.live⟩::Zb p.2.1::Zb p.2.2.1::La m.inputs m.inputs.toNat p.2.2.2.1 p.2.2.2.2) (λp=>RqO m c p) (λp=>m.next.length-p.1) (0,[m.start],X.set (ix c m.start).toNat 0,[],[]) (by simp[-List.map_set,b5,JQ]) ⟨XI,ab,rfl,rfl,ab,ab⟩ ?_
 rintro⟨i,q,nb,N,O⟩ y;have g:=y.q;have ZT:=y.i;have u:=y.l1;have r:=y.l2;have S:=y.k1;have U:=y.k2;have J:=y.q.le;dsimp only at g ZT u r S U J ⊢;clear y
 by_cases w:i<q.length
 .generalize hR:La m.inputs m.inputs.toNat N O=R at *
  simp[-ax,w];refine a6 (λp:Nat×List Int×List Int×List Int×List Int=>[(8,.sl 1 p.2.1.length 0 p.2.1.length),(9,.int p.1),(11,.sl (R.length+1+1+1) p.1 0 p.1),(12,.sl (R.length+1+1+1+1) p.1 0 p.1)]) (λp=>⟨some 4,[.int 0,.int 0,.ag,.ag],.live⟩::Zb p.2.1::Zb p.2.2.1::(R ++ [fE p.2.2.2.1,fE p.2.2.2.2])) (λp=>RqI m c i p) (λp=>m.inputs.toNat-p.1) (0,q,nb,[],[]) dL ⟨g,w,aI,rfl,rfl⟩ ?_
  rintro⟨a,q,nb,nx,K⟩ y;have g:=y.q;have w:=y.i;have ZU:=y.a;have d:=y.l1;have f:=y.l2;have J:=y.q.le;dsimp only at g w ZU d f J ⊢;clear y;have E:=g.fS _ (bt (l:=q) (n:=(i:Int)) aa aa)
  have C:=P.row _ E.1 E.2;have wq:ix q (i:Int)<(m.out.length:Int):=aa
  have V:=g.len
  by_cases ha:(a:Int)<m.inputs
  .have F:=P.nx _ (a:Int) E.1 E.2 aa ha
   have G:=hcr _ F.1 F.2;have W:ix (ix m.next (ix q (i:Int))) (a:Int)<(c.length:Int):=aa
   generalize ht:ix (ix m.next (ix q (i:Int))) (a:Int)=t at *
   by_cases D:ix nb (ix c t)<0
   .have z :=cq D
    have oi:=g.new P w ha ht rfl G D;have hqi:ix (q ++ [t]) (i:Int)=ix q (i:Int):=a7 aa aa
    have hil:(i<q.length+1)=True:=cq aa
    simp[-ax,-List.map_set,-List.map_append,ha,w,E.1,E.2,C.1,C.2,ht,F.1,F.2,W,G.1,G.2,V,z, wq,↓ly,↓vq,↓lz,↓BD,d,f,hqi,hil];refine⟨aa,by split<;>rfl,aa,aa,by split<;>rfl,aa,aa,aL (a+1,q ++ [t],nb.set (ix c t).toNat (q.length:Int),nx ++ [ix (nb.set (ix c t).toNat (q.length:Int)) (ix c t)],K ++ [ix (ix m.out (ix q (i:Int))) (a:Int)]) (by simp[-List.map_set]) (by simp[-List.map_set]) ⟨oi,by dsimp only;simp;omega,aI,cW,by simp[f]⟩ aI⟩
   .have z :=cf D
    have hold:=g.old w (v:=ix c t) (by rw[ht]) G D
    simp[-ax,ha,w,E.1,E.2,C.1,C.2,ht,F.1,F.2,W,G.1,G.2,V,z, wq,↓ly,↓vq,↓lz,↓BD,d,f];refine⟨by split<;>rfl,aa,by split<;>rfl,aa,aa,aL (a+1,q,nb,nx ++ [ix nb (ix c t)],K ++ [ix (ix m.out (ix q (i:Int))) (a:Int)]) ab ab ⟨hold,w,aI,cW,by simp[f]⟩ aI⟩
  .have ea:a=m.inputs.toNat:=by omega
   subst ea;have Y :=g.next aa
   have Z:(nx=[])=False:=cf (by intro e;rw[e]at d;simp at d;omega)
   have ZV:(K=[])=False:=cf (by intro e;rw[e]at f;simp at f;omega)
   subst hR;rcases N with _|⟨a0,A⟩
   .have hO:O=[]:=fY (by rw[r,<-u];rfl)
    subst hO;have A2:i=0:=by rw[<-u];rfl
    rw[JQ];simp[-ax,-Int.ofNat_toNat,ha,Z,ZV,d,f];refine⟨aa,aL (i+1,q,nb,[nx],[K]) ab rfl ⟨Y, by dsimp only;omega,by simp[A2],by simp[A2],cW,by simp[f]⟩ aI⟩
   .rcases O with _|⟨o0,O⟩
    .rw[<-u]at r;simp at r
    have H:A.length=O.length:=by rw[<-u]at r;simpa using r.symm
    have hT:=BF H;have Cu:=JE (a:=nx) (o:=K) H;rw[BK];generalize jZ A O=T at *;simp[-ax,-Int.ofNat_toNat,ha,Z,ZV,d,f,kD];have e1:qN (A.length+1)=T.length+8:=by unfold qN;rw[ae aa];omega
    have e2:qO (A.length+1)=T.length+9:=by unfold qO;rw[ae aa];omega
    have hA1:A.length+1=i:=by rw[<-u];rfl
    have hO1:O.length+1=i:=by rw[<-r];rfl
    refine⟨aa,aa,aL (i+1,q,nb,(a0::A) ++ [nx],(o0::O) ++ [K]) ab ?_ ⟨Y, by dsimp only;omega,by dsimp only;simp;omega,by dsimp only;simp;omega,λx I=>?_,λx I=>?_⟩ aI⟩
    .have ZW : fE nx=Zb nx:=by
      show(⟨none,nx.map .int,if nx=[]then .fN else .live⟩:aj)=_
      rw[ae (by rw[Z];exact id)]
     have ZX : fE K=Zb K:=by
      show(⟨none,K.map .int,if K=[]then .fN else .live⟩:aj)=_
      rw[ae (by rw[ZV];exact id)]
     dsimp only;rw[List.cons_append,List.cons_append,BK,Cu,List.length_append,List.length_singleton,oP (n:=A.length+1),oP (n:=A.length+1),e1,e2]
     first|rw[ZW, ZX]|skip
    .rcases cp.1 I with I|I
     .exact S x I
     .simp at I;rw[I,d]
    .rcases cp.1 I with I|I
     .exact U x I
     .simp at I;rw[I,f]
 .have pC:=g.cls aa
  have ZY:=Yl P hk pC;have ZZ : i=q.length:=aa
  subst ZZ;have hN0:0<N.length:=by
   rw[u];obtain⟨s,E,_⟩:=cB.1 g.fst;exact fc.2 (List.ne_nil_of_mem E)
  rcases N with _|⟨a0,A⟩
  .simp at hN0
  rcases O with _|⟨o0,O⟩
  .rw[<-u]at r;simp at r
  have H:A.length=O.length:=by rw[<-u]at r;simpa using r.symm
  rw[BK];have v1:∀B0 B1 B2 B3,view (B0::B1::B2::B3::Zb a0::Zb o0::⟨none,rws 0 qN (A.length+1) m.inputs.toNat,.live⟩::⟨none,rws 0 qO (A.length+1) m.inputs.toNat,.live⟩::jZ A O) false 11 (.sl 6 (A.length+1) 0 (A.length+1))=some (aW (a0::A)):=λB0 B1 B2 B3=>kE (k:=8) (JR H S U).1 rfl;have v2:∀B0 B1 B2 B3,view (B0::B1::B2::B3::Zb a0::Zb o0::⟨none,rws 0 qN (A.length+1) m.inputs.toNat,.live⟩::⟨none,rws 0 qO (A.length+1) m.inputs.toNat,.live⟩::jZ A O) false 11 (.sl 7 (A.length+1) 0 (A.length+1))=some (aW (o0::O)):=λB0 B1 B2 B3=>kE (k:=8) (JR H S U).2 (by simp[H])
  simp[lx,v1,v2];refine⟨⟨m.inputs,0,a0::A,o0::O⟩,⟨rfl,rfl,rfl,rfl⟩,?_⟩;show(a0::A).length=m.next.length↔_
  rw[u];exact ZY
def Z0 (m:ak) (h:m.fits):PC yd [m.av]=some (.bool m.fT):=by
 refine ba (VT rfl ?_)
 by_cases b:m.ao=0
 .obtain⟨v,l, n,M,o,i⟩:=jz (ZS m h b)
  have f:PC se [m.av]=some (.bz [M.av,.int 0]):=by simp only[PC,jN,n];exact o
  by_cases g:M.next.length=m.next.length
  .have e:=oU.2 ⟨b,i.1 g⟩
   have a : ((M.next.length:Int)=(m.next.length:Int))=True:=cq aa
   rw[e];simp[f,g,a]
  .have e:=sZ (m:=m) λh=>g (i.2 h.2)
   have a : ((M.next.length:Int)=(m.next.length:Int))=False:=cf aa
   have d :=cf g;rw[e];simp[f,a, d]
 .have f:PC se [m.av]=some (.bz [ak.av ⟨0,0,[],[]⟩,.int m.ao]):=by
   refine ba (Hd rfl ?_);have j:=JP m h;rw[ae b]at j;simp[j,b,lx]
  have e:=sZ (m:=m) λh=>b h.1;rw[e];simp[f,b]
def ak.fU (m:ak) (b:Bool):Int:=if m.ao ≠ 0 then m.ao else if b=true then 0 else 1
def Z1 (m:ak) (h:m.fits):PC yb [m.av]=some (.int (m.fU m.fT)):=by
 refine ba (VO rfl ?_);have a:=HD m h;have b:=Z0 m h
 by_cases d:m.ao=0
 .rw[d]at a
  cases e:m.fT with
  |true=>rw[e]at b;simp[a,b,ak.fU,d]
  |false=>rw[e]at b;simp[a,b,ak.fU,d]
 .simp[a,d,ak.fU]
def Z2 (m:ak) (h:m.fits):PC yx [m.av]=some (.int (m.fU m.fT)):=by
 refine ba (Wc rfl ?_);have a:=fD m h;have b:=ZI m h;unfold ak.fU
 by_cases d:m.ao=0
 .rw[d]at a
  cases e:m.fT with
  |false=>rw[e]at b;simp[a,b,d]
  |true=>rw[e]at b;simp[a,b,d]
 .simp[a,d]
def Z3{a:List AV}{z x:AV}:putAt (a++List.replicate (n+1) z) a.length [x]=(a ++ [x])++List.replicate n z:=by
 simp only[putAt,mH];simp
def Z4{x:Int}(b:k=a.length):putAt (a.map AV.int++List.replicate (n+1) (.int 0)) k [.int x]=(a ++ [x]).map AV.int++List.replicate n (.int 0):=by
 have:=Z3 (a:=a.map AV.int) (n:=n) (z:=.int 0) (x:=.int x);rw[cP]at this;rw[b,this,eE];rfl
def JS (m:ak) (g:m.Ok) (s:Int) (B:0<=s/\s<(m.next.length:Int)) (w:List Int) (I:(w.length:Int)<=1000000) (q:∀x∈w,0<=x/\x<m.inputs):PC uH [m.av,.int s,iL w]=some (iL (m.outs s w)):=by
 refine ba (Wy rfl ?_);simp[-List.map_replicate];refine⟨aa,?_⟩
 refine a6 (λi:Nat=>[(1,.int (m.run s (w.take i))),(3,.int i),(6,.sl 0 w.length 0 i)]) (λi=>[⟨none,(m.outs s (w.take i)).map .int++List.replicate (w.length-i) (.int 0),.live⟩]) (λi=>i<=w.length) (λi=>w.length-i) 0 (by simp[b5,ak.run,ak.outs]) aa ?_
 intro i C;have D:=g.len
 by_cases r:i<w.length
 .have u:=Hw r
  have h:∀x∈w.take i,0<=x/\x<m.inputs:=λx E=>q x (List.mem_of_mem_take E);have f:=jD g B h;have y:=q _ (bt (l:=w) (n:=(i:Int)) aa aa)
  have z:(m.outs s (w.take i)).length=i:=by rw[jR,ji,Nat.min_eq_left aa]
  have F:m.run s (w.take (i+1))=ix (ix m.next (m.run s (w.take i))) (ix w (i:Int)):=by rw[u,iV];rfl
  have G:m.outs s (w.take (i+1))=m.outs s (w.take i) ++ [ix (ix m.out (m.run s (w.take i))) (ix w (i:Int))]:=by rw[u,eZ];rfl
  have A:=Z4 (a:=m.outs s (w.take i)) (n:=w.length-(i+1)) (x:=ix (ix m.out (m.run s (w.take i))) (ix w (i:Int))) z.symm;rw[show w.length-(i+1)+1=w.length-i by omega,<-G]at A
  have hlen:((m.outs s (w.take i)).map AV.int++List.replicate (w.length-i) (AV.int 0)).length=w.length:=by simp[z];omega
  generalize J:(m.outs s (w.take i)).map AV.int++List.replicate (w.length-i) (AV.int 0)=X at *;generalize m.run s (w.take i)=R at *;have d:=g.row R f.1 f.2;have j:R<(m.out.length:Int):=aa
  have o:(w.length=i)=False:=cf aa
  have e : (i=w.length)=False:=cf aa
  simp[-ax,r,f.1,f.2,j,y.1,y.2,d.1,d.2,hlen,o,e];exact⟨aa,aa,aa,aL (i+1) (by simp[F]) (by rw[A]) aa aa⟩
 .have H:i=w.length:=by omega
  subst H;have p:=iU (σ:=[⟨none,(m.outs s w).map .int,.live⟩]) (fr:=false) (b:=0) (xs:=m.outs s w) (n:=w.length) (st:=.live) rfl (by simp[jR]) (by rw[jR])
  simp[p]
def Z5 (m:ak) (b:m.Ok) (s t:Int) (e:0<=s/\s<(m.next.length:Int)) (f:0<=t/\t<(m.next.length:Int)) (w:List Int) (a:(w.length:Int)<=1000000) (d:∀x∈w,0<=x/\x<m.inputs):PC uG [iL w,.ar m.av,.ar (.int s),.ar (.int t)]=some (.bool (decide (m.outs s w ≠ m.outs t w))):=by
 refine ba (Wx rfl ?_);have g:=JS m b s e w a d;have h:=JS m b t f w a d;have i:=wj (m.outs s w) (m.outs t w) (by rw[jR];exact a) (by rw[jR];omega)
 simp[g,h,i]
def Z6{a:Type}{p:a->Bool}{l:List a}(h:∀x∈l,p x=false):l.any p=false:=by
 rw[List.any_eq_false];intro x b;simp[h x b]
def Z7 (m:ak) (q:m.Ok) (ws:List (List Int)) (s t:Int) (r:0<=s/\s<(m.next.length:Int)) (u:0<=t/\t<(m.next.length:Int)) (A:(ws.length:Int)<=1000000) (y:∀w∈ws,(w.length:Int)<=1000000) (h:∀w∈ws,∀x∈w,0<=x/\x<m.inputs):PC yG [aW ws,.func uG [.ar m.av,.ar (.int s),.ar (.int t)]]=some (.bool (m.sep s t ws)):=by
 refine ba (Ww rfl ?_);simp[-ax];refine a6 (λi:Nat=>[(2,.int i)]) (λ_=>[]) (λi=>i<=ws.length/\∀j:Nat,j<i->m.outs s (ix ws (j:Int))=m.outs t (ix ws (j:Int))) (λi=>ws.length-i) 0 dL ⟨aa,λj o=>aa⟩ ?_
 rintro i ⟨z,d⟩
 by_cases p:i<ws.length
 .have a:=bt (l:=ws) (n:=(i:Int)) aa aa
  have f:=Z5 m q s t r u (ix ws (i:Int)) (y _ a) (h _ a)
  by_cases g:m.outs s (ix ws (i:Int))=m.outs t (ix ws (i:Int))
  .have b : decide (m.outs s (ix ws (i:Int)) ≠ m.outs t (ix ws (i:Int)))=false:=by simpa using g
   rw[b]at f;simp[-ax,p,f];refine⟨aa,aL (i+1) ab rfl ⟨aa,λj o=>?_⟩ aa⟩
   by_cases e:j=i
   .subst e;exact g
   .exact d j aa
  .have b : decide (m.outs s (ix ws (i:Int)) ≠ m.outs t (ix ws (i:Int)))=true:=by simpa using g
   rw[b]at f;have:m.sep s t ws=true:=nQ.2 ⟨_,a,g⟩;simp[-ax,p,f,this]
 .have:m.sep s t ws=false:=by
   unfold ak.sep;refine Z6 λw h=>?_;obtain⟨j,o,rfl⟩:=cd.1 h;have:=d j aa
   rw[aK o]at this;simpa using this
  simp[-ax,p,this]
def Z8 (m:ak) (a:m.Ok) (ws:List (List Int)) (s t:Int) (b:0<=s/\s<(m.next.length:Int)) (d:0<=t/\t<(m.next.length:Int)) (e:(ws.length:Int)<=1000000) (f:∀w∈ws,(w.length:Int)<=1000000) (g:∀w∈ws,∀x∈w,0<=x/\x<m.inputs):PC sf [m.av,aW ws,.int s,.int t]=some (.bool (m.sep s t ws)):=by
 refine ba (Wd rfl ?_);have h:=Z7 m a ws s t b d e f g;simp[h]
end Ab
