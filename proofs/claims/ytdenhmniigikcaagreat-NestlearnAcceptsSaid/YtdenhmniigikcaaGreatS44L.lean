/- Classes with their first words, in memory. Single: its end. Single: the first words of the classes are chosen. Single: classes and first words. Condition: none. -/
import Derived.Test.YtdenhmniigikcaaGreatS44H
set_option linter.all false
set_option maxRecDepth 100000
set_option maxHeartbeats 4000000
namespace Ab
abbrev T3:=AV×AV×AV
def t3 (t:T3):List AV:=[t.1,t.2.1,t.2.2]
def fJ (l:List T3):List AV:=l.flatMap t3
theorem lu:∀{l:List T3},(fJ l).length=3*l.length
 | []=>rfl
 |x::l=>by
  have:=lu (l:=l);show(t3 x++fJ l).length=_;rw[bz,this];show 3+_=_;simp;omega
theorem anE{l m:List T3}:fJ (l++m)=fJ l++fJ m:=by simp[fJ]
theorem xk{l:List T3}{i:Nat}(h:i<l.length):fJ l=fJ (l.take i)++([l[i].1,l[i].2.1,l[i].2.2]++fJ (l.drop (i+1))):=by
 have e:l=l.take i++l[i]::l.drop (i+1):=by
  rw[<-List.drop_eq_getElem_cons h,oR]
 exact(congrArg fJ e).trans anE
theorem FN{l:List T3}{i:Nat}(h:i<l.length):(fJ (l.take i)).length=i*3:=by rw[lu,mB,q8 (by omega),Nat.mul_comm]
theorem KR{l:List T3}{i:Nat}(h:i<l.length){t:T3}:fJ (l.set i t)=fJ (l.take i)++([t.1,t.2.1,t.2.2]++fJ (l.drop (i+1))):=by
 have h' : i<(l.set i t).length:=by simpa using h
 rw[xk h', List.take_set_of_le (by omega),List.drop_set_of_lt (by omega)]
 simp
theorem anF{l:List T3}{i:Nat}(h:i<l.length):(fJ l)[i*3]? = some l[i].1/\(fJ l)[i*3+1]? = some l[i].2.1/\(fJ l)[i*3+2]? = some l[i].2.2:=by
 have hl:=FN h;rw[xk h];refine⟨?_,?_,?_⟩
 ·rw[gv (by omega),hl,Nat.sub_self];rfl
 ·rw[gv (by omega),hl,Nat.add_sub_cancel_left];rfl
 ·rw[gv (by omega),hl,Nat.add_sub_cancel_left];rfl
theorem anG{l:List T3}{i:Nat}(h:i<l.length){t:T3}:nY (fJ l) (i*3) [t.1,t.2.1,t.2.2]=fJ (l.set i t):=by
 have hl:=FN h;rw[<-vI (by rw[lu];simp;omega)]
 unfold putAt;rw[KR h];rw[show(fJ l).take (i*3)=fJ (l.take i)by rw[xk h,List.take_append_of_le_length (by omega),gu (by omega)],xk h,List.drop_append,hl,jJ (l:=fJ (l.take i)) (by simp;omega)]
 simp
theorem anH{l:List T3}{i:Nat}(h:i<l.length){x:AV}:nY (fJ l) (i*3+1) [x]=fJ (l.set i (l[i].1,x,l[i].2.2)):=by
 have hl:=FN h;rw[rP,KR h,xk h,List.set_append,ab (by omega),hl,Nat.add_sub_cancel_left]
 rfl
theorem anI{l:List T3}{i:Nat}(h:i<l.length){x:AV}:nY (fJ l) (i*3+2) [x]=fJ (l.set i (l[i].1,l[i].2.1,x)):=by
 have hl:=FN h;rw[rP,KR h,xk h,List.set_append,ab (by omega),hl,Nat.add_sub_cancel_left]
 rfl
theorem FO:∀{l:List T3},chunk (some 3) l.length (fJ l)=l.map λt=>.agg (t3 t)
 | []=>rfl
 |x::xs=>by
  have e:=FO (l:=xs);rw[dd,<-e];rfl
def rU (x:eP):List eP->List eP
 | []=>[x]
 |y::r=>if aW x.2.2 y.2.2<=0 then x::y::r else y::rU x r
def dt:List eP->List eP
 | []=>[]
 |x::r=>rU x (dt r)
theorem KS (x:eP):∀l,(rU x l).Perm (x::l)
 | []=>.refl _
 |y::r=>by
  unfold rU;split
  ·exact .refl _
  ·exact((KS x r).cons y).trans (.swap x y r)
theorem qA:∀l,(dt l).Perm l
 | []=>.refl _
 |x::r=>(KS x _).trans ((qA r).cons x)
theorem anJ (a b:eP):Nr (mg a) (mg b)=decide (aW a.2.2 b.2.2<=0):=by
 show tX aW (iL a.2.2) (iL b.2.2)=_;unfold tX;rw[wg,wg]
theorem Vi (x:eP):∀l:List eP,wj (mg x) (l.map mg)=(rU x l).map mg
 | []=>rfl
 |y::r=>by
  simp only[dd,wj,rU,anJ]
  by_cases h:aW x.2.2 y.2.2<=0
  ·rw[ae (by simpa using h),ae h];rfl
  ·rw[ab (by simpa using h),ab h,dd,Vi x r]
theorem Vj:∀l:List eP,ki (l.map mg)=(dt l).map mg
 | []=>rfl
 |x::r=>by simp only[dd,ki,dt,Vj r,Vi]
theorem Vk{x:eP}:∀{l:List eP},l.Pairwise (λa b=>aW a.2.2 b.2.2<0)->(∀y∈l,y.2.2 ≠ x.2.2)->(rU x l).Pairwise λa b=>aW a.2.2 b.2.2<0
 | [],_,_=>by simp[rU]
 |y::r,h,hn=>by
  unfold rU;have hy:=hn y (by simp)
  rw[kY]at h;split
  ·rename_i hle
   have aK:aW x.2.2 y.2.2<0:=by
    have:aW x.2.2 y.2.2 ≠ 0:=λe=>hy (dK.eq _ _ e).symm;omega
   rw[kY,kY];refine⟨λz hz=>?_,h.1,h.2⟩;rcases cD.1 hz with rfl|hz
   ·exact aK
   ·have h1:=h.1 z hz
    have h2:=dK.trans _ _ _ (show aW x.2.2 y.2.2<=0 by omega) (show aW y.2.2 z.2.2<=0 by omega)
    have h3:aW x.2.2 z.2.2 ≠ 0:=λe=>by
     have e:=dK.eq _ _ e;rw[<-e]at h1;have:=dK.gJ y.2.2 x.2.2;omega
    omega
  ·rename_i hle
   rw[kY];refine⟨λz hz=>?_,Vk h.2 λz hz=>hn z (by simp[hz])⟩
   rcases cD.1 ((KS x r).mem_iff.1 hz)with rfl|hz
   ·have:=dK.gJ y.2.2 z.2.2;omega
   ·exact h.1 z hz
theorem KT:∀{l:List eP},(l.map λc=>c.2.2).Nodup->(dt l).Pairwise λa b=>aW a.2.2 b.2.2<0
 | [],_=>by simp[dt]
 |x::r,h=>by
  rw[dd,mH]at h;refine Vk (KT h.2) λy hy e=>h.1 ?_;rw[cU];exact⟨y,(qA r).mem_iff.1 hy,e⟩
def pE (c:eP):T3:=(.int c.1,.int c.2.1,iL c.2.2)
theorem Vl:∀l:List eP,(l.map mg).flatMap AV.cells=fJ (l.map pE)
 | []=>rfl
 |x::r=>by
  rw[dd,jG,Vl r];rfl
theorem anK{p q new:List AV}{off:Nat}(h1:p.length=off) (h2:q.length=new.length):putAt (p++q) off new=p++new:=by
 subst h1;unfold putAt;rw[List.take_left' rfl,jJ (l:=p++q) (by simp;omega),List.append_nil]
abbrev pS (l:List T3):ag:=⟨some 3,fJ l,.live⟩
theorem anL (p q:eP) (hp:(p.2.2.length:Int)<=1000000) (hq:(q.2.2.length:Int)<=1000000):PC zA [mg p,mg q]=some (.int (aW p.2.2 q.2.2)):=by
 refine cu (aiA rfl ?_);have:=Fj p.2.2 q.2.2 (by omega) (by omega)
 simp[mg,this]
theorem anM{σ:List ag}{b k:Nat}{l:List eP}(h:al σ b=some (pS (l.map pE))) (hk:k=l.length) (hl:l.length<=1000) (h0:l ≠ []) (hw:∀c∈l,(c.2.2.length:Int)<=1000000) (hd:(l.map λc=>c.2.2).Nodup):L Ez [.sl b (3*k) 0 k,.func zA []] σ=some (.bS [],az σ b (pS ((dt l).map pE))):=by
 subst hk;have hu:upto σ b (3*l.length)=some (pS (l.map pE)):=uR h (by show(fJ (l.map pE)).length=_;rw[lu,dR]) rfl
 have hS:=KT hd;have hp:=qA l;have hc:∀(i j:Nat) x y,((dt l).map mg)[i]? = some x->((dt l).map mg)[j]? = some y->∃c,je (lim Ab.G Q) zA (x::y :: [])=some (.int c)/\(c<0↔i<j):=by
  intro i j x y hx hy;rw[iv]at hx hy;cases bR : (dt l)[i]? with
  |none=>rw[bR]at hx;simp at hx
  |some p=>
   cases km : (dt l)[j]? with
   |none=>rw[km]at hy;simp at hy
   |some q=>
    rw[bR]at hx;rw[km]at hy;simp at hx hy;subst hx hy;refine⟨aW p.2.2 q.2.2,?_,?_⟩
    ·have:=anL p q (hw p (hp.mem_iff.1 (qY bR))) (hw q (hp.mem_iff.1 (qY km)))
     unfold je;rw[ae (by simp[ay,aO,mg])]
     exact this
    ·obtain⟨hi,hpi⟩:=cV.1 bR
     obtain⟨hj,XF⟩:=cV.1 km;have hpw:=rC.1 hS;rcases Nat.lt_trichotomy i j with qm|qm|qm
     ·have:=hpw i j hi hj qm
      rw[hpi,XF]at this;exact⟨λ_=>qm,λ_=>this⟩
     ·subst qm
      rw[hpi]at XF;subst XF;have:=dK.refl p.2.2;omega
     ·have:=hpw j i hj hi qm
      rw[hpi,XF]at this;have h2:=dK.gJ p.2.2 q.2.2;omega
 obtain⟨N,hN⟩:=ZL nZ hc;refine aiz (N:=N) ?_;have HM:¬l.length=0:=λe=>h0 (dW e);have HG:chunk (some 3) l.length (fJ (l.map pE))=l.map mg:=by
  have:=FO (l:=l.map pE);rw[dR]at this;rw[this,List.map_map];rfl
 have LW:putAt (fJ (l.map pE)) 0 (fJ ((dt l).map pE))=fJ ((dt l).map pE):=by
  have:=anK (p:=[]) (q:=fJ (l.map pE)) (new:=fJ ((dt l).map pE)) (off:=0) rfl (by rw[lu,lu,dR,dR,hp.length_eq])
  simpa using this
 simp only[jr,hu,nP,HG,Vj,Vl,LW];rw[ab (by simpa using HM),ae]
 simp only[lu,dR,aD,eR];refine⟨⟨⟨⟨⟨rfl,rfl⟩,by omega⟩,by omega⟩,?_⟩,hN⟩
 show 3*l.length<=1073741824;omega
def neg (c:eP):Bool:=decide (c.2.1<0)
theorem anN (c:eP):PC uO [mg c]=some (.bool (neg c)):=by
 refine cu (aiy rfl ?_);simp[mg,neg]
theorem anO (l:List eP) (hl:l.length<=1000):PC Jn [Mb l,.func uO []]=some (.int (idx neg l)):=by
 refine cu (ai6 rfl ?_);simp[-ao];refine bu (λi:Int=>[(2,.int i)]) (λ_=>[]) (λi=>0<=i/\i<=l.length/\∀j,0<=j->j<i->neg (ix l j)=false) (λi=>(l.length-i).toNat) 0 rfl (by simp;omega) λi ⟨h0,h1,h2⟩=>?_
 by_cases hi:i<l.length
 ·have hq:=anN (ix l i)
  simp only[mg]at hq;simp[-ao,hi,h0,hq,mg];exact⟨λh=>(SB h0 hi h h2).symm,λh=>⟨by omega,aX (i+1) (by simp) rfl ⟨by omega,by omega,kM h h2⟩ (by omega)⟩⟩
 ·simp[-ao,hi]
  rw[SC λj a b=>h2 j a (by omega)]
theorem anP (l:List eP) (hl:l.length<=1000):LX L I7 [Mb l,.func uO []] [] (λr τ=>r = .bool (l.any neg)):=by
 refine aix rfl ?_;simp[anO l hl];exact SD
def iP (c:eP):T3:=(.int c.1,.int c.2.1,if c.2.1<0 then .ah else iL c.2.2)
theorem anQ{σ:List ag}{b u n:Nat}{l:List eP}(h:al σ b=some (pS (l.map iP))) (hn:n=l.length) (hu:u=3*n) (hr:∀c∈l,c.2.1<0->c.2.2=[]):view σ false vd (.sl b u 0 n)=some (Mb l):=by
 subst hu hn;have hu:upto σ b (3*l.length)=some (pS (l.map iP)):=uR h (by show(fJ (l.map iP)).length=_;rw[lu,dR]) rfl
 have HG:chunk (some 3) l.length (fJ (l.map iP))=l.map λc=>.agg (t3 (iP c)):=by
  have:=FO (l:=l.map iP);rw[dR]at this;rw[this,List.map_map];rfl
 show view σ false (11+1) _=_;unfold view;simp only[hu,aC,lu,dR,nP];rw[ae (by omega),HG,Ky (g:=mg)]
 intro c hc;have:=hr c hc
 by_cases h0:c.2.1<0
 ·have h1:=this h0
  obtain⟨x,y,w⟩:=c;dsimp only at h0 h1;subst h1;simp[t3,iP,h0,mg,bZ]
 ·obtain⟨x,y,w⟩:=c
  dsimp only at h0;simp[t3,iP,h0,mg,bZ]
theorem anR{l:List eP}(h:l.any neg=false):l.map iP=l.map pE:=by
 refine gk λc hc=>?_;have:=List.any_eq_false.1 h c hc;simp[neg]at this;simp[iP,pE,show ¬c.2.1<0 by omega]
def Av:IC:=(.seq (.seq (.aa R7)
 (.cond 103 (.seq (.aa R8)
 .ret) .skip))
 (.seq (.seq (.aa R9) (.lB 6))
 (.seq (.aa Sa)
 .ret)))
theorem anS{vars:List AV}{fl:Option (Nat×AV)}{σ:List ag}{k b n:Nat}{l:List eP}{Q:Ex->St->Prop}(hb:al σ b=some (pS (l.map pE))) (hn:nth vars k = .sl b (3*n) 0 n) (hl:n=l.length) (hq:∀τ,(∀c,c ≠ b->al τ c=al σ c)->Q .ft ⟨eV vars k (.aE true (l.map mg)),fl,τ⟩):W L (.lB k) ⟨vars,fl,σ⟩ Q:=by
 subst hl;have oG:∀x∈fJ (l.map pE),FK x=true:=λx hx=>by
  unfold fJ at hx;obtain⟨t,ht,hx⟩:=rB.1 hx;obtain⟨c,_,rfl⟩:=cU.1 ht;simp only[t3,pE,cD,List.not_mem_nil,or_false]at hx;rcases hx with rfl|rfl|rfl<;>rfl
 have hr:reach σ vd (.sl b (3*l.length) 0 l.length) []=[b]:=by
  have:=FL (σ:=σ) (f:=11) (u:=3*l.length) (o:=0) (n:=l.length) hb oG (acc:=[]);rw[show vd=11+1 from rfl,this];rfl
 have jz:al (bQ (λc=>!([b]:List Nat).contains c) 0 σ) b=some (pS (l.map pE)):=by
  rw[nS,hb];simp
 have hu:∀τ,al τ b=some (pS (l.map pE))->upto τ b (3*l.length)=some (pS (l.map pE)):=λτ h=>uR h (by show(fJ (l.map pE)).length=_;rw[lu,dR]) rfl
 have HG:chunk (some 3) l.length (fJ (l.map pE))=l.map mg:=by
  have:=FO (l:=l.map pE);rw[dR]at this;rw[this,List.map_map];rfl
 have hv:view (bQ (λc=>!([b]:List Nat).contains c) 0 σ) false vd (.sl b (3*l.length) 0 l.length)=some (Mb l):=by
  have hu:=hu _ jz;generalize bQ (λc=>!([b]:List Nat).contains c) 0 σ=τ at *;show view τ false (11+1) _=_;unfold view;simp only[hu,aC,lu,dR,nP];rw[ae (by omega),HG,Ky (g:=mg)]
  intro c hc
  rfl
 have hs:gZ σ (.sl b (3*l.length) 0 l.length)=true:=by
  simp only[gZ,hu σ hb]
 refine⟨0,.ft,_,?_,hq (bQ (λc=>([b]:List Nat).contains c) 0 σ) λc hc=>?_⟩
 ·simp only[exec,hn,hr,hv,hs];rfl
 ·rw[nS]
  cases al σ c with
  |none=>rfl
  |some B=>simp[hc]
abbrev tH:List AV:=[.int 0,.int 0,.int 0,.int 0,.int 0,.ah,.ah,.ah,.ah,.ah]
theorem anT{D:Vd}{cls:List Int}{l:List eP}{σ:List ag}{b:Nat}{G6 G7 G8 G9:AV}{K:AV->List ag->Prop}(h0:al σ 0=some ⟨some 10,tH,.live⟩) (hb:al σ b=some (pS (l.map iP))) (ni:b ≠ 0) (hr:∀c∈l,c.2.1<0->c.2.2=[]) (hl:l.length<=128) (HM:l ≠ []) (hw:∀c∈l,c.2.2.length<=1024)
  (h1:l.any neg=true->∀τ,K (.bS [.agg tH,.int 3]) τ)
  (h2:l.any neg=false->(l.map λc=>c.2.2).Nodup/\Xx D cls (dt l)/\∀(st:List Int) (τ:List ag),st.length=l.length->(∀i:Nat,i<l.length->ix st (vT (dt l) i)=i)->K (.bS [(tG D cls (dt l) st).av,.int 0]) τ) :
  WK L Av [.aM,.aM,.aM,.ptr 0 10 0,D.vcs.av,.aM,.sl b (3*l.length) 0 l.length,.aM,.aM,.aM,.aM,G6,G7,G8,iL cls,.aM,G9,.aM,.aM,.aM] none σ (ib rK K):=by
 unfold Av;have pL:=anQ hb rfl rfl hr;obtain⟨rc,τc,jO,rfl⟩:=dS (anP l (by omega))
 have WT:view σ false vd (.func uO [])=some (.func uO []):=rfl;have iy:∀(τ:List ag) (B:ag),al τ 0=some ⟨some 10,tH,.live⟩->al (az τ 0 B) 0=some B:=λτ B h=>cH (by have:=dB h;omega)
 have vE:=λ(ce:CE) (τ:List ag) (h:al τ 0=some ⟨some 10,tH,.live⟩) (c0 c1 c2 c3 c4 c5 c6 c7 c8 c9:AV)=>rT (ce:=ce) (σ:=az τ 0 ⟨some 10,[c0,c1,c2,c3,c4,c5,c6,c7,c8,c9],.live⟩) (n:=0) (iy τ _ h)
 by_cases hn:l.any neg=true
 ·rw[hn]at jO
  have tI:=λce=>vE ce σ h0;simp[-ao,pL,WT,jO,h0,tI];exact h1 hn _
 ·have hn:l.any neg=false:=by simpa using hn
  rw[hn]at jO;obtain⟨hd,eY,hK⟩:=h2 hn;rw[anR hn]at hb;have GM:=anM hb rfl (by omega) HM (λc hc=>by have:=hw c hc;omega) hd
  simp[-ao,pL,WT,jO,GM];have hp:=qA l;refine anS (b:=b) (l:=dt l) (cH (dB hb)) rfl hp.length_eq.symm λτ uV=>?_;have qk : al τ 0=some ⟨some 10,tH,.live⟩:=by
   rw[uV 0 (Ne.symm ni),aP ni];exact h0
  obtain⟨st,hau,sb,sc⟩:=anA D cls (dt l) eY;have tI:=λce=>vE ce τ qk;simp[-ao,hau,qk, tI];exact hK st _ (sb.trans hp.length_eq) λi hi=>sc i (by rw[hp.length_eq];exact hi)
def Fd.wd (S:Fd) (x:Int):List Int:=(ix S.W x).getD []
structure Aw (cls:List Int) (S:Fd) (k x:Nat) (l:List eP):Prop where
 len:l.length=k
 cl:∀i:Nat,i<k->(ix l (i:Int)).1=i
 no:∀i:Nat,i<k->(ix l (i:Int)).2.1<0->(ix l (i:Int)).2.2=[]/\∀y:Nat,y<x->ix cls (y:Int)=i->ix S.F (y:Int)=false
 yes:∀i:Nat,i<k->0<=(ix l (i:Int)).2.1->((ix l (i:Int)).2.1<(x:Int)/\ix cls (ix l (i:Int)).2.1=i/\ix S.F (ix l (i:Int)).2.1=true/\(ix l (i:Int)).2.2=S.wd (ix l (i:Int)).2.1)/\∀y:Nat,y<x->ix cls (y:Int)=i->ix S.F (y:Int)=true->aW (ix l (i:Int)).2.2 (S.wd y)<=0
def Ha (k:Nat):List eP:=(List.range k).map λ(i:Nat)=>((i:Int),-1,[])
theorem Vm{cls:List Int}{S:Fd}{k:Nat}:Aw cls S k 0 (Ha k):=by
 have e:∀i:Nat,i<k->ix (Ha k) (i:Int)=((i:Int),-1,[]):=λi hi=>by
  unfold Ha;rw[aT (by simpa using hi)];simp
 exact⟨by simp[Ha],λi hi=>by rw[e i hi],λi hi _=>by rw[e i hi];exact⟨rfl,λy hy=>by omega⟩,λi hi h=>by rw[e i hi]at h;simp at h⟩
theorem Aw.skip{cls:List Int}{S:Fd}{k x:Nat}{l:List eP}(h:Aw cls S k x l) (hs:ix S.F (x:Int)=false\/∃i:Nat,i<k/\ix cls (x:Int)=i/\0<=(ix l (i:Int)).2.1/\aW (ix l (i:Int)).2.2 (S.wd x)<=0):Aw cls S k (x+1) l:=by
 refine⟨h.len,h.cl,λi hi hn=>?_,λi hi hp=>?_⟩
 ·obtain⟨a,b⟩:=h.no i hi hn
  refine⟨a,λy hy hc=>?_⟩
  by_cases e:y=x
  ·subst e
   rcases hs with hs|⟨j,hj,Xz,hp,_⟩
   ·exact hs
   ·have:j=i:=by omega
    subst this;omega
  ·exact b y (by omega) hc
 ·obtain⟨⟨a,a2⟩,b⟩:=h.yes i hi hp
  refine⟨⟨by omega,a2⟩,λy hy hc hf=>?_⟩
  by_cases e:y=x
  ·subst e
   rcases hs with hs|⟨j,hj,Xz,_,hle⟩
   ·rw[hs]at hf;simp at hf
   ·have:j=i:=by omega
    subst this;exact hle
  ·exact b y (by omega) hc hf
theorem Aw.put{cls:List Int}{S:Fd}{k x i:Nat}{l:List eP}(h:Aw cls S k x l) (hi:i<k) (hc:ix cls (x:Int)=i) (hf:ix S.F (x:Int)=true) (hs:0<=(ix l (i:Int)).2.1->aW (S.wd x) (ix l (i:Int)).2.2<=0):Aw cls S k (x+1) (l.set i ((i:Int),(x:Int),S.wd x)):=by
 have e:∀j:Nat,ix (l.set i ((i:Int),(x:Int),S.wd x)) (j:Int)=if j=i then((i:Int),(x:Int),S.wd x)else ix l (j:Int):=λj=>jd (by rw[h.len];exact hi) j
 refine⟨by simp[h.len],λj hj=>?_,λj hj hn=>?_,λj hj hp=>?_⟩
 ·rw[e];split
  ·rename_i q;rw[q]
  ·exact h.cl j hj
 ·rw[e]at hn ⊢
  by_cases q:j=i
  ·rw[if_pos q]at hn;dsimp only at hn;omega
  ·rw[ab q]at hn ⊢
   obtain⟨a,b⟩:=h.no j hj hn;refine⟨a,λy hy Md=>?_⟩
   by_cases e2:y=x
   ·subst e2;omega
   ·exact b y (by omega) Md
 ·rw[e]at hp ⊢
  by_cases q:j=i
  ·rw[ae q]
   subst q;refine⟨⟨by dsimp only;omega,hc,hf,rfl⟩,λy hy Md Vn=>?_⟩
   by_cases e2:y=x
   ·subst e2;exact Int.le_of_eq (dK.refl _)
   ·by_cases e3:0<=(ix l (j:Int)).2.1
    ·exact dK.trans _ _ _ (hs e3) ((h.yes j hj e3).2 y (by omega) Md Vn)
    ·have:=(h.no j hj (by omega)).2 y (by omega) Md
     rw[this]at Vn;simp at Vn
  ·rw[ab q]at hp ⊢
   obtain⟨⟨a,a2⟩,b⟩:=h.yes j hj hp;refine⟨⟨by omega,a2⟩,λy hy Md Vn=>?_⟩
   by_cases e2:y=x
   ·subst e2;omega
   ·exact b y (by omega) Md Vn
def KU:IC:=(.seq (.seq (.aa R5)
 (.block 2 (.loop R6))) Av)
theorem Vo{l:List AV}{n:Nat}{x:AV}(h:l[n]? = some x):oU l n=some x:=by
 induction l generalizing n with
 |nil=>simp at h
 |cons a l ih=>
  cases n with
  |zero=>simpa[oU]using h
  |succ n=>simpa[oU]using ih (by simpa using h)
theorem anU{D:Vd}{cls:List Int}{S:Fd}{k:Nat}{σ:List ag}{b:Nat}{x7 x8:AV}{K:AV->List ag->Prop}(gG:cls.length=D.K.length) (hcr:∀c∈cls,0<=c/\c<(k:Int)) (hSl:S.W.length=D.K.length) (hSf:S.F.length=D.K.length) (hSw:∀x:Int,0<=x->x<(D.K.length:Int)->(S.wd x).length<=1024) (hKl:D.K.length<=512) (hk:k<=128)
  (h0:al σ 0=some ⟨some 10,tH,.live⟩) (hb:al σ b=some (pS ((Ha k).map iP))) (ni:b ≠ 0)
  (hE:∀l τ G6 G7 G8 G9,Aw cls S k D.K.length l->al τ 0=some ⟨some 10,tH,.live⟩->al τ b=some (pS (l.map iP))->WK L Av [.aM,.aM,.aM,.ptr 0 10 0,D.vcs.av,.aM,.sl b (3*k) 0 k,.aM,.aM,.aM,.aM,G6,G7,G8,iL cls,.aM,G9,.aM,.aM,.aM] none τ (ib rK K)) :
  WK L KU [.aM,.aM,.aM,.ptr 0 10 0,D.vcs.av,.aM,.sl b (3*k) 0 k,x7,x8,.aM,cO (S.W.map λo=>o.getD []),.aM,.aM,.aM,iL cls,.aM,bL S.F,.aM,.aM,.aM] none σ (ib rK K):=by
 unfold KU;simp[-ao,-List.map_map];refine bu (λq:Nat×List eP×List ag=>[(11,.int q.1)]) (λq=>q.2.2) (λq=>q.1<=D.K.length/\Aw cls S k q.1 q.2.1/\al q.2.2 0=some ⟨some 10,tH,.live⟩/\al q.2.2 b=some (pS (q.2.1.map iP))) (λq=>D.K.length-q.1) (0,Ha k,σ) (by simp[bY]) ⟨by simp,Vm,h0,hb⟩ ?_
 rintro⟨x,l,τ⟩ ⟨x0,hC,qk, rZ⟩;dsimp only at x0 hC qk rZ ⊢
 by_cases hx:x<D.K.length
 ·have hc:=hcr _ (aU (l:=cls) (n:=(x:Int)) (by omega) (by omega))
  obtain⟨i,hi⟩:∃i:Nat,ix cls (x:Int)=i:=⟨(ix cls (x:Int)).toNat,by omega⟩
  rw[hi]at hc;have Cj:i<l.length:=by rw[hC.len];omega
  have KV:i<(l.map iP).length:=by simpa using Cj
  obtain⟨g0,g1,g2⟩:=anF KV;rw[oS,<-aT Cj]at g0 g1 g2;have E1:oU (fJ (l.map iP)) (i*3+1)=some (.int (ix l (i:Int)).2.1):=Vo g1;have xw:=bH (show(x:Int)<(S.W.length:Int)by omega)
  have xf:=bH (show(x:Int)<(S.F.length:Int)by omega)
  have xc:=bH (show(x:Int)<(cls.length:Int)by omega)
  have xn:=bH (show x<S.W.length by omega)
  have XG:=bH (show x<S.F.length by omega)
  have XH:=bH (show x<cls.length by omega)
  have FP:=bH (show i<k by rw[<-hC.len];exact Cj)
  have FQ:=bH (show(i:Int)<(k:Int)by rw[<-hC.len];omega)
  have XI:(fJ (l.map iP)).length=3*k:=by rw[lu,dR,hC.len]
  have hw:ix (S.W.map λo=>o.getD []) (x:Int)=S.wd x:=jx (by omega) (by omega)
  have xV:=hSw x (by omega) (by omega)
  have lb:=dB rZ;have jn:fJ ((l.map iP).set i ((.int i),(.int x),iL (S.wd x)))=fJ ((l.set i ((i:Int),(x:Int),S.wd x)).map iP):=by
   rw[List.map_set]
   congr 2
  have jD:nY (fJ (l.map iP)) (i*3+1) (AV.int x).cells=fJ ((l.map iP).set i ((l.map iP)[i].1,.int x,(l.map iP)[i].2.2)):=anH KV;have nV:nY (fJ ((l.map iP).set i ((l.map iP)[i].1,.int x,(l.map iP)[i].2.2))) (i*3+2) (AV.aE false ((S.wd x).map .int)).cells=fJ ((l.set i ((i:Int),(x:Int),S.wd x)).map iP):=by
   rw[show(AV.aE false ((S.wd x).map .int)).cells=[iL (S.wd x)]from rfl,anI (by simpa using KV),<-jn]
   congr 1
   rw[List.set_set,List.getElem_set_self];have:=hC.cl i (by rw[<-hC.len];exact Cj)
   rw[aT Cj]at this;simp only[oS];rw[show(iP l[i]).1 = .int i from by show AV.int l[i].1=_;rw[this]]
  have mN:(fJ ((l.map iP).set i ((l.map iP)[i].1,.int x,(l.map iP)[i].2.2))).length=3*k:=by rw[lu,nQ,dR,hC.len]
  generalize (l.map iP).set i ((l.map iP)[i].1,.int x,(l.map iP)[i].2.2)=M at jD nV mN;have FA:∀B:ag,al (az τ b B) b=some B:=λB=>cH lb;have fin:∀B,al (az (az τ b B) b (pS ((l.set i ((i:Int),(x:Int),S.wd x)).map iP))) 0=some ⟨some 10,tH,.live⟩/\al (az (az τ b B) b (pS ((l.set i ((i:Int),(x:Int),S.wd x)).map iP))) b=some (pS ((l.set i ((i:Int),(x:Int),S.wd x)).map iP)):=λB=>⟨by rw[aP ni,aP ni];exact qk, cH (by rw[cg];exact lb)⟩
  have KW:i<k:=by rw[<-hC.len];exact Cj
  by_cases hf:ix S.F (x:Int)=true
  ·by_cases hv:(ix l (i:Int)).2.1<0
   ·have Gs :=bH hv
    simp[-ao,-List.map_map,hi,xw,xf,xc,xn,XG,XH,rZ, FP,FQ,XI,E1,hf,Gs, hw,FA,jD,nV,mN];exact⟨by omega,by omega,by omega,aX (x+1,l.set i ((i:Int),(x:Int),S.wd x),az (az τ b ⟨some 3,fJ M,.live⟩) b (pS ((l.set i ((i:Int),(x:Int),S.wd x)).map iP))) (by simp) (by simp[List.map_set]) ⟨by dsimp only;omega,hC.put KW hi hf (λh=>by omega),(fin _).1,(fin _).2⟩ (by dsimp only;omega)⟩
   ·have Gs :=gl hv
    have E2:oU (fJ (l.map iP)) (i*3+2)=some (iL (ix l (i:Int)).2.2):=by
     rw[Vo g2];simp[iP,hv]
    have zp:PC pj [.aE false ((S.wd x).map .int),.aE false ((ix l (i:Int)).2.2.map .int)]=some (.int (aW (S.wd x) (ix l (i:Int)).2.2)):=by
     obtain⟨⟨q1,q2,q3,q4⟩,_⟩:=hC.yes i (by rw[<-hC.len];exact Cj) (by omega)
     have anV:=hSw (ix l (i:Int)).2.1 (by omega) (by omega)
     rw[<-q4]at anV;exact Fj _ _ (by omega) (by omega)
    by_cases aK:aW (S.wd x) (ix l (i:Int)).2.2<0
    ·have pB :=bH aK
     simp[-ao,-List.map_map,hi,xw,xf,xc,xn,XG,XH,rZ, FP,FQ,XI,E1,E2,hf,Gs, hw,zp,pB, FA,jD,nV,mN];exact⟨by omega,by omega,by omega,aX (x+1,l.set i ((i:Int),(x:Int),S.wd x),az (az τ b ⟨some 3,fJ M,.live⟩) b (pS ((l.set i ((i:Int),(x:Int),S.wd x)).map iP))) (by simp) (by simp[List.map_set]) ⟨by dsimp only;omega,hC.put KW hi hf (λh=>by omega),(fin _).1,(fin _).2⟩ (by dsimp only;omega)⟩
    ·have pB :=gl aK
     simp[-ao,-List.map_map,hi,xw,xf,xc,xn,XG,XH,rZ, FP,FQ,XI,E1,E2,hf,Gs, hw,zp,pB];refine⟨by omega,aX (x+1,l,τ) (by simp) rfl ⟨by dsimp only;omega,hC.skip (.inr ⟨i,KW,hi,by omega,?_⟩),qk, rZ⟩ (by dsimp only;omega)⟩
     have:=dK.gJ (S.wd x) (ix l (i:Int)).2.2;omega
  ·have xT : ix S.F (x:Int)=false:=by simpa using hf
   simp[-ao,-List.map_map,hi,xw,xf,xc,xn,XG,XH,rZ, FP,FQ,XI,E1,xT, hw];exact⟨by omega,aX (x+1,l,τ) (by simp) rfl ⟨by dsimp only;omega,hC.skip (.inl xT),qk, rZ⟩ (by dsimp only;omega)⟩
 ·have ex:x=D.K.length:=by omega
  have xw:=gl (show ¬(x:Int)<(S.W.length:Int)by omega)
  have xn:=gl (show ¬x<S.W.length by omega)
  simp[-ao,-List.map_map,xw,xn];rw[ex]at hC;exact hE l τ _ _ _ _ hC qk rZ
def KX:IC:=(.seq (.aa R1)
 (.seq (.aa R2)
 (.seq (.seq (.aa R3)
 (.block 0 (.loop R4)))
 KU)))
def uc (k i:Nat):List T3:=(List.range k).map λ(j:Nat)=>if j<i then(.int j,.int (-1),.ah)else(.int 0,.int 0,.ah)
theorem KY{k i:Nat}:(uc k i).length=k:=by simp[uc]
theorem anW{k i:Nat}(hi:i<k):(uc k i).set i (.int i,.int (-1),.ah)=uc k (i+1):=by
 refine mG (by simp[uc]) λj h1 h2=>?_
 simp only[uc,List.getElem_set,oS,List.getElem_range]
 by_cases e:i=j
 ·subst e;rw[ae rfl,ae (by omega)]
 ·rw[ab e]
  by_cases h:j<i
  ·rw[ae h,ae (by omega)]
  ·rw[ab h,ab (by omega)]
theorem Vp{k:Nat}:uc k k=(Ha k).map iP:=by
 unfold uc Ha;rw[List.map_map];refine gk λj hj=>?_;rw[ae (cA.1 hj)]
 rfl
theorem Vq{k:Nat}:fJ (uc k 0)=eG k [AV.int 0,.int 0,.ah]:=by
 have e:uc k 0=List.replicate k (.int 0,.int 0,.ah):=by
  unfold uc;simp only[Nat.not_lt_zero,ew];rw[List.map_const', List.length_range]
 rw[e];have:∀n:Nat,fJ (List.replicate n (.int 0,.int 0,.ah))=eG n [AV.int 0,.int 0,.ah]:=by
  intro n
  induction n with
  |zero=>rfl
  |succ n ih=>
   rw[ug];show[AV.int 0,.int 0,.ah]++fJ (List.replicate n (.int 0,.int 0,.ah))=_;rw[ih];rfl
 exact this k
theorem anX{D:Vd}(hD:jQ D) (hs:D.n.calls+D.n.aj+D.n.aq<=64){cls:List Int}{k:Nat}{σ:List ag}{K:AV->List ag->Prop}(gG:cls.length=D.K.length) (hcr:∀c∈cls,0<=c/\c<(k:Int)) (hk:k<=128) (j5:1<=k)
  (h0:al σ 0=some ⟨some 10,tH,.live⟩)
  (hE:∀S l τ b G6 G7 G8 G9,Sr D 1025 S->Aw cls S k D.K.length l->b ≠ 0->al τ 0=some ⟨some 10,tH,.live⟩->al τ b=some (pS (l.map iP))->WK L Av [.aM,.aM,.aM,.ptr 0 10 0,D.vcs.av,.aM,.sl b (3*k) 0 k,.aM,.aM,.aM,.aM,G6,G7,G8,iL cls,.aM,G9,.aM,.aM,.aM] none τ (ib rK K)) :
  WK L KX [.aM,.aM,.aM,.ptr 0 10 0,D.vcs.av,.int k,.aM,.aM,.aM,.aM,.aM,.aM,.aM,.aM,iL cls,.aM,.aM,.aM,.aM,.aM] none σ (ib rK K):=by
 unfold KX;obtain⟨S,hF,hS⟩:=ano D hD hs;have l0:=dB h0;simp[-ao,-List.map_map,hF];simp only[<-Vq,lu,KY];refine⟨by omega,?_⟩
 refine bu (λq:Nat×List ag=>[(7,.int q.1)]) (λq=>q.2) (λq=>q.1<=k/\al q.2 0=some ⟨some 10,tH,.live⟩/\al q.2 σ.length=some (pS (uc k q.1))) (λq=>k-q.1) (0,σ ++ [pS (uc k 0)]) (by simp[bY]) ⟨by simp,gn h0,iA⟩ ?_
 rintro⟨i,τ⟩ ⟨i0,qk, hb⟩;dsimp only at i0 qk hb ⊢
 by_cases hi:i<k
 ·have Xg:i<(uc k i).length:=by rw[KY];exact hi
  have tl:(fJ (uc k i)).length=3*k:=by rw[lu,KY]
  have hp:=anG Xg (t:=(.int i,.int (-1),.ah));rw[anW hi]at hp;simp[-ao,-List.map_map,hi,hb,tl];exact⟨by omega,by omega,aX (i+1,az τ σ.length (pS (uc k (i+1)))) (by simp) (congrArg (λc=>az τ σ.length (⟨some 3,c,.live⟩:ag)) hp) ⟨by dsimp only;omega,by dsimp only;rw[aP (by omega)];exact qk, cH (dB hb)⟩ (by dsimp only;omega)⟩
 ·have ei:i=k:=by omega
  subst ei;simp[-ao,-List.map_map];rw[Vp]at hb;refine anU gG hcr hS.l (by rw[hS.w.f];exact hS.l) (λx x0 x1=>?_) hD.f.k hk qk hb (by omega) λl FT G6 G7 G8 G9 hC g0 gb=>hE S l FT _ G6 G7 G8 G9 hS hC (by omega) g0 gb
  unfold Fd.wd;cases h:ix S.W x with
  |none=>simp
  |some w=>exact hS.w.wl x w x0 (by rw[hS.l];exact x1) h
end Ab
