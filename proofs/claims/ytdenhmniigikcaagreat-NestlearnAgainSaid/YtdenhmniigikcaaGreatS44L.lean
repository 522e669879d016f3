/- Single: the first words of the classes are chosen. Condition: none. -/
import Derived.Test.YtdenhmniigikcaaGreatS44J
set_option linter.all false
set_option maxRecDepth 100000
set_option maxHeartbeats 4000000
namespace Ab
def Fd.wd (S:Fd) (x:Int):List Int:=(ix S.W x).getD []
structure Ai (cls:List Int) (S:Fd) (k x:Nat) (l:List eO):Prop where
 len:l.length=k
 cl:∀i:Nat,i<k->(ix l (i:Int)).1=i
 no:∀i:Nat,i<k->(ix l (i:Int)).2.1<0->(ix l (i:Int)).2.2=[]/\∀y:Nat,y<x->ix cls (y:Int)=i->ix S.F (y:Int)=false
 yes:∀i:Nat,i<k->0<=(ix l (i:Int)).2.1->((ix l (i:Int)).2.1<(x:Int)/\ix cls (ix l (i:Int)).2.1=i/\ix S.F (ix l (i:Int)).2.1=true/\(ix l (i:Int)).2.2=S.wd (ix l (i:Int)).2.1)/\∀y:Nat,y<x->ix cls (y:Int)=i->ix S.F (y:Int)=true->aV (ix l (i:Int)).2.2 (S.wd y)<=0
def GB (k:Nat):List eO:=(List.range k).map λ(i:Nat)=>((i:Int),-1,[])
theorem UB{cls:List Int}{S:Fd}{k:Nat}:Ai cls S k 0 (GB k):=by
 have e:∀i:Nat,i<k->ix (GB k) (i:Int)=((i:Int),-1,[]):=λi hi=>by
  unfold GB;rw[aS (by simpa using hi)];simp
 exact⟨by simp[GB],λi hi=>by rw[e i hi],λi hi _=>by rw[e i hi];exact⟨rfl,λy hy=>by omega⟩,λi hi h=>by rw[e i hi]at h;simp at h⟩
theorem Ai.skip{cls:List Int}{S:Fd}{k x:Nat}{l:List eO}(h:Ai cls S k x l) (hs:ix S.F (x:Int)=false\/∃i:Nat,i<k/\ix cls (x:Int)=i/\0<=(ix l (i:Int)).2.1/\aV (ix l (i:Int)).2.2 (S.wd x)<=0):Ai cls S k (x+1) l:=by
 refine⟨h.len,h.cl,λi hi hn=>?_,λi hi hp=>?_⟩
 ·obtain⟨a,b⟩:=h.no i hi hn
  refine⟨a,λy hy hc=>?_⟩
  by_cases e:y=x
  ·subst e
   rcases hs with hs|⟨j,hj,WW,hp,_⟩
   ·exact hs
   ·have:j=i:=by omega
    subst this;omega
  ·exact b y (by omega) hc
 ·obtain⟨⟨a,a2⟩,b⟩:=h.yes i hi hp
  refine⟨⟨by omega,a2⟩,λy hy hc hf=>?_⟩
  by_cases e:y=x
  ·subst e
   rcases hs with hs|⟨j,hj,WW,_,hle⟩
   ·rw[hs]at hf;simp at hf
   ·have:j=i:=by omega
    subst this;exact hle
  ·exact b y (by omega) hc hf
theorem Ai.put{cls:List Int}{S:Fd}{k x i:Nat}{l:List eO}(h:Ai cls S k x l) (hi:i<k) (hc:ix cls (x:Int)=i) (hf:ix S.F (x:Int)=true) (hs:0<=(ix l (i:Int)).2.1->aV (S.wd x) (ix l (i:Int)).2.2<=0):Ai cls S k (x+1) (l.set i ((i:Int),(x:Int),S.wd x)):=by
 have e:∀j:Nat,ix (l.set i ((i:Int),(x:Int),S.wd x)) (j:Int)=if j=i then((i:Int),(x:Int),S.wd x)else ix l (j:Int):=λj=>iY (by rw[h.len];exact hi) j
 refine⟨by simp[h.len],λj hj=>?_,λj hj hn=>?_,λj hj hp=>?_⟩
 ·rw[e];split
  ·rename_i q;rw[q]
  ·exact h.cl j hj
 ·rw[e]at hn ⊢
  by_cases q:j=i
  ·rw[if_pos q]at hn;dsimp only at hn;omega
  ·rw[aa q]at hn ⊢
   obtain⟨a,b⟩:=h.no j hj hn;refine⟨a,λy hy Lr=>?_⟩
   by_cases e2:y=x
   ·subst e2;omega
   ·exact b y (by omega) Lr
 ·rw[e]at hp ⊢
  by_cases q:j=i
  ·rw[ab q]
   subst q;refine⟨⟨by dsimp only;omega,hc,hf,rfl⟩,λy hy Lr UC=>?_⟩
   by_cases e2:y=x
   ·subst e2;exact Int.le_of_eq (dJ.refl _)
   ·by_cases e3:0<=(ix l (j:Int)).2.1
    ·exact dJ.trans _ _ _ (hs e3) ((h.yes j hj e3).2 y (by omega) Lr UC)
    ·have:=(h.no j hj (by omega)).2 y (by omega) Lr
     rw[this]at UC;simp at UC
  ·rw[aa q]at hp ⊢
   obtain⟨⟨a,a2⟩,b⟩:=h.yes j hj hp;refine⟨⟨by omega,a2⟩,λy hy Lr UC=>?_⟩
   by_cases e2:y=x
   ·subst e2;omega
   ·exact b y (by omega) Lr UC
def Kb:IC:=(.seq (.seq (.ae Rn)
 (.block 2 (.loop Ro))) Ah)
theorem UD{l:List AV}{n:Nat}{x:AV}(h:l[n]? = some x):oP l n=some x:=by
 induction l generalizing n with
 |nil=>simp at h
 |cons a l ih=>
  cases n with
  |zero=>simpa[oP]using h
  |succ n=>simpa[oP]using ih (by simpa using h)
theorem amL{D:Vd}{cls:List Int}{S:Fd}{k:Nat}{σ:List ag}{b:Nat}{x7 x8:AV}{K:AV->List ag->Prop}(gD:cls.length=D.K.length) (hcr:∀c∈cls,0<=c/\c<(k:Int)) (hSl:S.W.length=D.K.length) (hSf:S.F.length=D.K.length) (hSw:∀x:Int,0<=x->x<(D.K.length:Int)->(S.wd x).length<=1024) (hKl:D.K.length<=512) (hk:k<=128)
  (h0:ak σ 0=some ⟨some 10,tD,.live⟩) (hb:ak σ b=some (pP ((GB k).map iK))) (mZ:b ≠ 0)
  (hE:∀l τ Gx Gy Gz GA,Ai cls S k D.K.length l->ak τ 0=some ⟨some 10,tD,.live⟩->ak τ b=some (pP (l.map iK))->WK L Ah [.aM,.aM,.aM,.ptr 0 10 0,D.vcs.av,.aM,.sl b (3*k) 0 k,.aM,.aM,.aM,.aM,Gx,Gy,Gz,iL cls,.aM,GA,.aM,.aM,.aM] none τ (gX rG K)) :
  WK L Kb [.aM,.aM,.aM,.ptr 0 10 0,D.vcs.av,.aM,.sl b (3*k) 0 k,x7,x8,.aM,cK (S.W.map λo=>o.getD []),.aM,.aM,.aM,iL cls,.aM,bL S.F,.aM,.aM,.aM] none σ (gX rG K):=by
 unfold Kb;simp[-al,-List.map_map];refine bC (λq:Nat×List eO×List ag=>[(11,.int q.1)]) (λq=>q.2.2) (λq=>q.1<=D.K.length/\Ai cls S k q.1 q.2.1/\ak q.2.2 0=some ⟨some 10,tD,.live⟩/\ak q.2.2 b=some (pP (q.2.1.map iK))) (λq=>D.K.length-q.1) (0,GB k,σ) (by simp[bT]) ⟨by simp,UB,h0,hb⟩ ?_
 rintro⟨x,l,τ⟩ ⟨x0,hC,qi, rW⟩;dsimp only at x0 hC qi rW ⊢
 by_cases hx:x<D.K.length
 ·have hc:=hcr _ (aZ (l:=cls) (n:=(x:Int)) (by omega) (by omega))
  obtain⟨i,hi⟩:∃i:Nat,ix cls (x:Int)=i:=⟨(ix cls (x:Int)).toNat,by omega⟩
  rw[hi]at hc;have B8:i<l.length:=by rw[hC.len];omega
  have Kc:i<(l.map iK).length:=by simpa using B8
  obtain⟨g0,g1,g2⟩:=amw Kc;rw[oN,<-aS B8]at g0 g1 g2;have E1:oP (fG (l.map iK)) (i*3+1)=some (.int (ix l (i:Int)).2.1):=UD g1;have xw:=bM (show(x:Int)<(S.W.length:Int)by omega)
  have xf:=bM (show(x:Int)<(S.F.length:Int)by omega)
  have xc:=bM (show(x:Int)<(cls.length:Int)by omega)
  have xn:=bM (show x<S.W.length by omega)
  have W3:=bM (show x<S.F.length by omega)
  have W4:=bM (show x<cls.length by omega)
  have Fm:=bM (show i<k by rw[<-hC.len];exact B8)
  have Fo:=bM (show(i:Int)<(k:Int)by rw[<-hC.len];omega)
  have W5:(fG (l.map iK)).length=3*k:=by rw[ll,dR,hC.len]
  have hw:ix (S.W.map λo=>o.getD []) (x:Int)=S.wd x:=jt (by omega) (by omega)
  have xM:=hSw x (by omega) (by omega)
  have lb:=dz rW;have ji:fG ((l.map iK).set i ((.int i),(.int x),iL (S.wd x)))=fG ((l.set i ((i:Int),(x:Int),S.wd x)).map iK):=by
   rw[List.map_set]
   congr 2
  have jA:nS (fG (l.map iK)) (i*3+1) (AV.int x).cells=fG ((l.map iK).set i ((l.map iK)[i].1,.int x,(l.map iK)[i].2.2)):=amy Kc;have nP:nS (fG ((l.map iK).set i ((l.map iK)[i].1,.int x,(l.map iK)[i].2.2))) (i*3+2) (AV.aE false ((S.wd x).map .int)).cells=fG ((l.set i ((i:Int),(x:Int),S.wd x)).map iK):=by
   rw[show(AV.aE false ((S.wd x).map .int)).cells=[iL (S.wd x)]from rfl,amz (by simpa using Kc),<-ji]
   congr 1
   rw[List.set_set,List.getElem_set_self];have:=hC.cl i (by rw[<-hC.len];exact B8)
   rw[aS B8]at this;simp only[oN];rw[show(iK l[i]).1 = .int i from by show AV.int l[i].1=_;rw[this]]
  have mJ:(fG ((l.map iK).set i ((l.map iK)[i].1,.int x,(l.map iK)[i].2.2))).length=3*k:=by rw[ll,nJ,dR,hC.len]
  generalize (l.map iK).set i ((l.map iK)[i].1,.int x,(l.map iK)[i].2.2)=M at jA nP mJ;have E7:∀B:ag,ak (ay τ b B) b=some B:=λB=>cE lb;have fin:∀B,ak (ay (ay τ b B) b (pP ((l.set i ((i:Int),(x:Int),S.wd x)).map iK))) 0=some ⟨some 10,tD,.live⟩/\ak (ay (ay τ b B) b (pP ((l.set i ((i:Int),(x:Int),S.wd x)).map iK))) b=some (pP ((l.set i ((i:Int),(x:Int),S.wd x)).map iK)):=λB=>⟨by rw[aO mZ,aO mZ];exact qi, cE (by rw[bZ];exact lb)⟩
  have Ke:i<k:=by rw[<-hC.len];exact B8
  by_cases hf:ix S.F (x:Int)=true
  ·by_cases hv:(ix l (i:Int)).2.1<0
   ·have FX :=bM hv
    simp[-al,-List.map_map,hi,xw,xf,xc,xn,W3,W4,rW, Fm,Fo,W5,E1,hf,FX, hw,E7,jA,nP,mJ];exact⟨by omega,by omega,by omega,ba (x+1,l.set i ((i:Int),(x:Int),S.wd x),ay (ay τ b ⟨some 3,fG M,.live⟩) b (pP ((l.set i ((i:Int),(x:Int),S.wd x)).map iK))) (by simp) (by simp[List.map_set]) ⟨by dsimp only;omega,hC.put Ke hi hf (λh=>by omega),(fin _).1,(fin _).2⟩ (by dsimp only;omega)⟩
   ·have FX :=gg hv
    have E2:oP (fG (l.map iK)) (i*3+2)=some (iL (ix l (i:Int)).2.2):=by
     rw[UD g2];simp[iK,hv]
    have zf:PC o9 [.aE false ((S.wd x).map .int),.aE false ((ix l (i:Int)).2.2.map .int)]=some (.int (aV (S.wd x) (ix l (i:Int)).2.2)):=by
     obtain⟨⟨q1,q2,q3,q4⟩,_⟩:=hC.yes i (by rw[<-hC.len];exact B8) (by omega)
     have amM:=hSw (ix l (i:Int)).2.1 (by omega) (by omega)
     rw[<-q4]at amM;exact EO _ _ (by omega) (by omega)
    by_cases aK:aV (S.wd x) (ix l (i:Int)).2.2<0
    ·have px :=bM aK
     simp[-al,-List.map_map,hi,xw,xf,xc,xn,W3,W4,rW, Fm,Fo,W5,E1,E2,hf,FX, hw,zf,px, E7,jA,nP,mJ];exact⟨by omega,by omega,by omega,ba (x+1,l.set i ((i:Int),(x:Int),S.wd x),ay (ay τ b ⟨some 3,fG M,.live⟩) b (pP ((l.set i ((i:Int),(x:Int),S.wd x)).map iK))) (by simp) (by simp[List.map_set]) ⟨by dsimp only;omega,hC.put Ke hi hf (λh=>by omega),(fin _).1,(fin _).2⟩ (by dsimp only;omega)⟩
    ·have px :=gg aK
     simp[-al,-List.map_map,hi,xw,xf,xc,xn,W3,W4,rW, Fm,Fo,W5,E1,E2,hf,FX, hw,zf,px];refine⟨by omega,ba (x+1,l,τ) (by simp) rfl ⟨by dsimp only;omega,hC.skip (.inr ⟨i,Ke,hi,by omega,?_⟩),qi, rW⟩ (by dsimp only;omega)⟩
     have:=dJ.gF (S.wd x) (ix l (i:Int)).2.2;omega
  ·have xJ : ix S.F (x:Int)=false:=by simpa using hf
   simp[-al,-List.map_map,hi,xw,xf,xc,xn,W3,W4,rW, Fm,Fo,W5,E1,xJ, hw];exact⟨by omega,ba (x+1,l,τ) (by simp) rfl ⟨by dsimp only;omega,hC.skip (.inl xJ),qi, rW⟩ (by dsimp only;omega)⟩
 ·have ex:x=D.K.length:=by omega
  have xw:=gg (show ¬(x:Int)<(S.W.length:Int)by omega)
  have xn:=gg (show ¬x<S.W.length by omega)
  simp[-al,-List.map_map,xw,xn];rw[ex]at hC;exact hE l τ _ _ _ _ hC qi rW
def Kf:IC:=(.seq (.ae Rj)
 (.seq (.ae Rk)
 (.seq (.seq (.ae Rl)
 (.block 0 (.loop Rm)))
 Kb)))
def tY (k i:Nat):List T3:=(List.range k).map λ(j:Nat)=>if j<i then(.int j,.int (-1),.ah)else(.int 0,.int 0,.ah)
theorem Kg{k i:Nat}:(tY k i).length=k:=by simp[tY]
theorem amN{k i:Nat}(hi:i<k):(tY k i).set i (.int i,.int (-1),.ah)=tY k (i+1):=by
 refine mC (by simp[tY]) λj h1 h2=>?_
 simp only[tY,List.getElem_set,oN,List.getElem_range]
 by_cases e:i=j
 ·subst e;rw[ab rfl,ab (by omega)]
 ·rw[aa e]
  by_cases h:j<i
  ·rw[ab h,ab (by omega)]
  ·rw[aa h,aa (by omega)]
theorem UE{k:Nat}:tY k k=(GB k).map iK:=by
 unfold tY GB;rw[List.map_map];refine gf λj hj=>?_;rw[ab (cy.1 hj)]
 rfl
theorem UF{k:Nat}:fG (tY k 0)=eH k [AV.int 0,.int 0,.ah]:=by
 have e:tY k 0=List.replicate k (.int 0,.int 0,.ah):=by
  unfold tY;simp only[Nat.not_lt_zero,eG];rw[List.map_const', List.length_range]
 rw[e];have:∀n:Nat,fG (List.replicate n (.int 0,.int 0,.ah))=eH n [AV.int 0,.int 0,.ah]:=by
  intro n
  induction n with
  |zero=>rfl
  |succ n ih=>
   rw[uc];show[AV.int 0,.int 0,.ah]++fG (List.replicate n (.int 0,.int 0,.ah))=_;rw[ih];rfl
 exact this k
theorem amO{D:Vd}(hD:jO D) (hs:D.n.calls+D.n.aj+D.n.aq<=64){cls:List Int}{k:Nat}{σ:List ag}{K:AV->List ag->Prop}(gD:cls.length=D.K.length) (hcr:∀c∈cls,0<=c/\c<(k:Int)) (hk:k<=128) (jY:1<=k)
  (h0:ak σ 0=some ⟨some 10,tD,.live⟩)
  (hE:∀S l τ b Gx Gy Gz GA,Sr D 1025 S->Ai cls S k D.K.length l->b ≠ 0->ak τ 0=some ⟨some 10,tD,.live⟩->ak τ b=some (pP (l.map iK))->WK L Ah [.aM,.aM,.aM,.ptr 0 10 0,D.vcs.av,.aM,.sl b (3*k) 0 k,.aM,.aM,.aM,.aM,Gx,Gy,Gz,iL cls,.aM,GA,.aM,.aM,.aM] none τ (gX rG K)) :
  WK L Kf [.aM,.aM,.aM,.ptr 0 10 0,D.vcs.av,.int k,.aM,.aM,.aM,.aM,.aM,.aM,.aM,.aM,iL cls,.aM,.aM,.aM,.aM,.aM] none σ (gX rG K):=by
 unfold Kf;obtain⟨S,hF,hS⟩:=amh D hD hs;have l0:=dz h0;simp[-al,-List.map_map,hF];simp only[<-UF,ll,Kg];refine⟨by omega,?_⟩
 refine bC (λq:Nat×List ag=>[(7,.int q.1)]) (λq=>q.2) (λq=>q.1<=k/\ak q.2 0=some ⟨some 10,tD,.live⟩/\ak q.2 σ.length=some (pP (tY k q.1))) (λq=>k-q.1) (0,σ ++ [pP (tY k 0)]) (by simp[bT]) ⟨by simp,gi h0,iq⟩ ?_
 rintro⟨i,τ⟩ ⟨i0,qi, hb⟩;dsimp only at i0 qi hb ⊢
 by_cases hi:i<k
 ·have WB:i<(tY k i).length:=by rw[Kg];exact hi
  have tl:(fG (tY k i)).length=3*k:=by rw[ll,Kg]
  have hp:=amx WB (t:=(.int i,.int (-1),.ah));rw[amN hi]at hp;simp[-al,-List.map_map,hi,hb,tl];exact⟨by omega,by omega,ba (i+1,ay τ σ.length (pP (tY k (i+1)))) (by simp) (congrArg (λc=>ay τ σ.length (⟨some 3,c,.live⟩:ag)) hp) ⟨by dsimp only;omega,by dsimp only;rw[aO (by omega)];exact qi, cE (dz hb)⟩ (by dsimp only;omega)⟩
 ·have ei:i=k:=by omega
  subst ei;simp[-al,-List.map_map];rw[UE]at hb;refine amL gD hcr hS.l (by rw[hS.w.f];exact hS.l) (λx x0 x1=>?_) hD.f.k hk qi hb (by omega) λl Fp Gx Gy Gz GA hC g0 gb=>hE S l Fp _ Gx Gy Gz GA hS hC (by omega) g0 gb
  unfold Fd.wd;cases h:ix S.W x with
  |none=>simp
  |some w=>exact hS.w.wl x w x0 (by rw[hS.l];exact x1) h
end Ab
