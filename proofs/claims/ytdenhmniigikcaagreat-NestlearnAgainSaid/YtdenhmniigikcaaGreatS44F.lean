/- A frame of a single-entry automaton: the program. Condition: none. -/
import Derived.Test.YtdenhmniigikcaaGreatS44D
set_option linter.all false
set_option maxRecDepth 100000
set_option maxHeartbeats 4000000
namespace Ab
def ao.aA (n:ao) (k:Nat):Nat:=max 1 (k*n.calls.toNat)
def ao.vN (n:ao) (s j:Nat):List Int:=(List.range j).map λ(c:Nat)=>(s:Int)*n.calls+(c:Int)
def ao.dO (n:ao) (k s:Nat):ao:=⟨n.calls,n.aj,n.aq,n.aA k,0,List.replicate k false,List.replicate s (List.replicate n.calls.toNat 0),(List.range s).map λs=>n.vN s n.calls.toNat,List.replicate s (List.replicate n.aj.toNat 0),List.replicate s (List.replicate (n.aA k) (List.replicate n.aq.toNat 0))⟩
theorem aml{n:ao}{s j:Nat}:n.vN s (j+1)=n.vN s j ++ [(s:Int)*n.calls+(j:Int)]:=by simp[ao.vN,mE]
theorem JY{n:ao}{s j:Nat}:(n.vN s j).length=j:=by simp[ao.vN]
theorem kK{n:ao}{k s i:Nat}(hi:i<s):(n.dO k s).cC .cl i=List.replicate n.calls.toNat 0/\(n.dO k s).cC .ps i=n.vN i n.calls.toNat/\(n.dO k s).cC .aQ i=List.replicate n.aj.toNat 0/\(n.dO k s).bD i=List.replicate (n.aA k) (List.replicate n.aq.toNat 0):=by
 refine⟨lh hi,?_,lh hi,lh hi⟩;show ix ((List.range s).map λs=>n.vN s n.calls.toNat) (i:Int)=_;rw[aS (by simpa using hi)];simp
theorem uV{n:ao}{k s i g:Nat}(hi:i<s) (hg:g<n.aA k):(n.dO k s).cG i g=List.replicate n.aq.toNat 0:=by
 unfold ao.cG;rw[(kK hi).2.2.2];exact lh hg
theorem mP{n:ao}{k s:Nat}(q:Kd):((n.dO k s).tb q).length=s:=by cases q<;>simp[ao.tb,ao.dO]
theorem mQ{n:ao}{k s:Nat}:(n.dO k s).pop.length=s:=by simp[ao.dO]
def ao.JZ (n:ao):Kd->Nat
 |.cl=>n.calls.toNat
 |.ps=>n.calls.toNat
 |.aQ=>n.aj.toNat
theorem J0{n:ao}{k s i:Nat}(hi:i<s) (q:Kd):((n.dO k s).cC q i).length=n.JZ q:=by
 obtain⟨h1,h2,h3,_⟩:=kK (n:=n) (k:=k) hi;cases q
 ·rw[h1];simp[ao.JZ]
 ·rw[h2];exact JY
 ·rw[h3];simp[ao.JZ]
def Fb (n:ao) (k:Nat) (q:Kd) (s:Nat):ag:=⟨none,(List.range s).map λi=>iw (fp (n.aA k) (.rw q i)) (n.JZ q),.live⟩
def Lm (n:ao) (k s:Nat):ag:=⟨none,(List.range s).map λi=>iw (fp (n.aA k) (.pr i)) (n.aA k),.live⟩
def WT (n:ao) (k s:Nat):ag:=⟨none,(List.range (n.aA k)).map λg=>iw (fp (n.aA k) (.pg s g)) n.aq.toNat,.live⟩
theorem Ua{n:ao}{k s:Nat}{q:Kd}(hs:s ≠ 0):(n.dO k s).cont (fp (n.aA k)) (.ls q)=some (Fb n k q s):=by
 show(if(n.dO k s).tb q=[]then none else some (⟨none,(List.range ((n.dO k s).tb q).length).map λi=>iw (fp (n.aA k) (.rw q i)) ((n.dO k s).cC q i).length,.live⟩:ag))=_
 rw[aa λe=>by have:=mP (n:=n) (k:=k) (s:=s) q;rw[e]at this;simp at this;omega,mP]
 congr 2
 exact gf λi hi=>by rw[J0 (cy.1 hi)]
theorem Ub{n:ao}{k s:Nat}(hs:s ≠ 0):(n.dO k s).cont (fp (n.aA k)) .po=some (Lm n k s):=by
 show(if(n.dO k s).pop=[]then none else some (⟨none,(List.range (n.dO k s).pop.length).map λi=>iw (fp (n.aA k) (.pr i)) ((n.dO k s).bD i).length,.live⟩:ag))=_
 rw[aa λe=>by have:=mQ (n:=n) (k:=k) (s:=s);rw[e]at this;simp at this;omega,mQ]
 congr 2
 exact gf λi hi=>by rw[(kK (cy.1 hi)).2.2.2];simp
theorem Uc{n:ao}{k s i:Nat}(hi:i<s):(n.dO k s).cont (fp (n.aA k)) (.pr i)=some (WT n k i):=by
 show(if i<(n.dO k s).pop.length then some (⟨none,(List.range ((n.dO k s).bD i).length).map λg=>iw (fp (n.aA k) (.pg i g)) ((n.dO k s).cG i g).length,.live⟩:ag)else none)=_
 rw[mQ,ab hi,(kK hi).2.2.2,List.length_replicate]
 congr 2
 exact gf λg hg=>by rw[uV hi (cy.1 hg)];simp
theorem pz{n:ao}{k s:Nat}{t:Tn}{B:ag}(h:(n.dO k s).cont (fp (n.aA k)) t=some B):t.Gq (n.aA k):=by
 cases t with
 |pg i g=>
  have h:(if i<(n.dO k s).pop.length/\g<((n.dO k s).bD i).length then some (Zb ((n.dO k s).cG i g))else none)=some B:=h
  split at h
  ·rename_i a
   rw[mQ]at a;rw[(kK a.1).2.2.2]at a;have:=a.2;rw[List.length_replicate]at this;exact this
  ·simp at h
 |_=>trivial
theorem Ud{n:ao}{k s:Nat}{σ τ:List ag}(h:AS (n.dO k s) (fp (n.aA k)) σ)
  (h0:∀t B,(∀q,t ≠ .ls q)->t ≠ .po->(n.dO k s).cont (fp (n.aA k)) t=some B->ak τ (fp (n.aA k) t)=some B)
  (hl:∀q,ak τ (fp (n.aA k) (.ls q))=some (Fb n k q (s+1))) (hp:ak τ (fp (n.aA k) .po)=some (Lm n k (s+1)))
  (h1:ak τ (fp (n.aA k) (.rw .cl s))=some (Zb (List.replicate n.calls.toNat 0))) (h2:ak τ (fp (n.aA k) (.rw .ps s))=some (fv (n.vN s n.calls.toNat))) (h3:ak τ (fp (n.aA k) (.rw .aQ s))=some (Zb (List.replicate n.aj.toNat 0)))
  (h4:ak τ (fp (n.aA k) (.pr s))=some (WT n k s)) (h5:∀g,g<n.aA k->ak τ (fp (n.aA k) (.pg s g))=some (Zb (List.replicate n.aq.toNat 0))):AS (n.dO k (s+1)) (fp (n.aA k)) τ:=by
 refine⟨λt B hB=>?_,λt u A B hA hB e=>w7 (pz hA) (pz hB) e⟩;cases t with
 |ac=>
  rw[<-hB];exact h0 .ac _ (by simp) (by simp) rfl
 |po=>rw[<-hB,Ub (by omega)];exact hp
 |ls q=>rw[<-hB,Ua (by omega)];exact hl q
 |rw q i=>
  have hB:(if i<((n.dO k (s+1)).tb q).length then some (km q ((n.dO k (s+1)).cC q i))else none)=some B:=hB
  rw[mP]at hB;split at hB
  ·rename_i hi
   by_cases e:i=s
   ·subst e
    obtain⟨a1,a2,a3,_⟩:=kK (n:=n) (k:=k) hi;cases q
    ·rw[a1]at hB;rw[h1];exact hB
    ·rw[a2]at hB;rw[h2];exact hB
    ·rw[a3]at hB;rw[h3];exact hB
   ·have dw : i<s:=by omega
    refine h0 (.rw q i) B (by simp) (by simp) ?_
    show(if i<((n.dO k s).tb q).length then some (km q ((n.dO k s).cC q i))else none)=_
    rw[mP,ab dw, <-hB];obtain⟨a1,a2,a3,_⟩:=kK (n:=n) (k:=k) hi;obtain⟨b1,b2,b3,_⟩:=kK (n:=n) (k:=k) dw;cases q
    ·rw[a1,b1]
    ·rw[a2,b2]
    ·rw[a3,b3]
  ·simp at hB
 |pr i=>
  have hi:i<s+1:=by
   have hB:(if i<(n.dO k (s+1)).pop.length then some _ else none)=some B:=hB
   rw[mQ]at hB;exact eS λhc=>by rw[aa hc]at hB;simp at hB
  rw[Uc hi]at hB
  by_cases e:i=s
  ·subst e;rw[h4];exact hB
  ·exact h0 (.pr i) B (by simp) (by simp) (by rw[Uc (by omega)];exact hB)
 |pg i g=>
  have Lo:(if i<(n.dO k (s+1)).pop.length/\g<((n.dO k (s+1)).bD i).length then some (Zb ((n.dO k (s+1)).cG i g))else none)=some B:=hB
  rw[mQ]at Lo;split at Lo
  ·rename_i a
   have hg:g<n.aA k:=by
    have:=a.2;rw[(kK a.1).2.2.2]at this;simpa using this
   rw[uV a.1 hg]at Lo
   by_cases e:i=s
   ·subst e;rw[h5 g hg,Lo]
   ·refine h0 (.pg i g) B (by simp) (by simp) ?_
    show(if i<(n.dO k s).pop.length/\g<((n.dO k s).bD i).length then some (Zb ((n.dO k s).cG i g))else none)=_
    rw[mQ,(kK (show i<s by omega)).2.2.2,List.length_replicate,ab ⟨by omega,hg⟩,uV (by omega) hg]
    exact Lo
  ·simp at Lo
theorem Ue{n:ao}{k:Nat}{A B:ag}:AS (n.dO k 0) (fp (n.aA k)) [A,⟨none,(List.replicate k false).map .bool,.live⟩,B]:=by
 refine⟨λt C hC=>?_,λt u A B hA hB e=>w7 (pz hA) (pz hB) e⟩;cases t with
 |ac=>rw[<-hC];rfl
 |ls q=>cases q<;>simp[ao.cont,ao.tb,ao.dO]at hC
 |rw q s=>cases q<;>simp[ao.cont,ao.tb,ao.dO]at hC
 |_=>simp[ao.cont,ao.dO]at hC
theorem w8{n:ao}{k s:Nat}:(n.dO k s).bS (fp (n.aA k))=[.int n.calls,.int n.aj,.int n.aq,.int ((n.aA k:Nat):Int),.int 0,.sl 1 k 0 k,cQ (6+n.aA k) s,cQ (7+n.aA k) s,cQ (9+n.aA k) s,cQ (10+n.aA k) s]:=by simp[ao.bS,ao.dO,fp]
theorem Aa{Q:List ag}{B C:ag}:ay (Q ++ [B]) Q.length C=Q ++ [C]:=by rw[sE];simp
theorem w9{τ:List ag}{i:Nat}(h:i<τ.length):∀(Q r:List ag),τ.length<=Q.length->ak (Q++r) i=ak Q i:=λQ r hq=>by
 rw[bE,bE,ft (by omega)]
theorem Uf{τ:List ag}{i:Nat}(h:i<τ.length):∀(Q:List ag) (B:ag),τ.length<=Q.length->ak (ay Q i B) i=some B:=λQ B hq=>cE (by omega)
theorem nV{i j:Nat}(h:i ≠ j):∀(Q:List ag) (B:ag),ak (ay Q i B) j=ak Q j:=λQ B=>aO h
def J1 (a k r g:Nat):ag:=⟨none,(List.range k).map λi=>if i<g then iw (a+i) r else .ah,.live⟩
theorem amm{a k r g:Nat}:((List.range k).map λi=>if i<g then iw (a+i) r else .ah).set g (iw (a+g) r)=(List.range k).map λi=>if i<g+1 then iw (a+i) r else .ah:=by
 apply mC (by simp)
 intro i h1 h2;rw[List.getElem_set];simp only[oN,List.getElem_range]
 by_cases e:g=i
 ·subst e;rw[ab rfl,ab (by omega)]
 ·rw[aa e]
  by_cases h:i<g
  ·rw[ab h,ab (by omega)]
  ·rw[aa h,aa (by omega)]
theorem Ug{a k r:Nat}:J1 a k r 0=⟨none,List.replicate k .ah,.live⟩:=by
 unfold J1
 congr 1
 apply mC (by simp)
 intro i h1 h2;simp
theorem gj{Q r:List ag}{i:Nat}(h:i<Q.length):ak (Q++r) i=ak Q i:=by rw[bE,bE,ft h]
theorem amn{Q r:List ag}{i:Nat}(h:Q.length<=i):ak (Q++r) i=ak r (i-Q.length):=by rw[bE,bE,gm h]
theorem Fc{Q r:List ag}{i m:Nat}(h:i=Q.length+m):ak (Q++r) i=ak r m:=by rw[amn (by omega)];congr 1;omega
theorem J2{k:Nat}{t:Tn}(ht:t.Gq k):fp k t ≠ 2/\fp k t ≠ 0:=by
 rcases vM ht with⟨s,o,h1,h2,h3,h4⟩|⟨h1,h2⟩
 ·by_cases z:s=0
  ·subst z;rw[z8]at h2;omega
  ·have:=Fa (k:=k) z;omega
 ·omega
theorem Gr{n:ao}{k s:Nat}{q:Kd}:Fb n k q (s+1)=⟨none,(List.range s).map (λi=>iw (fp (n.aA k) (.rw q i)) (n.JZ q)) ++ [.sl (fp (n.aA k) (.rw q s)) (n.JZ q) 0 (n.JZ q)],.live⟩:=by
 unfold Fb;rw[mE,kY];rfl
theorem Gs{n:ao}{k s:Nat}:Lm n k (s+1)=⟨none,(List.range s).map (λi=>iw (fp (n.aA k) (.pr i)) (n.aA k)) ++ [.sl (fp (n.aA k) (.pr s)) (n.aA k) 0 (n.aA k)],.live⟩:=by
 unfold Lm;rw[mE,kY];rfl
theorem Uh{n:ao}{k s a:Nat}(h:a=fB (n.aA k) s+2):J1 a (n.aA k) n.aq.toNat (n.aA k)=WT n k s:=by
 unfold J1 WT
 congr 1
 refine gf λi hi=>?_;rw[ab (cy.1 hi),h];rfl
theorem rQ{ce:CE}{σ:List ag}{n:Nat}{c0 c1 c2 c3 c4 c5 c6 c7 c8 c9:AV}(h:ak σ n=some ⟨some 10,[c0,c1,c2,c3,c4,c5,c6,c7,c8,c9],.live⟩):ev ce σ 0 [] (λ_=>.ptr n (aC (some 10)) 0) (.ld (.v 0) (some 10))=some (.agg [c0,c1,c2,c3,c4,c5,c6,c7,c8,c9],none):=by
 have hu:upto σ n (aC (some 10))=some ⟨some 10,[c0,c1,c2,c3,c4,c5,c6,c7,c8,c9],.live⟩:=by unfold upto;rw[h];rfl
 simp only[ev,hu]
 rfl
theorem Ui (n:ao) (hn:n.Ok) (k:Nat) (hk:k<=128) (nZ:k*n.calls.toNat<=128):LX L wN [n.av,.int k] [] (λr τ=>r = .agg ((n.dO k k).bS (fp (n.aA k)))/\AS (n.dO k k) (fp (n.aA k)) τ):=by
 refine aia rfl ?_;have hc:=hn.calls;have hi:=hn.aj;have hr:=hn.aq;have hmul:(k:Int)*n.calls=((k*n.calls.toNat:Nat):Int):=by rw[oy];congr 1;omega
 have bR:max 1 ((k:Int)*n.calls)=((n.aA k:Nat):Int):=by rw[hmul];unfold ao.aA;omega
 have JB:n.aA k<=128:=by unfold ao.aA;omega
 have hkc:0<=(k:Int)*n.calls/\(k:Int)*n.calls<=128:=by rw[hmul];exact⟨Int.natCast_nonneg _,Int.ofNat_le.2 nZ⟩
 simp[-al,-List.map_replicate,bR];refine⟨by omega,by omega,?_⟩
 refine bC (λq:Nat×List ag=>[(3,.int q.1)]) (λq=>q.2) (λq=>q.1<=k/\AS (n.dO k q.1) (fp (n.aA k)) q.2/\ak q.2 2=some ⟨some 10,(n.dO k q.1).bS (fp (n.aA k)),.live⟩/\q.2.length=fB (n.aA k) q.1/\ak q.2 0=some ⟨some 10,[.int 0,.int 0,.int 0,.int 0,.int 0,.ah,.ah,.ah,.ah,.ah],.live⟩) (λq=>k-q.1) (0,[⟨some 10,[.int 0,.int 0,.int 0,.int 0,.int 0,.ah,.ah,.ah,.ah,.ah],.live⟩,⟨none,(List.replicate k false).map .bool,.live⟩,⟨some 10,[.int n.calls,.int n.aj,.int n.aq,.int ((n.aA k:Nat):Int),.int 0,.sl 1 k 0 k,.ah,.ah,.ah,.ah],.live⟩]) (by simp[bT]) ⟨by simp,Ue,by simp[ak,ao.bS,ao.dO,cQ,fp],by simp[fB],by simp[ak]⟩ ?_
 rintro⟨s,σ⟩ ⟨s0,hA,xH,hlen,mZ⟩;dsimp only at s0 hA xH hlen mZ ⊢
 by_cases hs:s<k
 ·have hsc:0<=(s:Int)*n.calls/\(s:Int)*n.calls<=128:=⟨Int.mul_nonneg (by omega) hc.1,by have:=Int.mul_le_mul_of_nonneg_right (show(s:Int)<=k by omega) hc.1;omega⟩
  simp[-al,hs];refine bC (λc:Nat=>[(5,.int c),(7,.sl σ.length c 0 c)]) (λc=>σ ++ [fv (n.vN s c)]) (λc=>c<=n.calls.toNat) (λc=>n.calls.toNat-c) 0 (by simp[bT,ao.vN]) (by omega) ?_
  intro c c0
  by_cases lI:c<n.calls.toNat
  ·have r6:=bM (show(c:Int)<n.calls by omega)
   have hb:=λB:ag=>(iq (Q:=σ) (r:=[]) (B:=B));have AZ:=aml (n:=n) (s:=s) (j:=c);have gV:=JY (n:=n) (s:=s) (j:=c);generalize n.vN s c=P at *;simp[-al,r6,hb,gV];refine⟨by omega,by omega,by split<;>rfl,by omega,by omega,ba (c+1) (by simp) ?_ (by omega) (by omega)⟩
   rw[Aa,AZ];simp[fv]
  ·have r6:=gg (show ¬(c:Int)<n.calls by omega)
   have ec:c=n.calls.toNat:=by omega
   have Uj:∀r:List ag,ak (σ++r) 2=_:=λr=>gi (r:=r) xH;rw[w8]at Uj;have gV:=JY (n:=n) (s:=s) (j:=c);simp[-al,-List.map_replicate,-Int.toNat_natCast,r6,Uj];simp only[kE,<-Ug (a:=σ.length+2) (r:=n.aq.toNat)];refine⟨by omega,?_⟩
   refine bC (λq:Nat×List ag=>[(12,.int q.1)]) (λq=>q.2) (λq=>q.1<=n.aA k/\(∀b,b<σ.length->ak q.2 b=ak σ b)/\ak q.2 σ.length=some (fv (n.vN s c))/\ak q.2 (σ.length+1)=some (J1 (σ.length+2) (n.aA k) n.aq.toNat q.1)/\(∀g,g<q.1->ak q.2 (σ.length+2+g)=some (Zb (List.replicate n.aq.toNat 0)))/\q.2.length=σ.length+2+q.1) (λq=>n.aA k-q.1) (0,σ ++ [fv (n.vN s c),J1 (σ.length+2) (n.aA k) n.aq.toNat 0]) (by simp[bT]) ⟨by simp,λb hb=>by rw[bE,bE,List.getElem?_append_left hb],iq,Jj,λg h=>by dsimp only at h;omega,by simp⟩ ?_
   rintro⟨g,τ⟩ ⟨g0,ng,hP,hR,hG,aK⟩;dsimp only at g0 ng hP hR hG aK ⊢
   by_cases hg:g<n.aA k
   ·unfold J1 at hR
    have hR2:∀B:ag,ak (τ ++ [B]) (σ.length+1)=_:=λB=>gi (r:=[B]) hR;simp[-al,-List.map_replicate,hg,hR,hR2];refine⟨by omega,by omega,by omega,ba (g+1,_) (by simp) rfl ⟨by dsimp only;omega,λb hb=>?_,?_,?_,λi hi=>?_,?_⟩ (by dsimp only;omega)⟩
    ·dsimp only
     rw[aO (by omega),<-ng b hb,bE,bE,ft (by omega)]
    ·dsimp only
     rw[aO (by omega)];exact gi hP
    ·dsimp only
     rw[cE (by simp;omega)]
     show some (⟨none,_,.live⟩:ag)=_;rw[aK];rw[show(AV.sl (σ.length+2+g) n.aq.toNat 0 n.aq.toNat).cells=[iw (σ.length+2+g) n.aq.toNat]from rfl,rM,amm];rfl
    ·dsimp only at hi ⊢
     rw[aO (by omega)]
     by_cases e:i=g
     ·subst e
      rw[<-aK];exact iq
     ·exact gi (hG i (by omega))
    ·dsimp only
     rw[bZ,bu,aK];simp;omega
   ·have eg:g=n.aA k:=by omega
    subst eg;have uW:=(ng 2 (by rw[hlen];unfold fB;split<;>omega)).trans xH
    rw[w8]at uW
    by_cases hz:s=0
    ·subst hz
     rw[show cQ (6+n.aA k) 0 = .ah from rfl,show cQ (7+n.aA k) 0 = .ah from rfl,show cQ (9+n.aA k) 0 = .ah from rfl,show cQ (10+n.aA k) 0 = .ah from rfl]at uW;have l2:2<τ.length:=by omega
     have a2:=w9 l2;have s2:=Uf l2;simp[-al,-List.map_replicate,uW,a2,s2,Nat.le_add_right_of_le,bZ];have qi : σ.length=3:=hlen;refine⟨by omega,by omega,ba (1,_) (by simp) rfl ⟨by dsimp only;omega,Ud hA (λt B t1 t2 hB=>?_) (λq=>?_) ?_ ?_ ?_ ?_ ?_ (λg hg=>?_),?_,?_,?_⟩ (by dsimp only;omega)⟩
     ·have f1:=hA.lt hB
      have f2:=(J2 (pz hB)).1;have:=hA.has t B hB;rw[<-ng _ f1]at this;simp(disch:=((try simp only[bZ,bu,cw,dD]);omega)) only[aO,gj]
      exact this
     ·rw[Gr]
      cases q
      ·rw[show fp (n.aA k) (.ls .cl)=τ.length+1 by simp[fp];omega]
       simp(disch:=((try simp only[bZ,bu,cw,dD]);omega)) only[aO,gj]
       rw[Jj,show τ.length=fp (n.aA k) (.rw .cl 0)by simp[fp,fB];omega];rfl
      ·rw[show fp (n.aA k) (.ls .ps)=τ.length+2 by simp[fp];omega]
       simp(disch:=((try simp only[bZ,bu,cw,dD]);omega)) only[aO,gj]
       rw[akX,qi, ec];rfl
      ·rw[show fp (n.aA k) (.ls .aQ)=τ.length+3+1 by simp[fp];omega]
       simp(disch:=((try simp only[bZ,bu,cw,dD]);omega)) only[aO]
       rw[Fc (m:=1) (by simp only[bZ,bu,cw,dD];try omega),show τ.length+3=fp (n.aA k) (.rw .aQ 0)by simp[fp,fB];omega];rfl
     ·rw[Gs,show fp (n.aA k) .po=τ.length+3+2 by simp[fp];omega]
      simp(disch:=((try simp only[bZ,bu,cw,dD]);omega)) only[aO]
      rw[Fc (m:=2) (by simp only[bZ,bu,cw,dD];try omega),qi];try rfl
     ·rw[show fp (n.aA k) (.rw .cl 0)=τ.length by simp[fp,fB];omega]
      simp(disch:=((try simp only[bZ,bu,cw,dD]);omega)) only[aO,gj]
      exact iq
     ·rw[show fp (n.aA k) (.rw .ps 0)=σ.length by rw[qi];rfl]
      simp(disch:=((try simp only[bZ,bu,cw,dD]);omega)) only[aO,gj]
      rw[hP,ec]
     ·rw[show fp (n.aA k) (.rw .aQ 0)=τ.length+3 by simp[fp,fB];omega]
      simp(disch:=((try simp only[bZ,bu,cw,dD]);omega)) only[aO]
      rw[Fc (m:=0) (by simp only[bZ,bu,cw,dD];try omega)]
     ·rw[show fp (n.aA k) (.pr 0)=σ.length+1 by rw[qi];rfl]
      simp(disch:=((try simp only[bZ,bu,cw,dD]);omega)) only[aO,gj]
      rw[hR,Uh (s:=0) (by rw[qi];rfl)]
     ·rw[show fp (n.aA k) (.pg 0 g)=σ.length+2+g by rw[qi];rfl]
      simp(disch:=((try simp only[bZ,bu,cw,dD]);omega)) only[aO,gj]
      exact hG g hg
     ·dsimp only
      rw[cE (by simp only[bZ,bu,cw,dD];try omega),w8,show cQ (6+n.aA k) 1 = .sl (6+n.aA k) 1 0 1 from rfl,show cQ (7+n.aA k) 1 = .sl (7+n.aA k) 1 0 1 from rfl,show cQ (9+n.aA k) 1 = .sl (9+n.aA k) 1 0 1 from rfl,show cQ (10+n.aA k) 1 = .sl (10+n.aA k) 1 0 1 from rfl,show τ.length+1=6+n.aA k by omega,show τ.length+2=7+n.aA k by omega,show τ.length+3+1=9+n.aA k by omega,show τ.length+3+2=10+n.aA k by omega]
     ·dsimp only
      rw[ami];simp only[bZ,bu,cw,dD];omega
     ·dsimp only
      simp(disch:=((try simp only[bZ,bu,cw,dD]);omega)) only[aO,gj]
      rw[ng 0 (by omega)];exact mZ
    ·rw[show cQ (6+n.aA k) s = .sl (6+n.aA k) s 0 s from aa hz,show cQ (7+n.aA k) s = .sl (7+n.aA k) s 0 s from aa hz,show cQ (9+n.aA k) s = .sl (9+n.aA k) s 0 s from aa hz,show cQ (10+n.aA k) s = .sl (10+n.aA k) s 0 s from aa hz]at uW
     have hB:=Fa (k:=n.aA k) hz;have lk:∀q:Kd,ak τ (fp (n.aA k) (.ls q))=some (Fb n k q s):=λq=>(ng _ (by cases q<;>simp[fp]<;>omega)).trans (hA.has (.ls q) _ (Ua hz))
     have b10:ak τ (10+n.aA k)=some (Lm n k s):=(ng _ (by omega)).trans (hA.has .po _ (Ub hz))
     have b6:ak τ (6+n.aA k)=some (Fb n k .cl s):=lk .cl;have b7:ak τ (7+n.aA k)=some (Fb n k .ps s):=lk .ps;have b9:ak τ (9+n.aA k)=some (Fb n k .aQ s):=lk .aQ;have a2:=w9 (τ:=τ) (i:=2) (by omega)
     have a6:=w9 (τ:=τ) (i:=6+n.aA k) (by omega)
     have a7:=w9 (τ:=τ) (i:=7+n.aA k) (by omega)
     have a9:=w9 (τ:=τ) (i:=9+n.aA k) (by omega)
     have a10:=w9 (τ:=τ) (i:=10+n.aA k) (by omega)
     have s2:=Uf (τ:=τ) (i:=2) (by omega)
     have n1:=nV (i:=6+n.aA k) (j:=7+n.aA k) (by omega)
     have n2:=nV (i:=6+n.aA k) (j:=2) (by omega)
     have n3:=nV (i:=7+n.aA k) (j:=2) (by omega)
     have n4:=nV (i:=6+n.aA k) (j:=9+n.aA k) (by omega)
     have n5:=nV (i:=7+n.aA k) (j:=9+n.aA k) (by omega)
     have n6:=nV (i:=2) (j:=9+n.aA k) (by omega)
     have n7:=nV (i:=6+n.aA k) (j:=10+n.aA k) (by omega)
     have n8:=nV (i:=7+n.aA k) (j:=10+n.aA k) (by omega)
     have n9:=nV (i:=9+n.aA k) (j:=10+n.aA k) (by omega)
     have n10:=nV (i:=2) (j:=10+n.aA k) (by omega)
     have n11:=nV (i:=9+n.aA k) (j:=2) (by omega)
     have n12:=nV (i:=10+n.aA k) (j:=2) (by omega)
     unfold Fb at b6 b7 b9;unfold Lm at b10;simp[-al,-List.map_replicate,uW,a2,a6,a7,a9,a10,s2,Nat.le_add_right_of_le,n1,n2,n3,n4,n5,n6,n7,n8,n9,n10,n11,n12,b6,b7,b9,b10,bZ];refine⟨by omega,by omega,by omega,by omega,by omega,ba (s+1,_) (by simp) rfl ⟨by dsimp only;omega,Ud hA (λt B t1 t2 hB=>?_) (λq=>?_) ?_ ?_ ?_ ?_ ?_ (λg hg=>?_),?_,?_,?_⟩ (by dsimp only;omega)⟩
     ·have f1:=hA.lt hB
      have f2:=(J2 (pz hB)).1;have f6:fp (n.aA k) t ≠ 6+n.aA k:=λe=>t1 .cl (w7 (pz hB) trivial e);have f7:fp (n.aA k) t ≠ 7+n.aA k:=λe=>t1 .ps (w7 (pz hB) trivial e);have f9:fp (n.aA k) t ≠ 9+n.aA k:=λe=>t1 .aQ (w7 (pz hB) trivial e);have f10:fp (n.aA k) t ≠ 10+n.aA k:=λe=>t2 (w7 (pz hB) trivial e);have:=hA.has t B hB;rw[<-ng _ f1]at this;simp(disch:=((try simp only[bZ,bu,cw,dD]);omega)) only[aO,gj]
      exact this
     ·rw[Gr]
      cases q
      ·rw[show fp (n.aA k) (.ls .cl)=6+n.aA k from rfl]
       simp(disch:=((try simp only[bZ,bu,cw,dD]);omega)) only[aO,gj]
       rw[cE (by simp only[bZ,bu,cw,dD];try omega),show τ.length=fp (n.aA k) (.rw .cl s)by simp[fp];omega];rfl
      ·rw[show fp (n.aA k) (.ls .ps)=7+n.aA k from rfl]
       simp(disch:=((try simp only[bZ,bu,cw,dD]);omega)) only[aO,gj]
       rw[cE (by simp only[bZ,bu,cw,dD];try omega),hlen,ec];rfl
      ·rw[show fp (n.aA k) (.ls .aQ)=9+n.aA k from rfl]
       simp(disch:=((try simp only[bZ,bu,cw,dD]);omega)) only[aO,gj]
       rw[cE (by simp only[bZ,bu,cw,dD];try omega),show τ.length+1=fp (n.aA k) (.rw .aQ s)by simp[fp,hz];omega];rfl
     ·rw[Gs,show fp (n.aA k) .po=10+n.aA k from rfl]
      simp(disch:=((try simp only[bZ,bu,cw,dD]);omega)) only[aO,gj]
      rw[cE (by simp only[bZ,bu,cw,dD];try omega),hlen];rfl
     ·rw[show fp (n.aA k) (.rw .cl s)=τ.length by simp[fp];omega]
      simp(disch:=((try simp only[bZ,bu,cw,dD]);omega)) only[aO,gj]
      exact iq
     ·rw[show fp (n.aA k) (.rw .ps s)=σ.length by rw[hlen];rfl]
      simp(disch:=((try simp only[bZ,bu,cw,dD]);omega)) only[aO,gj]
      rw[hP,ec]
     ·rw[show fp (n.aA k) (.rw .aQ s)=τ.length+1 by simp[fp,hz];omega]
      simp(disch:=((try simp only[bZ,bu,cw,dD]);omega)) only[aO]
      rw[Fc (m:=0) (by simp only[bZ,bu,cw,dD];try omega)]
     ·rw[show fp (n.aA k) (.pr s)=σ.length+1 by rw[hlen];rfl]
      simp(disch:=((try simp only[bZ,bu,cw,dD]);omega)) only[aO,gj]
      rw[hR,Uh (s:=s) (by rw[hlen])]
     ·rw[show fp (n.aA k) (.pg s g)=σ.length+2+g by rw[hlen];rfl]
      simp(disch:=((try simp only[bZ,bu,cw,dD]);omega)) only[aO,gj]
      exact hG g hg
     ·dsimp only
      rw[cE (by simp only[bZ,bu,cw,dD];try omega),w8]
      rfl
     ·dsimp only
      rw[amj hz];simp only[bZ,bu,cw,dD];omega
     ·dsimp only
      simp(disch:=((try simp only[bZ,bu,cw,dD]);omega)) only[aO,gj]
      rw[ng 0 (by omega)];exact mZ
 ·have es:s=k:=by omega
  subst es;rw[w8]at xH;have Uk:∀b m:Nat,dK (cQ b m)=true:=λb m=>by unfold cQ;split<;>rfl
  have ij:∀B:ag,ak (ay σ 0 B) 0=some B:=λB=>cE (by rw[hlen];unfold fB;split<;>omega)
  have vA:=λ(ce:CE) (c0 c1 c2 c3 c4 c5 c6 c7 c8 c9:AV)=>rQ (ce:=ce) (σ:=ay σ 0 ⟨some 10,[c0,c1,c2,c3,c4,c5,c6,c7,c8,c9],.live⟩) (n:=0) (ij _);simp[-al,xH,mZ,Uk,ij,vA];exact⟨w8.symm,hA.other λt B hB=>aO (Ne.symm (J2 (pz hB)).2)⟩
abbrev eO:=Int×Int×List Int
def me (c:eO):AV:=.agg [.int c.1,.int c.2.1,iL c.2.2]
abbrev Lp (l:List eO):AV:=.aE false (l.map me)
structure WU (D:Vd) (cls:List Int) (l:List eO):Prop where
 vn:jO D
 vo:tz D
 k:1<=l.length/\l.length<=128
 kc:l.length*D.n.calls.toNat<=128
 cl:cls.length=D.K.length
 cr:∀c∈cls,0<=c/\c<(l.length:Int)
 v:∀c∈l,0<=c.2.1/\c.2.1<(D.K.length:Int)
 c:∀c∈l,0<=c.1/\c.1<(l.length:Int)
 nd:(l.map λc=>c.1).Nodup
 s0:D.n.start<(D.plc.length:Int)
 s1:0<=D.iO/\D.iO<(D.n.bj.length:Int)
def xa (l:List eO) (i:Nat):Int:=(ix l (i:Int)).2.1
def vO (l:List eO) (i:Nat):Int:=(ix l (i:Int)).1
def WV (st cls:List Int) (y:Int):Int:=ix st (ix cls y)
def uX (D:Vd) (cls:List Int) (l:List eO) (st:List Int) (i g r:Nat):Int:=if D.n.calls.toNat=0 then 0 else WV st cls (D.bk (xa l (g/D.n.calls.toNat)) ((g%D.n.calls.toNat:Nat):Int) (xa l i) (r:Int))
def Fe (D:Vd) (cls:List Int) (l:List eO) (st:List Int) (i j:Nat):Int:=WV st cls (D.im (xa l i) (j:Int))
structure mn (D:Vd) (cls:List Int) (l:List eO) (st:List Int) (a s J G R:Nat) (A:ao):Prop where
 h1:A.calls=D.n.calls
 h2:A.aj=D.n.aj
 h3:A.aq=D.n.aq
 h4:A.stack=((D.n.aA l.length:Nat):Int)
 h5:A.start=0
 h6:A.call=(D.n.dO l.length l.length).call
 h7:A.push=(D.n.dO l.length l.length).push
 la:A.accept.length=l.length
 li:A.inner.length=l.length
 qt:∀i,i<l.length->(A.cC .aQ i).length=D.n.aj.toNat
 lp:A.pop.length=l.length
 mR:∀i,i<l.length->(A.bD i).length=D.n.aA l.length
 qu:∀i g,i<l.length->g<D.n.aA l.length->(A.cG i g).length=D.n.aq.toNat
 ac:∀i:Nat,i<l.length->ix A.accept (i:Int)=if i<a then D.ac D.iO (xa l i)else false
 aQ:∀i j:Nat,i<l.length->j<D.n.aj.toNat->ix (A.cC .aQ i) (j:Int)=if i<s\/i=s/\j<J then Fe D cls l st i j else 0
 pop:∀i g r:Nat,i<l.length->g<D.n.aA l.length->r<D.n.aq.toNat->ix (A.cG i g) (r:Int)=if i<s\/i=s/\(g<G\/g=G/\r<R)then uX D cls l st i g r else 0
theorem Ul{D:Vd}{cls st:List Int}{l:List eO}:mn D cls l st 0 0 0 0 0 (D.n.dO l.length l.length):=by
 refine⟨rfl,rfl,rfl,rfl,rfl,rfl,rfl,by simp[ao.dO],by simp[ao.dO],λi hi=>by rw[J0 hi];rfl,mQ,λi hi=>by rw[(kK hi).2.2.2];simp,λi g hi hg=>by rw[uV hi hg];simp,λi hi=>?_,λi j hi hj=>?_,λi g r hi hg hr=>?_⟩
 ·rw[aa (by omega)];exact lh hi
 ·rw[aa (by omega),(kK hi).2.2.1];exact lh hj
 ·rw[aa (by omega),uV hi hg];exact lh hr
theorem mn.bS{D:Vd}{cls st:List Int}{l:List eO}{a s J G R:Nat}{A:ao}(h:mn D cls l st a s J G R A) (hk:l.length ≠ 0) (p:Tn->Nat):A.bS p=[.int D.n.calls,.int D.n.aj,.int D.n.aq,.int ((D.n.aA l.length:Nat):Int),.int 0,.sl (p .ac) l.length 0 l.length,.sl (p (.ls .cl)) l.length 0 l.length,.sl (p (.ls .ps)) l.length 0 l.length,.sl (p (.ls .aQ)) l.length 0 l.length,.sl (p .po) l.length 0 l.length]:=by
 have e1:A.call.length=l.length:=by rw[h.h6];exact mP .cl
 have e2:A.push.length=l.length:=by rw[h.h7];exact mP .ps
 unfold ao.bS cQ;rw[h.h1,h.h2,h.h3,h.h4,h.h5,h.la,e1,e2,h.li,h.lp,aa hk,aa hk,aa hk,aa hk]
theorem mn.mM{D:Vd}{cls st:List Int}{l:List eO}{s J G R:Nat}{A:ao}(h:mn D cls l st s s J G R A) (hs:s<l.length):mn D cls l st (s+1) s J G R {A with accept:=A.accept.set s (D.ac D.iO (xa l s))}:=by
 refine⟨h.h1,h.h2,h.h3,h.h4,h.h5,h.h6,h.h7,by simp[h.la],h.li,h.qt,h.lp,h.mR,h.qu,λi hi=>?_,h.aQ,h.pop⟩
 show ix (A.accept.set s _) (i:Int)=_;rw[iY (by rw[h.la];exact hs)]
 by_cases e:i=s
 ·rw[ab e,ab (by omega),e]
 ·rw[aa e,h.ac i hi]
  by_cases e2:i<s
  ·rw[ab e2,ab (by omega)]
  ·rw[aa e2,aa (by omega)]
theorem mn.mN{D:Vd}{cls st:List Int}{l:List eO}{a s J G R:Nat}{A:ao}(h:mn D cls l st a s J G R A) (hs:s<l.length) (hJ:J<D.n.aj.toNat):mn D cls l st a s (J+1) G R {A with inner:=A.inner.set s ((A.cC .aQ s).set J (Fe D cls l st s J))}:=by
 have eu:∀s' : Nat,ao.cC {A with inner:=A.inner.set s ((A.cC .aQ s).set J (Fe D cls l st s J))} .aQ s' = if s' = s then(A.cC .aQ s).set J (Fe D cls l st s J)else A.cC .aQ s' :=λs' =>iY (by rw[h.li];exact hs) s'
 refine⟨h.h1,h.h2,h.h3,h.h4,h.h5,h.h6,h.h7,h.la,by simp[h.li],λi hi=>?_,h.lp,h.mR,h.qu,h.ac,λi j hi hj=>?_,h.pop⟩
 ·rw[eu]
  split
  ·rw[nJ];exact h.qt s hs
  ·exact h.qt i hi
 ·rw[eu]
  by_cases e:i=s
  ·rw[ab e,iY (by rw[h.qt s hs];exact hJ)]
   by_cases e2:j=J
   ·rw[ab e2,ab (.inr ⟨e,by omega⟩),e,e2]
   ·subst e
    rw[aa e2,h.aQ i j hi hj]
    by_cases e3:j<J
    ·rw[ab (.inr ⟨rfl,e3⟩),ab (.inr ⟨rfl,by omega⟩)]
    ·rw[aa (by omega),aa (by omega)]
  ·rw[aa e,h.aQ i j hi hj]
   by_cases e3:i<s
   ·rw[ab (.inl e3),ab (.inl e3)]
   ·rw[aa (by omega),aa (by omega)]
theorem mn.mO{D:Vd}{cls st:List Int}{l:List eO}{a s J G R:Nat}{A:ao}(h:mn D cls l st a s J G R A) (hs:s<l.length) (hG:G<D.n.aA l.length) (hR:R<D.n.aq.toNat):mn D cls l st a s J G (R+1) {A with pop:=A.pop.set s ((A.bD s).set G ((A.cG s G).set R (uX D cls l st s G R)))}:=by
 have eu:∀s' : Nat,ao.bD {A with pop:=A.pop.set s ((A.bD s).set G ((A.cG s G).set R (uX D cls l st s G R)))} s' = if s' = s then(A.bD s).set G ((A.cG s G).set R (uX D cls l st s G R))else A.bD s' :=λs' =>iY (by rw[h.lp];exact hs) s'
 have ju:∀s' g' : Nat,ao.cG {A with pop:=A.pop.set s ((A.bD s).set G ((A.cG s G).set R (uX D cls l st s G R)))} s' g' = if s' = s/\g' = G then(A.cG s G).set R (uX D cls l st s G R)else A.cG s' g' :=λs' g' =>by
  generalize (A.cG s G).set R (uX D cls l st s G R)=w at *;unfold ao.cG;rw[eu]
  by_cases e:s' = s
  ·rw[ab e,iY (by rw[h.mR s hs];exact hG)]
   by_cases e2:g' = G
   ·rw[ab e2,ab ⟨e,e2⟩]
   ·rw[aa e2,aa λa=>e2 a.2,e]
  ·rw[aa e,aa λa=>e a.1]
 refine⟨h.h1,h.h2,h.h3,h.h4,h.h5,h.h6,h.h7,h.la,h.li,h.qt,by simp[h.lp],λi hi=>?_,λi g hi hg=>?_,h.ac,h.aQ,λi g r hi hg hr=>?_⟩
 ·rw[eu]
  split
  ·rw[nJ];exact h.mR s hs
  ·exact h.mR i hi
 ·rw[ju]
  split
  ·rw[nJ];exact h.qu s G hs hG
  ·exact h.qu i g hi hg
 ·rw[ju]
  by_cases e:i=s/\g=G
  ·rw[ab e,iY (by rw[h.qu s G hs hG];exact hR)]
   by_cases e2:r=R
   ·rw[ab e2,ab (.inr ⟨e.1,.inr ⟨e.2,by omega⟩⟩),e.1,e.2,e2]
   ·have hp:=h.pop s G r hs hG hr
    rw[aa e2,hp,e.1,e.2]
    by_cases e3:r<R
    ·rw[ab (.inr ⟨rfl,.inr ⟨rfl,e3⟩⟩),ab (.inr ⟨rfl,.inr ⟨rfl,by omega⟩⟩)]
    ·rw[aa (by omega),aa (by omega)]
  ·rw[aa e,h.pop i g r hi hg hr]
   by_cases e3:i<s\/i=s/\(g<G\/g=G/\r<R)
   ·rw[ab e3,ab (by omega)]
   ·rw[aa e3,aa (by omega)]
theorem mn.Ac{D:Vd}{cls st:List Int}{l:List eO}{a s J G:Nat}{A:ao}(h:mn D cls l st a s J G D.n.aq.toNat A):mn D cls l st a s J (G+1) 0 A:=by
 refine⟨h.h1,h.h2,h.h3,h.h4,h.h5,h.h6,h.h7,h.la,h.li,h.qt,h.lp,h.mR,h.qu,h.ac,h.aQ,λi g r hi hg hr=>?_⟩;rw[h.pop i g r hi hg hr]
 by_cases e3:i<s\/i=s/\(g<G\/g=G/\r<D.n.aq.toNat)
 ·rw[ab e3,ab (by omega)]
 ·rw[aa e3,aa (by omega)]
theorem mn.Ad{D:Vd}{cls st:List Int}{l:List eO}{s:Nat}{A:ao}(h:mn D cls l st (s+1) s D.n.aj.toNat (l.length*D.n.calls.toNat) 0 A):mn D cls l st (s+1) (s+1) 0 0 0 A:=by
 refine⟨h.h1,h.h2,h.h3,h.h4,h.h5,h.h6,h.h7,h.la,h.li,h.qt,h.lp,h.mR,h.qu,h.ac,λi j hi hj=>?_,λi g r hi hg hr=>?_⟩
 ·rw[h.aQ i j hi hj]
  by_cases e3:i<s\/i=s/\j<D.n.aj.toNat
  ·rw[ab e3,ab (by omega)]
  ·rw[aa e3,aa (by omega)]
 ·rw[h.pop i g r hi hg hr]
  by_cases hc:D.n.calls.toNat=0
  ·have:uX D cls l st i g r=0:=ab hc
   rw[this];simp
  ·have bR:D.n.aA l.length=max 1 (l.length*D.n.calls.toNat):=rfl
   have:1<=l.length*D.n.calls.toNat:=Nat.mul_pos (by omega) (by omega)
   by_cases e3:i<s\/i=s/\(g<l.length*D.n.calls.toNat\/g=l.length*D.n.calls.toNat/\r<0)
   ·rw[ab e3,ab (by omega)]
   ·rw[aa e3,aa (by omega)]
def tC (D:Vd) (cls:List Int) (l:List eO) (st:List Int):ao:=⟨D.n.calls,D.n.aj,D.n.aq,((D.n.aA l.length:Nat):Int),0,(List.range l.length).map λi=>D.ac D.iO (xa l i),(D.n.dO l.length l.length).call,(D.n.dO l.length l.length).push,(List.range l.length).map λi=>(List.range D.n.aj.toNat).map λj=>Fe D cls l st i j,(List.range l.length).map λi=>(List.range (D.n.aA l.length)).map λg=>(List.range D.n.aq.toNat).map λr=>uX D cls l st i g r⟩
theorem nW{α:Type} [Inhabited α]{l:List α}{k:Nat}{f:Nat->α}(hl:l.length=k) (h:∀i:Nat,i<k->ix l (i:Int)=f i):l=(List.range k).map f:=by
 refine mC (by simp[hl]) λi h1 h2=>?_
 have:=h i (by omega)
 rw[aS h1]at this;simp[this]
theorem mn.fin{D:Vd}{cls st:List Int}{l:List eO}{A:ao}(h:mn D cls l st l.length l.length 0 0 0 A):A=tC D cls l st:=by
 obtain⟨c,i,r,sk,s0,ac,cl,ps,aQ,po⟩:=A;have e1:c=D.n.calls:=h.h1;have e2:i=D.n.aj:=h.h2;have e3:r=D.n.aq:=h.h3;have e4:sk=((D.n.aA l.length:Nat):Int):=h.h4;have e5:s0=0:=h.h5;have e6:cl=(D.n.dO l.length l.length).call:=h.h6;have e7:ps=(D.n.dO l.length l.length).push:=h.h7;have e8:ac=(List.range l.length).map λi=>D.ac D.iO (xa l i):=nW h.la λi hi=>by
  have:=h.ac i hi;rw[ab hi]at this;exact this
 have e9:aQ=(List.range l.length).map λi=>(List.range D.n.aj.toNat).map λj=>Fe D cls l st i j:=nW h.li λi hi=>nW (h.qt i hi) λj hj=>by
  have:=h.aQ i j hi hj;rw[ab (.inl hi)]at this;exact this
 have e10:po=(List.range l.length).map λi=>(List.range (D.n.aA l.length)).map λg=>(List.range D.n.aq.toNat).map λr=>uX D cls l st i g r:=nW h.lp λi hi=>nW (h.mR i hi) λg hg=>nW (h.qu i g hi hg) λr hr=>by
  have:=h.pop i g r hi hg hr;rw[ab (.inl hi)]at this;exact this
 rw[e1,e2,e3,e4,e5,e6,e7,e8,e9,e10];rfl
end Ab
