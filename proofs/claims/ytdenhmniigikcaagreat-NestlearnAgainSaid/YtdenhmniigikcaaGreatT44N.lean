/- An automaton in memory is given away; and what it leans on. Condition: none. -/
import Derived.Test.YtdenhmniigikcaaGreatT44K
set_option linter.all false
set_option maxRecDepth 100000
set_option maxHeartbeats 4000000
namespace Ab
theorem AS.KL{n:ao}{p:Tn->Nat}{σ:List ag}(h:AS n p σ):Ab.view σ false 11 (.agg (n.bS p))=some n.av:=by
 have eu:∀(k:Kd) (s:Nat) (f:Nat),s<(n.tb k).length->Ab.view σ false (f+2) (iw (p (.rw k s)) (n.cC k s).length)=some (iL (n.cC k s)):=λk s f hs=>by
  have:=h.has (.rw k s) _ (ab hs);cases k
  ·exact gu (k:=f+1) this rfl rfl λ_ _=>rfl
  ·exact gu (k:=f+1) (st:=if n.cC .ps s=[]then .jN else .live) this (by split<;>rfl) rfl λ_ _=>rfl
  ·exact gu (k:=f+1) this rfl rfl λ_ _=>rfl
 have AQ:∀(k:Kd) (f:Nat),Ab.view σ false (f+3) (cQ (p (.ls k)) (n.tb k).length)=some (cK (n.tb k)):=λk f=>by
  have e:cK (n.tb k) = .aE false ((List.range (n.tb k).length).map λs=>iL (n.cC k s)):=by
   unfold ao.cC;rw[qo (f:=iL)]
  rw[e];exact qp (k:=f+2) (f:=λs=>iw (p (.rw k s)) (n.cC k s).length) (λhx=>h.has (.ls k) _ (aa λe=>hx (by rw[e];rfl))) (by simp) λs hs=>eu k s f (cy.1 hs)
 have Gp:∀(f:Nat),Ab.view σ false (f+4) (cQ (p .po) n.pop.length)=some (fU n.pop):=λf=>by
  have e:fU n.pop = .aE false ((List.range n.pop.length).map λs=>cK (n.bD s)):=by
   unfold ao.bD;rw[qo (f:=cK)]
  rw[e];refine qp (k:=f+3) (f:=λs=>iw (p (.pr s)) (n.bD s).length) (λhx=>h.has .po _ (aa λe=>hx (by rw[e];rfl))) (by simp) λs hs=>?_
  have gP :=cy.1 hs;have e2:cK (n.bD s) = .aE false ((List.range (n.bD s).length).map λg=>iL (n.cG s g)):=by
   unfold ao.cG;rw[qo (f:=iL)]
  rw[e2];exact gu (k:=f+2) (f:=λg=>iw (p (.pg s g)) (n.cG s g).length) (h.has (.pr s) _ (ab gP)) rfl (by simp) λg hg=>gu (k:=f+1) (h.has (.pg s g) _ (ab ⟨gP, cy.1 hg⟩)) rfl rfl λ_ _=>rfl
 show Ab.view σ false (10+1) _=_;unfold Ab.view;have hm:bV (Ab.view σ false 10) (n.bS p)=some [.int n.calls,.int n.aj,.int n.aq,.int n.stack,.int n.start,bL n.accept,cK n.call,cK n.push,cK n.inner,fU n.pop]:=by
  refine cF rfl (cF rfl (cF rfl (cF rfl (cF rfl (cF ?_ (cF ?_ (cF ?_ (cF ?_ (cF ?_ rfl)))))))))
  ·exact gu (k:=9) (h.has .ac _ rfl) rfl rfl λ_ _=>rfl
  ·exact AQ .cl 7
  ·exact AQ .ps 7
  ·exact AQ .aQ 7
  ·exact Gp 6
 simp only[hm]
def mr (σ:List ag) (f:Nat) (x:AV) (D:Nat->Prop):Prop:=∀acc,(∀b∈acc,¬D b)->∀b,b∈reach σ f x acc↔b∈acc\/D b
def eC (σ:List ag) (f:Nat) (l:List AV) (D:Nat->Prop):Prop:=∀acc,(∀b∈acc,¬D b)->∀b,b∈l.foldl (λacc y=>reach σ f y acc) acc↔b∈acc\/D b
theorem mr.no{σ:List ag}{f:Nat}{x:AV}(h:Fh x=true):mr σ f x λ_=>False:=λacc _ b=>by rw[J3 h];simp
theorem eC.nos{σ:List ag}{f:Nat}{l:List AV}(h:∀x∈l,Fh x=true):eC σ f l λ_=>False:=λacc _ b=>by rw[J4 l acc h];simp
theorem eC.cons{σ:List ag}{f:Nat}{x:AV}{l:List AV}{D E:Nat->Prop}(h1:mr σ f x D) (h2:eC σ f l E) (hd:∀b,D b->¬E b):eC σ f (x::l) λb=>D b\/E b:=λacc ha b=>by
 rw[oA];have k1:=h1 acc λc hc q=>ha c hc (.inl q);rw[h2 _ (λc hc q=>?_) b,k1 b]
 ·constructor
  ·rintro((a|a)|a)
   ·exact .inl a
   ·exact .inr (.inl a)
   ·exact .inr (.inr a)
  ·rintro(a|a|a)
   ·exact .inl (.inl a)
   ·exact .inl (.inr a)
   ·exact .inr a
 ·rcases(k1 c).1 hc with a|a
  ·exact ha c a (.inr q)
  ·exact hd c a q
theorem eC.fu{σ:List ag}{f:Nat}{g:Nat->AV}{D:Nat->Nat->Prop}:∀(n:Nat),(∀i,i<n->mr σ f (g i) (D i))->(∀i j,i<n->j<n->i ≠ j->∀b,D i b->¬D j b)->eC σ f ((List.range n).map g) λb=>∃i,i<n/\D i b
 |0,_,_=>λacc _ b=>by simp
 |n+1,h,hd=>λacc ha b=>by
  rw[mE,kY,List.foldl_append];have k1:=eC.fu n (λi hi=>h i (by omega)) (λi j hi hj=>hd i j (by omega) (by omega)) acc λc hc ⟨i,hi,q⟩=>ha c hc ⟨i,by omega,q⟩
  show b∈reach σ f (g n) _↔_;rw[h n (by omega) _ (λc hc q=>?_) b,k1 b]
  ·constructor
   ·rintro((a|⟨i,hi,a⟩)|a)
    ·exact .inl a
    ·exact .inr ⟨i,by omega,a⟩
    ·exact .inr ⟨n,by omega,a⟩
   ·rintro(a|⟨i,hi,a⟩)
    ·exact .inl (.inl a)
    ·by_cases e:i=n
     ·subst e;exact .inr a
     ·exact .inl (.inr ⟨i,by omega,a⟩)
  ·rcases(k1 c).1 hc with a|⟨i,hi,a⟩
   ·exact ha c a ⟨n,by omega,q⟩
   ·exact hd i n (by omega) (by omega) (by omega) c a q
theorem mr.sl{σ:List ag}{f b u o n:Nat}{B:ag}{D:Nat->Prop}(hB:ak σ b=some B) (h:eC σ f B.cells D) (hn:¬D b):mr σ (f+1) (.sl b u o n) λx=>x=b\/D x:=λacc ha x=>by
 rw[Us hB λhm=>ha b hm (.inl rfl),h (b::acc) (λc hc q=>by
  rcases cB.1 hc with e|e
  ·subst e;exact hn q
  ·exact ha c e (.inr q)) x,cB]
 constructor
 ·rintro((a|a)|a)
  ·exact .inr (.inl a)
  ·exact .inl a
  ·exact .inr (.inr a)
 ·rintro(a|a|a)
  ·exact .inl (.inr a)
  ·exact .inl (.inl a)
  ·exact .inr a
theorem mr.ptr{σ:List ag}{f b u o:Nat}{B:ag}{D:Nat->Prop}(hB:ak σ b=some B) (h:eC σ f B.cells D) (hn:¬D b):mr σ (f+1) (.ptr b u o) λx=>x=b\/D x:=λacc ha x=>by
 rw[Ut hB λhm=>ha b hm (.inl rfl),h (b::acc) (λc hc q=>by
  rcases cB.1 hc with e|e
  ·subst e;exact hn q
  ·exact ha c e (.inr q)) x,cB]
 constructor
 ·rintro((a|a)|a)
  ·exact .inr (.inl a)
  ·exact .inl a
  ·exact .inr (.inr a)
 ·rintro(a|a|a)
  ·exact .inl (.inr a)
  ·exact .inl (.inl a)
  ·exact .inr a
def jL (A:ao) (p:Tn->Nat) (P:Tn->Prop) (b:Nat):Prop:=∃t B,P t/\A.cont p t=some B/\p t=b
theorem AS.dj{A:ao}{p:Tn->Nat}{σ:List ag}(h:AS A p σ){P Q:Tn->Prop}(hd:∀t,P t->¬Q t):∀b,jL A p P b->¬jL A p Q b:=by
 rintro b ⟨t,B,hP,hB,rfl⟩ ⟨u,C,hQ,hC,e⟩;have:=h.inj t u B C hB hC e.symm;subst this;exact hd t hP hQ
theorem mr.to{σ:List ag}{f:Nat}{x:AV}{D E:Nat->Prop}(h:mr σ f x D) (e:∀b,D b↔E b):mr σ f x E:=by
 rw[show E=D from funext λb=>propext (e b).symm];exact h
theorem AS.cr{A:ao}{p:Tn->Nat}{σ:List ag}(h:AS A p σ){k:Kd}{s f u o n:Nat}(hs:s<(A.tb k).length):mr σ (f+1) (.sl (p (.rw k s)) u o n) (jL A p λt=>t = .rw k s):=by
 have hc:A.cont p (.rw k s)=some (km k (A.cC k s)):=ab hs;refine(mr.sl (h.has _ _ hc) (eC.nos λx hx=>?_) (by simp)).to λb=>?_
 ·cases k<;>(obtain⟨y,_,rfl⟩:=cR.1 hx;rfl)
 ·constructor
  ·rintro(rfl|a)
   ·exact⟨_,_,rfl,hc,rfl⟩
   ·exact absurd a (by simp)
  ·rintro⟨t,B,rfl,_,e⟩
   exact .inl e.symm
theorem V1{σ:List ag}{f b n:Nat}{D E:Nat->Prop}(h0:n=0->∀x,¬E x) (h1:n ≠ 0->mr σ f (.sl b n 0 n) E):mr σ f (cQ b n) E:=by
 by_cases hn:n=0
 ·rw[show cQ b n = .ah from ab hn]
  exact(mr.no rfl).to λb=>⟨λa=>a.elim,λa=>h0 hn b a⟩
 ·rw[show cQ b n = .sl b n 0 n from aa hn]
  exact h1 hn
theorem AS.cls{A:ao}{p:Tn->Nat}{σ:List ag}(h:AS A p σ) (k:Kd){f:Nat}:mr σ (f+2) (cQ (p (.ls k)) (A.tb k).length) (jL A p λt=>t = .ls k\/∃s,t = .rw k s):=by
 refine V1 (D:=λ_=>False) (λh0 x=>?_) λh0=>?_
 ·rintro⟨t,B,ht,hB,_⟩
  rcases ht with rfl|⟨s,rfl⟩
  ·have hB:(if A.tb k=[]then none else some _)=some B:=hB
   rw[ab (dW h0)]at hB;simp at hB
  ·have hB:(if s<(A.tb k).length then some _ else none)=some B:=hB
   rw[aa (by omega)]at hB
   simp at hB
 ·have bY:A.tb k ≠ []:=λe=>h0 (by rw[e];rfl)
  have hc:A.cont p (.ls k)=some ⟨none,(List.range (A.tb k).length).map λs=>iw (p (.rw k s)) (A.cC k s).length,.live⟩:=aa bY;refine(mr.sl (h.has _ _ hc) (eC.fu (D:=λs=>jL A p λt=>t = .rw k s) _ (λs hs=>h.cr hs) λi j hi hj qk=>h.dj λt h1 h2=>qk (by subst h1;simpa using h2)) ?_).to λb=>?_
  ·rintro⟨i,_,t,B,rfl,hB,e⟩
   have:=h.inj _ _ _ _ hB hc e;simp at this
  ·constructor
   ·rintro(rfl|⟨i,_,t,B,rfl,hB,e⟩)
    ·exact⟨_,_,.inl rfl,hc,rfl⟩
    ·exact⟨_,B,.inr ⟨i,rfl⟩,hB,e⟩
   ·rintro⟨t,B,rfl|⟨s,rfl⟩,hB,e⟩
    ·exact .inl e.symm
    ·refine .inr ⟨s,?_,_,B,rfl,hB,e⟩
     have hB:(if s<(A.tb k).length then some _ else none)=some B:=hB
     exact eS λhn=>by rw[aa hn]at hB;simp at hB
theorem AS.cpg{A:ao}{p:Tn->Nat}{σ:List ag}(h:AS A p σ){s g f u o n:Nat}(hs:s<A.pop.length) (hg:g<(A.bD s).length):mr σ (f+1) (.sl (p (.pg s g)) u o n) (jL A p λt=>t = .pg s g):=by
 have hc:A.cont p (.pg s g)=some (Zb (A.cG s g)):=ab ⟨hs,hg⟩;refine(mr.sl (h.has _ _ hc) (eC.nos λx hx=>?_) (by simp)).to λb=>?_
 ·obtain⟨y,_,rfl⟩:=cR.1 hx;rfl
 ·constructor
  ·rintro(rfl|a)
   ·exact⟨_,_,rfl,hc,rfl⟩
   ·exact absurd a (by simp)
  ·rintro⟨t,B,rfl,_,e⟩
   exact .inl e.symm
theorem AS.cpr{A:ao}{p:Tn->Nat}{σ:List ag}(h:AS A p σ){s f u o n:Nat}(hs:s<A.pop.length):mr σ (f+2) (.sl (p (.pr s)) u o n) (jL A p λt=>t = .pr s\/∃g,t = .pg s g):=by
 have hc:A.cont p (.pr s)=some ⟨none,(List.range (A.bD s).length).map λg=>iw (p (.pg s g)) (A.cG s g).length,.live⟩:=ab hs;refine(mr.sl (h.has _ _ hc) (eC.fu (D:=λg=>jL A p λt=>t = .pg s g) _ (λg hg=>h.cpg hs hg) λi j hi hj qk=>h.dj λt h1 h2=>qk (by subst h1;simpa using h2)) ?_).to λb=>?_
 ·rintro⟨i,_,t,B,rfl,hB,e⟩
  have:=h.inj _ _ _ _ hB hc e;simp at this
 ·constructor
  ·rintro(rfl|⟨i,_,t,B,rfl,hB,e⟩)
   ·exact⟨_,_,.inl rfl,hc,rfl⟩
   ·exact⟨_,B,.inr ⟨i,rfl⟩,hB,e⟩
  ·rintro⟨t,B,rfl|⟨g,rfl⟩,hB,e⟩
   ·exact .inl e.symm
   ·refine .inr ⟨g,?_,_,B,rfl,hB,e⟩
    have hB:(if s<A.pop.length/\g<(A.bD s).length then some _ else none)=some B:=hB
    exact(eS λhn=>by rw[aa hn]at hB;simp at hB:s<A.pop.length/\g<(A.bD s).length).2
theorem AS.cpo{A:ao}{p:Tn->Nat}{σ:List ag}(h:AS A p σ){f:Nat}:mr σ (f+3) (cQ (p .po) A.pop.length) (jL A p λt=>t = .po\/∃s,t = .pr s\/∃g,t = .pg s g):=by
 refine V1 (D:=λ_=>False) (λh0 x=>?_) λh0=>?_
 ·rintro⟨t,B,ht,hB,_⟩
  rcases ht with rfl|⟨s,rfl|⟨g,rfl⟩⟩
  ·have hB:(if A.pop=[]then none else some _)=some B:=hB
   rw[ab (dW h0)]at hB;simp at hB
  ·have hB:(if s<A.pop.length then some _ else none)=some B:=hB
   rw[aa (by omega)]at hB
   simp at hB
  ·have hB:(if s<A.pop.length/\g<(A.bD s).length then some _ else none)=some B:=hB
   rw[aa (by omega)]at hB
   simp at hB
 ·have bY:A.pop ≠ []:=λe=>h0 (by rw[e];rfl)
  have hc:A.cont p .po=some ⟨none,(List.range A.pop.length).map λs=>iw (p (.pr s)) (A.bD s).length,.live⟩:=aa bY;refine(mr.sl (h.has _ _ hc) (eC.fu (D:=λs=>jL A p λt=>t = .pr s\/∃g,t = .pg s g) _ (λs hs=>h.cpr hs) λi j hi hj qk=>h.dj λt h1 h2=>?_) ?_).to λb=>?_
  ·rcases h1 with rfl|⟨g,rfl⟩
   ·rcases h2 with e|⟨g,e⟩
    ·simp at e;exact qk e
    ·simp at e
   ·rcases h2 with e|⟨g', e⟩
    ·simp at e
    ·simp at e;exact qk e.1
  ·rintro⟨i,_,t,B,ht,hB,e⟩
   have:=h.inj _ _ _ _ hB hc e;subst this;rcases ht with e|⟨g,e⟩<;>simp at e
  ·constructor
   ·rintro(rfl|⟨i,_,t,B,ht,hB,e⟩)
    ·exact⟨_,_,.inl rfl,hc,rfl⟩
    ·exact⟨t,B,.inr ⟨i,ht⟩,hB,e⟩
   ·rintro⟨t,B,rfl|⟨s,ht⟩,hB,e⟩
    ·exact .inl e.symm
    ·refine .inr ⟨s,?_,t,B,ht,hB,e⟩
     rcases ht with rfl|⟨g,rfl⟩
     ·have hB:(if s<A.pop.length then some _ else none)=some B:=hB
      exact eS λhn=>by rw[aa hn]at hB;simp at hB
     ·have hB:(if s<A.pop.length/\g<(A.bD s).length then some _ else none)=some B:=hB
      exact(eS λhn=>by rw[aa hn]at hB;simp at hB:s<A.pop.length/\g<(A.bD s).length).1
theorem eC.ci{A:ao}{p:Tn->Nat}{σ:List ag}(h:AS A p σ){f:Nat}{x:AV}{l:List AV}{P Q:Tn->Prop}(h1:mr σ f x (jL A p P)) (h2:eC σ f l (jL A p Q)) (hd:∀t,P t->¬Q t):eC σ f (x::l) (jL A p λt=>P t\/Q t):=by
 have:=eC.cons h1 h2 (h.dj hd);intro acc ha b;have e:∀b,(jL A p P b\/jL A p Q b)↔jL A p (λt=>P t\/Q t) b:=λb=>by
  constructor
  ·rintro(⟨t,B,a,c⟩|⟨t,B,a,c⟩)
   ·exact⟨t,B,.inl a,c⟩
   ·exact⟨t,B,.inr a,c⟩
  ·rintro⟨t,B,a|a,c⟩
   ·exact .inl ⟨t,B,a,c⟩
   ·exact .inr ⟨t,B,a,c⟩
 rw[<-e b];exact this acc (λc hc q=>ha c hc ((e c).1 q)) b
theorem eC.no{σ:List ag}{f:Nat}{x:AV}{l:List AV}{D:Nat->Prop}(hx:Fh x=true) (h:eC σ f l D):eC σ f (x::l) D:=λacc ha b=>by
 rw[oA,J3 hx];exact h acc ha b
theorem AS.cov{A:ao}{p:Tn->Nat}{σ:List ag}(h:AS A p σ){b:Nat}(hb:ak σ b=some ⟨some 10,A.bS p,.live⟩) (hn:∀t B,A.cont p t=some B->p t ≠ b):∀x,x∈reach σ vd (.ptr b 10 0) []↔x=b\/∃t B,A.cont p t=some B/\p t=x:=by
 have c0:mr σ 11 (iw (p .ac) A.accept.length) (jL A p λt=>t = .ac):=by
  have hc:A.cont p .ac=some ⟨none,A.accept.map .bool,.live⟩:=rfl;refine(mr.sl (h.has _ _ hc) (eC.nos λx hx=>?_) (by simp)).to λb=>?_
  ·obtain⟨y,_,rfl⟩:=cR.1 hx;rfl
  ·constructor
   ·rintro(rfl|a)
    ·exact⟨_,_,rfl,hc,rfl⟩
    ·exact absurd a (by simp)
   ·rintro⟨t,B,rfl,_,e⟩
    exact .inl e.symm
 have n0:eC σ 11 [] (jL A p λ_=>False):=λacc _ b=>by
  constructor
  ·exact .inl
  ·rintro(a|⟨_,_,a,_⟩)
   ·exact a
   ·exact a.elim
 have c1:=eC.ci h (h.cpo (f:=8)) n0 λt _ q=>q;have c2:=eC.ci h (h.cls .aQ (f:=9)) c1 (by rintro t (rfl|⟨s,rfl⟩)<;>simp)
 have c3:=eC.ci h (h.cls .ps (f:=9)) c2 (by rintro t (rfl|⟨s,rfl⟩)<;>simp)
 have c4:=eC.ci h (h.cls .cl (f:=9)) c3 (by rintro t (rfl|⟨s,rfl⟩)<;>simp)
 have c5:=eC.ci h c0 c4 (by rintro t rfl;simp)
 have c6:eC σ 11 (A.bS p) _:=eC.no (x:=.int A.calls) rfl (eC.no (x:=.int A.aj) rfl (eC.no (x:=.int A.aq) rfl (eC.no (x:=.int A.stack) rfl (eC.no (x:=.int A.start) rfl c5))));have c7:=mr.ptr (f:=11) (u:=10) (o:=0) hb c6 (by
  rintro⟨t,B,_,hB,e⟩;exact hn t B hB e)
 intro x;have:=c7 [] (by simp) x
 rw[show vd=11+1 from rfl,this];simp only[List.not_mem_nil,false_or];constructor
 ·rintro(a|⟨t,B,_,hB,e⟩)
  ·exact .inl a
  ·exact .inr ⟨t,B,hB,e⟩
 ·rintro(a|⟨t,B,hB,e⟩)
  ·exact .inl a
  ·refine .inr ⟨t,B,?_,hB,e⟩
   cases t with
   |ac=>simp
   |po=>simp
   |ls k=>cases k<;>simp
   |rw k s=>cases k<;>simp
   |pr s=>simp
   |pg s g=>simp
theorem an7{A:ao}{p:Tn->Nat}{σ:List ag}{b k:Nat}{vars:List AV}{fl:Option (Nat×AV)}{Q:Ex->St->Prop}(h:AS A p σ) (hb:ak σ b=some ⟨some 10,A.bS p,.live⟩) (hn:∀t B,A.cont p t=some B->p t ≠ b) (hk:nth vars k = .ptr b 10 0)
  (hq:∀τ,τ.length=σ.length->(∀i,i ≠ b->(∀t B,A.cont p t=some B->p t ≠ i)->ak τ i=ak σ i)->Q .fm ⟨eT vars k (.bd A.av),fl,τ⟩):W L (.lu k) ⟨vars,fl,σ⟩ Q:=by
 have hr:=h.cov hb hn;have GV:∀i,i∈reach σ vd (.ptr b 10 0) []->ak (bI (λc=>!(reach σ vd (.ptr b 10 0) []).contains c) 0 σ) i=ak σ i:=λi hi=>by
  rw[nM];cases ak σ i with
  |none=>rfl
  |some B=>simp[hi]
 have hAS:AS A p (bI (λc=>!(reach σ vd (.ptr b 10 0) []).contains c) 0 σ):=h.other λt B hB=>GV _ ((hr _).2 (.inr ⟨t,B,hB,rfl⟩));have sv:=(GV b ((hr b).2 (.inl rfl))).trans hb;have hs:gU σ (.ptr b 10 0)=false:=rfl;have hv:view (bI (λc=>!(reach σ vd (.ptr b 10 0) []).contains c) 0 σ) false vd (.ptr b 10 0)=some (.bd A.av):=by
  have h11:=hAS.KL;generalize bI (λc=>!(reach σ vd (.ptr b 10 0) []).contains c) 0 σ=τ at *;have hu:upto τ b 10=some ⟨some 10,A.bS p,.live⟩:=uM sv rfl rfl;show Ab.view τ false (11+1) _=_;unfold Ab.view;simp only[hu];have hp:part (A.bS p) 0 (some 10)=some (.agg (A.bS p)):=rfl;rw[ab (by rfl),hp]
  simp only[h11]
 refine⟨0,.fm,_,?_,hq (bI (λc=>(reach σ vd (.ptr b 10 0) []).contains c) 0 σ) Vj λi hi ht=>?_⟩
 ·simp only[exec,hk,hv,hs]
  rfl
 ·rw[nM]
  have:i∉reach σ vd (.ptr b 10 0) []:=λhm=>by
   rcases(hr i).1 hm with e|⟨t,B,hB,e⟩
   ·exact hi e
   ·exact ht t B hB e
  cases ak σ i with
  |none=>rfl
  |some B=>simp[this]
theorem V2{f N:Nat}{v:AV}(h:(cN G Q N f [] []).map (λp=>cv p.2 false p.1)=some (some v)):PC f []=some v:=by
 cases e:cN G Q N f [] []with
 |none=>rw[e]at h;simp at h
 |some p=>
  rw[e]at h;simp at h;unfold PC xD;rw[show L f [] []=some p from BW nT e];exact h
theorem an8:PC DY []=some du.av:=V2 (N:=50) (by kernel_rfl)
theorem an9:PC DZ []=some rU.av:=V2 (N:=50) (by kernel_rfl)
theorem aoa:rU.fits:=Kn Vt ⟨by decide,by decide,by decide,by decide⟩
theorem V3 (n:ao) (hn:n.Ok) (hf:n.fits) (hs:n.accept.length^n.bj.length<=512) (ha:n.eD=du.eD) (hl:n.cp=du.cp):PC ql [n.av]=some (.bQ [rU.av,.int 0]):=by
 obtain⟨⟨x,e⟩,hq,_,q2⟩:=Kx n hf λ_=>hs;obtain⟨ws,hR,GI⟩:=q2 (UU hn);rw[ha,hl]at hR GI;rw[hR.qK FA]at GI;have hg:A7 du.eD du.cp [[],[0,3]]=(rU,0):=by
  unfold A7;rw[<-KA];simp
  decide
 rw[hg]at GI;injection GI with e1 e2
 rw[hq,e1,e2]
theorem aob{f N:Nat}{a:List AV}{v:AV}(h:(cN G Q N f a []).map (λp=>cv p.2 false p.1)=some (some v)):PC f a=some v:=by
 cases e:cN G Q N f a []with
 |none=>rw[e]at h;simp at h
 |some p=>
  rw[e]at h;simp at h;unfold PC xD;rw[show L f a []=some p from BW nT e];exact h
theorem aoc:PC It [rU.av,du.av]=some (.bQ [.aE false [],.bool false,.int 0]):=aob (N:=100) (by kernel_rfl)
def brO (i:Nat):Option ag:=if i=0 then some kr else none
def brS:List ag:=[kr,⟨some 2,[.str [],.str []],.live⟩,⟨some 0,[],.map []⟩,⟨some 13,du.pQ ++ [cK [[]],.sl 1 2 0 1,.cM 2],.live⟩]
theorem aod:LM (pY [[]]) brO brS:=by
 refine⟨rfl,rfl,rfl,λe he=>?_,λe he=>?_,λe he=>?_,by simp[pY],by simp[pY],by decide,λe he=>?_,λi B hB=>?_⟩
 ·simp[pY]at he
 ·simp[pY]at he
 ·simp[pY]at he
 ·simp[pY]at he
 ·unfold brO at hB
  split at hB
  ·rename_i h0
   subst h0;simp at hB;subst hB;exact⟨rfl,by decide,by decide,by decide,λe he=>by simp[pY]at he⟩
  ·simp at hB
theorem aoe:PC Im [du.av]=some (.bQ [rU.av,.int 1,.int 0]):=by
 refine cW (ahy rfl ?_);have hV:=I3 du FG;rw[GJ]at hV;obtain⟨r,τ,hP,T,p,Dm,_,_,hO,hA,hp,rfl⟩:=dS (anZ aod an5 an6);rw[VX]at hA hp hP;have hz:=(hO 0 kr rfl).2;have rX:=dz hz;simp[-al,hV];refine⟨rfl,bC (λ_:Unit=>[]) (λ_=>brS) (λ_=>True) (λ_=>0) () rfl trivial ?_⟩;intro _ _;have ju:rU.bS p=[.int 2,.int 0,.int 2,.int 4,.int 0,iw (p .ac) 2,cQ (p (.ls .cl)) 2,cQ (p (.ls .ps)) 2,cQ (p (.ls .aQ)) 2,cQ (p .po) 2]:=rfl;have V8 :=hP;rw[ju]at V8;have Uk:∀b m:Nat,dK (cQ b m)=true:=λb m=>by unfold cQ;split<;>rfl
 have eb:∀Y:ag,ak (τ ++ [Y]) τ.length=some Y:=λY=>iq;have es:∀Y Z:ag,ay (τ ++ [Y]) τ.length Z=τ ++ [Z]:=λY Z=>Aa;simp[-al,V8, eb,es,Uk];have wY:∀t B,rU.cont p t=some B->4<p t/\p t<τ.length:=λt B hB=>(hp t B hB).2;refine an7 (A:=rU) (p:=p) (b:=τ.length) (hA.other λt B hB=>gj (wY t B hB).2) iq (λt B hB=>by have:=(wY t B hB).2;omega) rfl λυ hl hk=>?_
 have ug:ak υ 0=some kr:=by
  rw[hk 0 (by omega) λt B hB=>by have:=(wY t B hB).1;omega,gj rX];exact hz
 have oE:0<υ.length:=dz ug;have ij:∀B:ag,ak (ay υ 0 B) 0=some B:=λB=>cE oE;have vA:=λ(ce:CE) (c0 c1 c2 c3 c4 c5 c6 c7 c8 c9:AV)=>rQ (ce:=ce) (σ:=ay υ 0 ⟨some 10,[c0,c1,c2,c3,c4,c5,c6,c7,c8,c9],.live⟩) (n:=0) (ij _);have hD:=aoc;have hS:=V3 rU Vt aoa (by decide) rfl anu
 simp[-al,hD,hS,ug,ij,vA]
theorem aof:PC ql [du.av]=some (.bQ [rU.av,.int 0]):=V3 du uY FG (by decide) rfl rfl
theorem awake:PC wK []=some (.bool true):=by
 refine cW (ahv rfl ?_);have hb:=an8;have hs:=an9;have h1:=aof;have h2:=aoe;have B7:rU.Vc:=by rw[<-KA];exact(Ky Vu.ok.eD (by decide) (by decide)).1
 have hN:=Ve rU rU B7 B7;rw[Ku.2 rfl]at hN;simp[-al,hb,hs,h1,h2,hN]
end Ab
