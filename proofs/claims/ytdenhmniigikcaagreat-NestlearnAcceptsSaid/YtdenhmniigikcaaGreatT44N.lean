/- An automaton in memory is given away. An automaton in memory is given away, second part. The example of chapter 44 holds. Condition: none. -/
import Derived.Test.YtdenhmniigikcaaGreatT44K
set_option linter.all false
set_option maxRecDepth 100000
set_option maxHeartbeats 4000000
namespace Ab
theorem AS.Lw{n:ak}{p:Tn->Nat}{σ:List ag}(h:AS n p σ):Ab.view σ false 11 (.agg (n.bX p))=some n.av:=by
 have dY:∀(k:Kd) (s:Nat) (f:Nat),s<(n.tb k).length->Ab.view σ false (f+2) (iD (p (.rw k s)) (n.cF k s).length)=some (iL (n.cF k s)):=λk s f hs=>by
  have:=h.has (.rw k s) _ (ae hs);cases k
  ·exact gx (k:=f+1) this rfl rfl λ_ _=>rfl
  ·exact gx (k:=f+1) (st:=if n.cF .ps s=[]then .jP else .live) this (by split<;>rfl) rfl λ_ _=>rfl
  ·exact gx (k:=f+1) this rfl rfl λ_ _=>rfl
 have A9:∀(k:Kd) (f:Nat),Ab.view σ false (f+3) (cT (p (.ls k)) (n.tb k).length)=some (cO (n.tb k)):=λk f=>by
  have e:cO (n.tb k) = .aE false ((List.range (n.tb k).length).map λs=>iL (n.cF k s)):=by
   unfold ak.cF;rw[qv (f:=iL)]
  rw[e];exact qw (k:=f+2) (f:=λs=>iD (p (.rw k s)) (n.cF k s).length) (λhx=>h.has (.ls k) _ (ab λe=>hx (by rw[e];rfl))) (by simp) λs hs=>dY k s f (cA.1 hs)
 have G0:∀(f:Nat),Ab.view σ false (f+4) (cT (p .po) n.pop.length)=some (fX n.pop):=λf=>by
  have e:fX n.pop = .aE false ((List.range n.pop.length).map λs=>cO (n.bI s)):=by
   unfold ak.bI;rw[qv (f:=cO)]
  rw[e];refine qw (k:=f+3) (f:=λs=>iD (p (.pr s)) (n.bI s).length) (λhx=>h.has .po _ (ab λe=>hx (by rw[e];rfl))) (by simp) λs hs=>?_
  have gV :=cA.1 hs;have e2:cO (n.bI s) = .aE false ((List.range (n.bI s).length).map λg=>iL (n.cK s g)):=by
   unfold ak.cK;rw[qv (f:=iL)]
  rw[e2];exact gx (k:=f+2) (f:=λg=>iD (p (.pg s g)) (n.cK s g).length) (h.has (.pr s) _ (ae gV)) rfl (by simp) λg hg=>gx (k:=f+1) (h.has (.pg s g) _ (ae ⟨gV, cA.1 hg⟩)) rfl rfl λ_ _=>rfl
 show Ab.view σ false (10+1) _=_;unfold Ab.view;have hm:bZ (Ab.view σ false 10) (n.bX p)=some [.int n.calls,.int n.aj,.int n.aq,.int n.stack,.int n.start,bL n.accept,cO n.call,cO n.push,cO n.inner,fX n.pop]:=by
  refine cJ rfl (cJ rfl (cJ rfl (cJ rfl (cJ rfl (cJ ?_ (cJ ?_ (cJ ?_ (cJ ?_ (cJ ?_ rfl)))))))))
  ·exact gx (k:=9) (h.has .ac _ rfl) rfl rfl λ_ _=>rfl
  ·exact A9 .cl 7
  ·exact A9 .ps 7
  ·exact A9 .aR 7
  ·exact G0 6
 simp only[hm]
def mw (σ:List ag) (f:Nat) (x:AV) (D:Nat->Prop):Prop:=∀acc,(∀b∈acc,¬D b)->∀b,b∈reach σ f x acc↔b∈acc\/D b
def eE (σ:List ag) (f:Nat) (l:List AV) (D:Nat->Prop):Prop:=∀acc,(∀b∈acc,¬D b)->∀b,b∈l.foldl (λacc y=>reach σ f y acc) acc↔b∈acc\/D b
theorem mw.no{σ:List ag}{f:Nat}{x:AV}(h:FK x=true):mw σ f x λ_=>False:=λacc _ b=>by rw[KM h];simp
theorem eE.nos{σ:List ag}{f:Nat}{l:List AV}(h:∀x∈l,FK x=true):eE σ f l λ_=>False:=λacc _ b=>by rw[KN l acc h];simp
theorem eE.cons{σ:List ag}{f:Nat}{x:AV}{l:List AV}{D E:Nat->Prop}(h1:mw σ f x D) (h2:eE σ f l E) (hd:∀b,D b->¬E b):eE σ f (x::l) λb=>D b\/E b:=λacc ha b=>by
 rw[mA];have k1:=h1 acc λc hc q=>ha c hc (.inl q);rw[h2 _ (λc hc q=>?_) b,k1 b]
 ·constructor
  ·rintro((a|a)|a)
   ·exact .inl a
   ·exact .inr (.inl a)
   ·exact .inr (.inr a)
  ·rintro(a|a|a)
   ·exact .inl (.inl a)
   ·exact .inl (.inr a)
   ·exact .inr a
 ·rcases(k1 c).1 hc with a|a
  ·exact ha c a (.inr q)
  ·exact hd c a q
theorem eE.fx{σ:List ag}{f:Nat}{g:Nat->AV}{D:Nat->Nat->Prop}:∀(n:Nat),(∀i,i<n->mw σ f (g i) (D i))->(∀i j,i<n->j<n->i ≠ j->∀b,D i b->¬D j b)->eE σ f ((List.range n).map g) λb=>∃i,i<n/\D i b
 |0,_,_=>λacc _ b=>by simp
 |n+1,h,hd=>λacc ha b=>by
  rw[mI,lg,List.foldl_append];have k1:=eE.fx n (λi hi=>h i (by omega)) (λi j hi hj=>hd i j (by omega) (by omega)) acc λc hc ⟨i,hi,q⟩=>ha c hc ⟨i,by omega,q⟩
  show b∈reach σ f (g n) _↔_;rw[h n (by omega) _ (λc hc q=>?_) b,k1 b]
  ·constructor
   ·rintro((a|⟨i,hi,a⟩)|a)
    ·exact .inl a
    ·exact .inr ⟨i,by omega,a⟩
    ·exact .inr ⟨n,by omega,a⟩
   ·rintro(a|⟨i,hi,a⟩)
    ·exact .inl (.inl a)
    ·by_cases e:i=n
     ·subst e;exact .inr a
     ·exact .inl (.inr ⟨i,by omega,a⟩)
  ·rcases(k1 c).1 hc with a|⟨i,hi,a⟩
   ·exact ha c a ⟨n,by omega,q⟩
   ·exact hd i n (by omega) (by omega) (by omega) c a q
theorem mw.sl{σ:List ag}{f b u o n:Nat}{B:ag}{D:Nat->Prop}(hB:al σ b=some B) (h:eE σ f B.cells D) (hn:¬D b):mw σ (f+1) (.sl b u o n) λx=>x=b\/D x:=λacc ha x=>by
 rw[Vc hB λhm=>ha b hm (.inl rfl),h (b::acc) (λc hc q=>by
  rcases cD.1 hc with e|e
  ·subst e;exact hn q
  ·exact ha c e (.inr q)) x,cD]
 constructor
 ·rintro((a|a)|a)
  ·exact .inr (.inl a)
  ·exact .inl a
  ·exact .inr (.inr a)
 ·rintro(a|a|a)
  ·exact .inl (.inr a)
  ·exact .inl (.inl a)
  ·exact .inr a
theorem mw.ptr{σ:List ag}{f b u o:Nat}{B:ag}{D:Nat->Prop}(hB:al σ b=some B) (h:eE σ f B.cells D) (hn:¬D b):mw σ (f+1) (.ptr b u o) λx=>x=b\/D x:=λacc ha x=>by
 rw[Ve hB λhm=>ha b hm (.inl rfl),h (b::acc) (λc hc q=>by
  rcases cD.1 hc with e|e
  ·subst e;exact hn q
  ·exact ha c e (.inr q)) x,cD]
 constructor
 ·rintro((a|a)|a)
  ·exact .inr (.inl a)
  ·exact .inl a
  ·exact .inr (.inr a)
 ·rintro(a|a|a)
  ·exact .inl (.inr a)
  ·exact .inl (.inl a)
  ·exact .inr a
def jN (A:ak) (p:Tn->Nat) (P:Tn->Prop) (b:Nat):Prop:=∃t B,P t/\A.cont p t=some B/\p t=b
theorem AS.dj{A:ak}{p:Tn->Nat}{σ:List ag}(h:AS A p σ){P Q:Tn->Prop}(hd:∀t,P t->¬Q t):∀b,jN A p P b->¬jN A p Q b:=by
 rintro b ⟨t,B,hP,hB,rfl⟩ ⟨u,C,hQ,hC,e⟩;have:=h.inj t u B C hB hC e.symm;subst this;exact hd t hP hQ
theorem mw.to{σ:List ag}{f:Nat}{x:AV}{D E:Nat->Prop}(h:mw σ f x D) (e:∀b,D b↔E b):mw σ f x E:=by
 rw[show E=D from funext λb=>propext (e b).symm];exact h
theorem AS.cr{A:ak}{p:Tn->Nat}{σ:List ag}(h:AS A p σ){k:Kd}{s f u o n:Nat}(hs:s<(A.tb k).length):mw σ (f+1) (.sl (p (.rw k s)) u o n) (jN A p λt=>t = .rw k s):=by
 have hc:A.cont p (.rw k s)=some (kn k (A.cF k s)):=ae hs;refine(mw.sl (h.has _ _ hc) (eE.nos λx hx=>?_) (by simp)).to λb=>?_
 ·cases k<;>(obtain⟨y,_,rfl⟩:=cU.1 hx;rfl)
 ·constructor
  ·rintro(rfl|a)
   ·exact⟨_,_,rfl,hc,rfl⟩
   ·exact absurd a (by simp)
  ·rintro⟨t,B,rfl,_,e⟩
   exact .inl e.symm
theorem WG{σ:List ag}{f b n:Nat}{D E:Nat->Prop}(h0:n=0->∀x,¬E x) (h1:n ≠ 0->mw σ f (.sl b n 0 n) E):mw σ f (cT b n) E:=by
 by_cases hn:n=0
 ·rw[show cT b n = .ah from ae hn]
  exact(mw.no rfl).to λb=>⟨λa=>a.elim,λa=>h0 hn b a⟩
 ·rw[show cT b n = .sl b n 0 n from ab hn]
  exact h1 hn
theorem AS.cls{A:ak}{p:Tn->Nat}{σ:List ag}(h:AS A p σ) (k:Kd){f:Nat}:mw σ (f+2) (cT (p (.ls k)) (A.tb k).length) (jN A p λt=>t = .ls k\/∃s,t = .rw k s):=by
 refine WG (D:=λ_=>False) (λh0 x=>?_) λh0=>?_
 ·rintro⟨t,B,ht,hB,_⟩
  rcases ht with rfl|⟨s,rfl⟩
  ·have hB:(if A.tb k=[]then none else some _)=some B:=hB
   rw[ae (dW h0)]at hB;simp at hB
  ·have hB:(if s<(A.tb k).length then some _ else none)=some B:=hB
   rw[ab (by omega)]at hB
   simp at hB
 ·have b8:A.tb k ≠ []:=λe=>h0 (by rw[e];rfl)
  have hc:A.cont p (.ls k)=some ⟨none,(List.range (A.tb k).length).map λs=>iD (p (.rw k s)) (A.cF k s).length,.live⟩:=ab b8;refine(mw.sl (h.has _ _ hc) (eE.fx (D:=λs=>jN A p λt=>t = .rw k s) _ (λs hs=>h.cr hs) λi j hi hj qm=>h.dj λt h1 h2=>qm (by subst h1;simpa using h2)) ?_).to λb=>?_
  ·rintro⟨i,_,t,B,rfl,hB,e⟩
   have:=h.inj _ _ _ _ hB hc e;simp at this
  ·constructor
   ·rintro(rfl|⟨i,_,t,B,rfl,hB,e⟩)
    ·exact⟨_,_,.inl rfl,hc,rfl⟩
    ·exact⟨_,B,.inr ⟨i,rfl⟩,hB,e⟩
   ·rintro⟨t,B,rfl|⟨s,rfl⟩,hB,e⟩
    ·exact .inl e.symm
    ·refine .inr ⟨s,?_,_,B,rfl,hB,e⟩
     have hB:(if s<(A.tb k).length then some _ else none)=some B:=hB
     exact eU λhn=>by rw[ab hn]at hB;simp at hB
theorem AS.cpg{A:ak}{p:Tn->Nat}{σ:List ag}(h:AS A p σ){s g f u o n:Nat}(hs:s<A.pop.length) (hg:g<(A.bI s).length):mw σ (f+1) (.sl (p (.pg s g)) u o n) (jN A p λt=>t = .pg s g):=by
 have hc:A.cont p (.pg s g)=some (Zb (A.cK s g)):=ae ⟨hs,hg⟩;refine(mw.sl (h.has _ _ hc) (eE.nos λx hx=>?_) (by simp)).to λb=>?_
 ·obtain⟨y,_,rfl⟩:=cU.1 hx;rfl
 ·constructor
  ·rintro(rfl|a)
   ·exact⟨_,_,rfl,hc,rfl⟩
   ·exact absurd a (by simp)
  ·rintro⟨t,B,rfl,_,e⟩
   exact .inl e.symm
theorem AS.cpr{A:ak}{p:Tn->Nat}{σ:List ag}(h:AS A p σ){s f u o n:Nat}(hs:s<A.pop.length):mw σ (f+2) (.sl (p (.pr s)) u o n) (jN A p λt=>t = .pr s\/∃g,t = .pg s g):=by
 have hc:A.cont p (.pr s)=some ⟨none,(List.range (A.bI s).length).map λg=>iD (p (.pg s g)) (A.cK s g).length,.live⟩:=ae hs;refine(mw.sl (h.has _ _ hc) (eE.fx (D:=λg=>jN A p λt=>t = .pg s g) _ (λg hg=>h.cpg hs hg) λi j hi hj qm=>h.dj λt h1 h2=>qm (by subst h1;simpa using h2)) ?_).to λb=>?_
 ·rintro⟨i,_,t,B,rfl,hB,e⟩
  have:=h.inj _ _ _ _ hB hc e;simp at this
 ·constructor
  ·rintro(rfl|⟨i,_,t,B,rfl,hB,e⟩)
   ·exact⟨_,_,.inl rfl,hc,rfl⟩
   ·exact⟨_,B,.inr ⟨i,rfl⟩,hB,e⟩
  ·rintro⟨t,B,rfl|⟨g,rfl⟩,hB,e⟩
   ·exact .inl e.symm
   ·refine .inr ⟨g,?_,_,B,rfl,hB,e⟩
    have hB:(if s<A.pop.length/\g<(A.bI s).length then some _ else none)=some B:=hB
    exact(eU λhn=>by rw[ab hn]at hB;simp at hB:s<A.pop.length/\g<(A.bI s).length).2
theorem AS.cpo{A:ak}{p:Tn->Nat}{σ:List ag}(h:AS A p σ){f:Nat}:mw σ (f+3) (cT (p .po) A.pop.length) (jN A p λt=>t = .po\/∃s,t = .pr s\/∃g,t = .pg s g):=by
 refine WG (D:=λ_=>False) (λh0 x=>?_) λh0=>?_
 ·rintro⟨t,B,ht,hB,_⟩
  rcases ht with rfl|⟨s,rfl|⟨g,rfl⟩⟩
  ·have hB:(if A.pop=[]then none else some _)=some B:=hB
   rw[ae (dW h0)]at hB;simp at hB
  ·have hB:(if s<A.pop.length then some _ else none)=some B:=hB
   rw[ab (by omega)]at hB
   simp at hB
  ·have hB:(if s<A.pop.length/\g<(A.bI s).length then some _ else none)=some B:=hB
   rw[ab (by omega)]at hB
   simp at hB
 ·have b8:A.pop ≠ []:=λe=>h0 (by rw[e];rfl)
  have hc:A.cont p .po=some ⟨none,(List.range A.pop.length).map λs=>iD (p (.pr s)) (A.bI s).length,.live⟩:=ab b8;refine(mw.sl (h.has _ _ hc) (eE.fx (D:=λs=>jN A p λt=>t = .pr s\/∃g,t = .pg s g) _ (λs hs=>h.cpr hs) λi j hi hj qm=>h.dj λt h1 h2=>?_) ?_).to λb=>?_
  ·rcases h1 with rfl|⟨g,rfl⟩
   ·rcases h2 with e|⟨g,e⟩
    ·simp at e;exact qm e
    ·simp at e
   ·rcases h2 with e|⟨g', e⟩
    ·simp at e
    ·simp at e;exact qm e.1
  ·rintro⟨i,_,t,B,ht,hB,e⟩
   have:=h.inj _ _ _ _ hB hc e;subst this;rcases ht with e|⟨g,e⟩<;>simp at e
  ·constructor
   ·rintro(rfl|⟨i,_,t,B,ht,hB,e⟩)
    ·exact⟨_,_,.inl rfl,hc,rfl⟩
    ·exact⟨t,B,.inr ⟨i,ht⟩,hB,e⟩
   ·rintro⟨t,B,rfl|⟨s,ht⟩,hB,e⟩
    ·exact .inl e.symm
    ·refine .inr ⟨s,?_,t,B,ht,hB,e⟩
     rcases ht with rfl|⟨g,rfl⟩
     ·have hB:(if s<A.pop.length then some _ else none)=some B:=hB
      exact eU λhn=>by rw[ab hn]at hB;simp at hB
     ·have hB:(if s<A.pop.length/\g<(A.bI s).length then some _ else none)=some B:=hB
      exact(eU λhn=>by rw[ab hn]at hB;simp at hB:s<A.pop.length/\g<(A.bI s).length).1
theorem eE.ci{A:ak}{p:Tn->Nat}{σ:List ag}(h:AS A p σ){f:Nat}{x:AV}{l:List AV}{P Q:Tn->Prop}(h1:mw σ f x (jN A p P)) (h2:eE σ f l (jN A p Q)) (hd:∀t,P t->¬Q t):eE σ f (x::l) (jN A p λt=>P t\/Q t):=by
 have:=eE.cons h1 h2 (h.dj hd);intro acc ha b;have e:∀b,(jN A p P b\/jN A p Q b)↔jN A p (λt=>P t\/Q t) b:=λb=>by
  constructor
  ·rintro(⟨t,B,a,c⟩|⟨t,B,a,c⟩)
   ·exact⟨t,B,.inl a,c⟩
   ·exact⟨t,B,.inr a,c⟩
  ·rintro⟨t,B,a|a,c⟩
   ·exact .inl ⟨t,B,a,c⟩
   ·exact .inr ⟨t,B,a,c⟩
 rw[<-e b];exact this acc (λc hc q=>ha c hc ((e c).1 q)) b
theorem eE.no{σ:List ag}{f:Nat}{x:AV}{l:List AV}{D:Nat->Prop}(hx:FK x=true) (h:eE σ f l D):eE σ f (x::l) D:=λacc ha b=>by
 rw[mA,KM hx];exact h acc ha b
theorem AS.cov{A:ak}{p:Tn->Nat}{σ:List ag}(h:AS A p σ){b:Nat}(hb:al σ b=some ⟨some 10,A.bX p,.live⟩) (hn:∀t B,A.cont p t=some B->p t ≠ b):∀x,x∈reach σ vd (.ptr b 10 0) []↔x=b\/∃t B,A.cont p t=some B/\p t=x:=by
 have c0:mw σ 11 (iD (p .ac) A.accept.length) (jN A p λt=>t = .ac):=by
  have hc:A.cont p .ac=some ⟨none,A.accept.map .bool,.live⟩:=rfl;refine(mw.sl (h.has _ _ hc) (eE.nos λx hx=>?_) (by simp)).to λb=>?_
  ·obtain⟨y,_,rfl⟩:=cU.1 hx;rfl
  ·constructor
   ·rintro(rfl|a)
    ·exact⟨_,_,rfl,hc,rfl⟩
    ·exact absurd a (by simp)
   ·rintro⟨t,B,rfl,_,e⟩
    exact .inl e.symm
 have n0:eE σ 11 [] (jN A p λ_=>False):=λacc _ b=>by
  constructor
  ·exact .inl
  ·rintro(a|⟨_,_,a,_⟩)
   ·exact a
   ·exact a.elim
 have c1:=eE.ci h (h.cpo (f:=8)) n0 λt _ q=>q;have c2:=eE.ci h (h.cls .aR (f:=9)) c1 (by rintro t (rfl|⟨s,rfl⟩)<;>simp)
 have c3:=eE.ci h (h.cls .ps (f:=9)) c2 (by rintro t (rfl|⟨s,rfl⟩)<;>simp)
 have c4:=eE.ci h (h.cls .cl (f:=9)) c3 (by rintro t (rfl|⟨s,rfl⟩)<;>simp)
 have c5:=eE.ci h c0 c4 (by rintro t rfl;simp)
 have c6:eE σ 11 (A.bX p) _:=eE.no (x:=.int A.calls) rfl (eE.no (x:=.int A.aj) rfl (eE.no (x:=.int A.aq) rfl (eE.no (x:=.int A.stack) rfl (eE.no (x:=.int A.start) rfl c5))));have c7:=mw.ptr (f:=11) (u:=10) (o:=0) hb c6 (by
  rintro⟨t,B,_,hB,e⟩;exact hn t B hB e)
 intro x;have:=c7 [] (by simp) x
 rw[show vd=11+1 from rfl,this];simp only[List.not_mem_nil,false_or];constructor
 ·rintro(a|⟨t,B,_,hB,e⟩)
  ·exact .inl a
  ·exact .inr ⟨t,B,hB,e⟩
 ·rintro(a|⟨t,B,hB,e⟩)
  ·exact .inl a
  ·refine .inr ⟨t,B,?_,hB,e⟩
   cases t with
   |ac=>simp
   |po=>simp
   |ls k=>cases k<;>simp
   |rw k s=>cases k<;>simp
   |pr s=>simp
   |pg s g=>simp
theorem apg{A:ak}{p:Tn->Nat}{σ:List ag}{b k:Nat}{vars:List AV}{fl:Option (Nat×AV)}{Q:Ex->St->Prop}(h:AS A p σ) (hb:al σ b=some ⟨some 10,A.bX p,.live⟩) (hn:∀t B,A.cont p t=some B->p t ≠ b) (hk:nth vars k = .ptr b 10 0)
  (hq:∀τ,τ.length=σ.length->(∀i,i ≠ b->(∀t B,A.cont p t=some B->p t ≠ i)->al τ i=al σ i)->Q .ft ⟨eV vars k (.bd A.av),fl,τ⟩):W L (.lB k) ⟨vars,fl,σ⟩ Q:=by
 have hr:=h.cov hb hn;have Hq:∀i,i∈reach σ vd (.ptr b 10 0) []->al (bQ (λc=>!(reach σ vd (.ptr b 10 0) []).contains c) 0 σ) i=al σ i:=λi hi=>by
  rw[nS];cases al σ i with
  |none=>rfl
  |some B=>simp[hi]
 have hAS:AS A p (bQ (λc=>!(reach σ vd (.ptr b 10 0) []).contains c) 0 σ):=h.other λt B hB=>Hq _ ((hr _).2 (.inr ⟨t,B,hB,rfl⟩));have sA:=(Hq b ((hr b).2 (.inl rfl))).trans hb;have hs:gZ σ (.ptr b 10 0)=false:=rfl;have hv:view (bQ (λc=>!(reach σ vd (.ptr b 10 0) []).contains c) 0 σ) false vd (.ptr b 10 0)=some (.bd A.av):=by
  have h11:=hAS.Lw;generalize bQ (λc=>!(reach σ vd (.ptr b 10 0) []).contains c) 0 σ=τ at *;have hu:upto τ b 10=some ⟨some 10,A.bX p,.live⟩:=uR sA rfl rfl;show Ab.view τ false (11+1) _=_;unfold Ab.view;simp only[hu];have hp:part (A.bX p) 0 (some 10)=some (.agg (A.bX p)):=rfl;rw[ae (by rfl),hp]
  simp only[h11]
 refine⟨0,.ft,_,?_,hq (bQ (λc=>(reach σ vd (.ptr b 10 0) []).contains c) 0 σ) VW λi hi ht=>?_⟩
 ·simp only[exec,hk,hv,hs]
  rfl
 ·rw[nS]
  have:i∉reach σ vd (.ptr b 10 0) []:=λhm=>by
   rcases(hr i).1 hm with e|⟨t,B,hB,e⟩
   ·exact hi e
   ·exact ht t B hB e
  cases al σ i with
  |none=>rfl
  |some B=>simp[this]
theorem WH{f N:Nat}{v:AV}(h:(cN G Q N f [] []).map (λp=>cx p.2 false p.1)=some (some v)):PC f []=some v:=by
 cases e:cN G Q N f [] []with
 |none=>rw[e]at h;simp at h
 |some p=>
  rw[e]at h;simp at h;unfold PC xM;rw[show L f [] []=some p from B9 nZ e];exact h
theorem aph:PC Et []=some dw.av:=WH (N:=50) (by kernel_rfl)
theorem api:PC Eu []=some rX.av:=WH (N:=50) (by kernel_rfl)
theorem apj:rX.fits:=La V7 ⟨by decide,by decide,by decide,by decide⟩
theorem WI (n:ak) (hn:n.Ok) (hf:n.fits) (hs:n.accept.length^n.bw.length<=512) (ha:n.eQ=dw.eQ) (hl:n.cj=dw.cj):PC rM [n.av]=some (.bS [rX.av,.int 0]):=by
 obtain⟨⟨x,e⟩,hq,_,q2⟩:=VY n hf λ_=>hs;obtain⟨ws,hR,F5⟩:=q2 (FY hn);rw[ha,hl]at hR F5;rw[hR.qt F6]at F5;have hg:xq dw.eQ dw.cj [[],[0,3]]=(rX,0):=by
  unfold xq;rw[<-Ll];simp
  decide
 rw[hg]at F5;injection F5 with e1 e2
 rw[hq,e1,e2]
theorem apk{f N:Nat}{a:List AV}{v:AV}(h:(cN G Q N f a []).map (λp=>cx p.2 false p.1)=some (some v)):PC f a=some v:=by
 cases e:cN G Q N f a []with
 |none=>rw[e]at h;simp at h
 |some p=>
  rw[e]at h;simp at h;unfold PC xM;rw[show L f a []=some p from B9 nZ e];exact h
theorem apl:PC Ja [rX.av,dw.av]=some (.bS [.aE false [],.bool false,.int 0]):=apk (N:=100) (by kernel_rfl)
def brO (i:Nat):Option ag:=if i=0 then some ku else none
def brS:List ag:=[ku,⟨some 2,[.str [],.str []],.live⟩,⟨some 0,[],.map []⟩,⟨some 13,dw.pV ++ [cO [[]],.sl 1 2 0 1,.cQ 2],.live⟩]
theorem apm:LM (p7 [[]]) brO brS:=by
 refine⟨rfl,rfl,rfl,λe he=>?_,λe he=>?_,λe he=>?_,by simp[p7],by simp[p7],by decide,λe he=>?_,λi B hB=>?_⟩
 ·simp[p7]at he
 ·simp[p7]at he
 ·simp[p7]at he
 ·simp[p7]at he
 ·unfold brO at hB
  split at hB
  ·rename_i h0
   subst h0;simp at hB;subst hB;exact⟨rfl,by decide,by decide,by decide,λe he=>by simp[p7]at he⟩
  ·simp at hB
theorem apn:PC I3 [dw.av]=some (.bS [rX.av,.int 1,.int 0]):=by
 refine cu (ail rfl ?_);have hV:=JE dw Gc;rw[Hg]at hV;obtain⟨r,τ,hP,T,p,Dm,_,_,hO,hA,hp,rfl⟩:=dS (ao8 apm ape apf);rw[WB]at hA hp hP;have hz:=(hO 0 ku rfl).2;have r5:=dB hz;simp[-ao,hV];refine⟨rfl,bu (λ_:Unit=>[]) (λ_=>brS) (λ_=>True) (λ_=>0) () rfl trivial ?_⟩;intro _ _;have jy:rX.bX p=[.int 2,.int 0,.int 2,.int 4,.int 0,iD (p .ac) 2,cT (p (.ls .cl)) 2,cT (p (.ls .ps)) 2,cT (p (.ls .aR)) 2,cT (p .po) 2]:=rfl;have WO :=hP;rw[jy]at WO;have UY:∀b m:Nat,dL (cT b m)=true:=λb m=>by unfold cT;split<;>rfl
 have eb:∀Y:ag,al (τ ++ [Y]) τ.length=some Y:=λY=>iA;have es:∀Y Z:ag,az (τ ++ [Y]) τ.length Z=τ ++ [Z]:=λY Z=>Ap;simp[-ao,WO, eb,es,UY];have w7:∀t B,rX.cont p t=some B->4<p t/\p t<τ.length:=λt B hB=>(hp t B hB).2;refine apg (A:=rX) (p:=p) (b:=τ.length) (hA.other λt B hB=>gq (w7 t B hB).2) iA (λt B hB=>by have:=(w7 t B hB).2;omega) rfl λυ hl hk=>?_
 have uk:al υ 0=some ku:=by
  rw[hk 0 (by omega) λt B hB=>by have:=(w7 t B hB).1;omega,gq r5];exact hz
 have oJ:0<υ.length:=dB uk;have iy:∀B:ag,al (az υ 0 B) 0=some B:=λB=>cH oJ;have vE:=λ(ce:CE) (c0 c1 c2 c3 c4 c5 c6 c7 c8 c9:AV)=>rT (ce:=ce) (σ:=az υ 0 ⟨some 10,[c0,c1,c2,c3,c4,c5,c6,c7,c8,c9],.live⟩) (n:=0) (iy _);have hD:=apl;have hS:=WI rX V7 apj (by decide) rfl aoE
 simp[-ao,hD,hS,uk,iy,vE]
theorem apo:PC rM [dw.av]=some (.bS [rX.av,.int 0]):=WI dw u7 Gc (by decide) rfl rfl
theorem awake:PC wP []=some (.bool true):=by
 refine cu (aii rfl ?_);have hb:=aph;have hs:=api;have h1:=apo;have h2:=apn;have Ci:rX.XN:=by rw[<-Ll];exact(VZ V8.ok.eQ (by decide) (by decide)).1
 have hN:=aoo rX rX Ci Ci;rw[VP.2 rfl]at hN;simp[-ao,hb,hs,h1,h2,hN]
end Ab
