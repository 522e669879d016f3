/- An automaton in memory is given away; and what it leans on. Condition: none. -/
import Derived.Test.YtdenhmniigikcaaGreatT44K
set_option linter.all false
set_option maxRecDepth 100000
set_option maxHeartbeats 4000000
namespace Ab
variable{p:Tn->Nat}{σ:List al}
def AS.L9{n:ao}(h:AS n p σ):Ab.view σ false 11 (.agg (n.bV p))=some n.av:=by
 have gV:∀(k:Kd) (s:Nat) (f:Nat),s<(n.tb k).length->Ab.view σ false (f+2) (iA (p (.rw k s)) (n.cE k s).length)=some (iL (n.cE k s)):=λk s f hs=>by
  have:=h.has (.rw k s) _ (ae hs);cases k
  .exact dQ (k:=f+1) this rfl rfl λ_ _=>rfl
  .exact dQ (k:=f+1) (st:=if n.cE .ps s=[]then .gN else .live) this dE rfl λ_ _=>rfl
  .exact dQ (k:=f+1) this rfl rfl λ_ _=>rfl
 have KT:∀(k:Kd) (f:Nat),Ab.view σ false (f+3) (cu (p (.ls k)) (n.tb k).length)=some (b8 (n.tb k)):=λk f=>by
  have e:b8 (n.tb k) = .aF false ((List.range (n.tb k).length).map λs=>iL (n.cE k s)):=by
   unfold ao.cE;rw[qA (f:=iL)]
  rw[e];exact qB (k:=f+2) (f:=λs=>iA (p (.rw k s)) (n.cE k s).length) (λhx=>h.has (.ls k) _ (ad λe=>hx fK)) ab λs hs=>gV k s f (bQ.1 hs)
 have EV:∀(f:Nat),Ab.view σ false (f+4) (cu (p .po) n.pop.length)=some (fv n.pop):=λf=>by
  have e:fv n.pop = .aF false ((List.range n.pop.length).map λs=>b8 (n.bD s)):=by
   unfold ao.bD;rw[qA (f:=b8)]
  rw[e];refine qB (k:=f+3) (f:=λs=>iA (p (.pr s)) (n.bD s).length) (λhx=>h.has .po _ (ad λe=>hx fK)) ab λs hs=>?_
  have j8 :=bQ.1 hs;have e2:b8 (n.bD s) = .aF false ((List.range (n.bD s).length).map λg=>iL (n.cH s g)):=by
   unfold ao.cH;rw[qA (f:=iL)]
  rw[e2];exact dQ (k:=f+2) (f:=λg=>iA (p (.pg s g)) (n.cH s g).length) (h.has (.pr s) _ (ae j8)) rfl ab λg hg=>dQ (k:=f+1) (h.has (.pg s g) _ (ae ⟨j8, bQ.1 hg⟩)) rfl rfl λ_ _=>rfl
 show Ab.view σ false (10+1) _=_;unfold Ab.view;have hm:bJ (Ab.view σ false 10) (n.bV p)=some [.int n.calls,.int n.ak,.int n.ah,.int n.stack,.int n.start,bL n.accept,b8 n.call,b8 n.push,b8 n.inner,fv n.pop]:=by
  refine cG rfl (cG rfl (cG rfl (cG rfl (cG rfl (cG ?_ (cG ?_ (cG ?_ (cG ?_ (cG ?_ rfl)))))))))
  .exact dQ (k:=9) (h.has .ac _ rfl) rfl rfl λ_ _=>rfl
  .exact KT .cl 7
  .exact KT .ps 7
  .exact KT .aQ 7
  .exact EV 6
 simp only[hm]
def mK (σ:List al) (f:Nat) (x:AV) (D:Nat->Prop):Prop:=∀acc,(∀b∈acc,¬D b)->∀b,b∈reach σ f x acc↔b∈acc\/D b
def eH (σ:List al) (f:Nat) (l:List AV) (D:Nat->Prop):Prop:=∀acc,(∀b∈acc,¬D b)->∀b,b∈l.foldl (λacc y=>reach σ f y acc) acc↔b∈acc\/D b
variable{f:Nat}{x:AV}
def mK.no(h:DK x=true):mK σ f x λ_=>False:=λacc _ b=>by rw[K0 h];simp
variable{l:List AV}
def eH.nos(h:∀x∈l,DK x=true):eH σ f l λ_=>False:=λacc _ b=>by rw[K4 l acc h];simp
variable{D E:Nat->Prop}
def eH.cons(h1:mK σ f x D) (h2:eH σ f l E) (hd:∀b,D b->¬E b):eH σ f (x::l) λb=>D b\/E b:=λacc ha b=>by
 rw[jW];have k1:=h1 acc λc hc q=>ha c hc (.inl q);rw[h2 _ (λc hc q=>?_) b,k1 b]
 .constructor
  .rintro((a|a)|a)
   .exact .inl a
   .exact .inr (.inl a)
   .exact .inr (.inr a)
  .rintro(a|a|a)
   .exact .inl (.inl a)
   .exact .inl (.inr a)
   .exact .inr a
 .rcases(k1 c).1 hc with a|a
  .exact ha c a (.inr q)
  .exact hd c a q
def eH.eV{σ:List al}{f:Nat}{g:Nat->AV}{D:Nat->Nat->Prop}:∀(n:Nat),(∀i,i<n->mK σ f (g i) (D i))->(∀i j,i<n->j<n->i ≠ j->∀b,D i b->¬D j b)->eH σ f ((List.range n).map g) λb=>∃i,i<n/\D i b
 |0,_,_=>λacc _ b=>by simp
 |n+1,h,hd=>λacc ha b=>by
  rw[jh,jE,List.foldl_append];have k1:=eH.eV n (λi hi=>h i aa) (λi j hi hj=>hd i j aa aa) acc λc hc ⟨i,hi,q⟩=>ha c hc ⟨i,aa,q⟩
  show b∈reach σ f (g n) _↔_;rw[h n aa _ (λc hc q=>?_) b,k1 b]
  .constructor
   .rintro((a|⟨i,hi,a⟩)|a)
    .exact .inl a
    .exact .inr ⟨i,aa,a⟩
    .exact .inr ⟨n,aa,a⟩
   .rintro(a|⟨i,hi,a⟩)
    .exact .inl (.inl a)
    .by_cases e:i=n
     .subst e;exact .inr a
     .exact .inl (.inr ⟨i,aa,a⟩)
  .rcases(k1 c).1 hc with a|⟨i,hi,a⟩
   .exact ha c a ⟨n,aa,q⟩
   .exact hd i n aa aa aa c a q
variable{b u o n:Nat}{B:al}
def mK.sl(hB:aq σ b=some B) (h:eH σ f B.cells D) (hn:¬D b):mK σ (f+1) (.sl b u o n) λx=>x=b\/D x:=λacc ha x=>by
 rw[UP hB λhm=>ha b hm (.inl rfl),h (b::acc) (λc hc q=>by
  rcases b5.1 hc with e|e
  .subst e;exact hn q
  .exact ha c e (.inr q)) x,b5]
 constructor
 .rintro((a|a)|a)
  .exact .inr (.inl a)
  .exact .inl a
  .exact .inr (.inr a)
 .rintro(a|a|a)
  .exact .inl (.inr a)
  .exact .inl (.inl a)
  .exact .inr a
def mK.ptr(hB:aq σ b=some B) (h:eH σ f B.cells D) (hn:¬D b):mK σ (f+1) (.ptr b u o) λx=>x=b\/D x:=λacc ha x=>by
 rw[UQ hB λhm=>ha b hm (.inl rfl),h (b::acc) (λc hc q=>by
  rcases b5.1 hc with e|e
  .subst e;exact hn q
  .exact ha c e (.inr q)) x,b5]
 constructor
 .rintro((a|a)|a)
  .exact .inr (.inl a)
  .exact .inl a
  .exact .inr (.inr a)
 .rintro(a|a|a)
  .exact .inl (.inr a)
  .exact .inl (.inl a)
  .exact .inr a
def j7 (A:ao) (p:Tn->Nat) (P:Tn->Prop) (b:Nat):Prop:=∃t B,P t/\A.cont p t=some B/\p t=b
variable{A:ao}{P:Tn->Prop}
def AS.dj(h:AS A p σ){Q:Tn->Prop}(hd:∀t,P t->¬Q t):∀b,j7 A p P b->¬j7 A p Q b:=by
 rintro b ⟨t,B,hP,hB,rfl⟩ ⟨u,C,hQ,hC,e⟩;have:=h.inj t u B C hB hC e.symm;subst this;exact hd t hP hQ
def mK.to(h:mK σ f x D) (e:∀b,D b↔E b):mK σ f x E:=by
 rw[show E=D from funext λb=>propext (e b).symm];exact h
variable{s:Nat}
def AS.cr(h:AS A p σ){k:Kd}(hs:s<(A.tb k).length):mK σ (f+1) (.sl (p (.rw k s)) u o n) (j7 A p λt=>t = .rw k s):=by
 have hc:A.cont p (.rw k s)=some (kF k (A.cE k s)):=ae hs;refine(mK.sl (h.has _ _ hc) (eH.nos λx hx=>?_) ab).to λb=>?_
 .cases k<;>(obtain⟨y,_,rfl⟩:=cx.1 hx;rfl)
 .constructor
  .rintro(rfl|a)
   .exact⟨_,_,rfl,hc,rfl⟩
   .exact absurd a ab
  .rintro⟨t,B,rfl,_,e⟩
   exact .inl e.symm
def Xf{D:Nat->Prop}(e:n=0->∀x,¬E x) (g:n ≠ 0->mK σ f (.sl b n 0 n) E):mK σ f (cu b n) E:=by
 by_cases d:n=0
 .rw[show cu b n = .ag from ae d]
  exact(mK.no rfl).to λb=>⟨λa=>a.elim,λa=>e d b a⟩
 .rw[show cu b n = .sl b n 0 n from ad d]
  exact g d
def AS.cls(h:AS A p σ) (k:Kd):mK σ (f+2) (cu (p (.ls k)) (A.tb k).length) (j7 A p λt=>t = .ls k\/∃s,t = .rw k s):=by
 refine Xf (D:=λ_=>False) (λh0 x=>?_) λh0=>?_
 .rintro⟨t,B,ht,hB,_⟩
  rcases ht with rfl|⟨s,rfl⟩
  .have hB:(if A.tb k=[]then none else some _)=some B:=hB
   rw[ae (dY h0)]at hB;simp at hB
  .have hB:(if s<(A.tb k).length then some _ else none)=some B:=hB
   rw[ad aa]at hB
   simp at hB
 .have eP:A.tb k ≠ []:=λe=>h0 fK
  have hc:A.cont p (.ls k)=some ⟨none,(List.range (A.tb k).length).map λs=>iA (p (.rw k s)) (A.cE k s).length,.live⟩:=ad eP;refine(mK.sl (h.has _ _ hc) (eH.eV (D:=λs=>j7 A p λt=>t = .rw k s) _ (λs hs=>h.cr hs) λi j hi hj vR=>h.dj λt h1 h2=>vR (by subst h1;simpa using h2)) ?_).to λb=>?_
  .rintro⟨i,_,t,B,rfl,hB,e⟩
   have:=h.inj _ _ _ _ hB hc e;simp at this
  .constructor
   .rintro(rfl|⟨i,_,t,B,rfl,hB,e⟩)
    .exact⟨_,_,.inl rfl,hc,rfl⟩
    .exact⟨_,B,.inr ⟨i,rfl⟩,hB,e⟩
   .rintro⟨t,B,rfl|⟨s,rfl⟩,hB,e⟩
    .exact .inl e.symm
    .refine .inr ⟨s,?_,_,B,rfl,hB,e⟩
     have hB:(if s<(A.tb k).length then some _ else none)=some B:=hB
     exact dF λhn=>by rw[ad hn]at hB;simp at hB
def AS.cpg(h:AS A p σ){g:Nat}(hs:s<A.pop.length) (hg:g<(A.bD s).length):mK σ (f+1) (.sl (p (.pg s g)) u o n) (j7 A p λt=>t = .pg s g):=by
 have hc:A.cont p (.pg s g)=some (Zb (A.cH s g)):=ae ⟨hs,hg⟩;refine(mK.sl (h.has _ _ hc) (eH.nos λx hx=>?_) ab).to λb=>?_
 .obtain⟨y,_,rfl⟩:=cx.1 hx;rfl
 .constructor
  .rintro(rfl|a)
   .exact⟨_,_,rfl,hc,rfl⟩
   .exact absurd a ab
  .rintro⟨t,B,rfl,_,e⟩
   exact .inl e.symm
def AS.cpr(h:AS A p σ)(hs:s<A.pop.length):mK σ (f+2) (.sl (p (.pr s)) u o n) (j7 A p λt=>t = .pr s\/∃g,t = .pg s g):=by
 have hc:A.cont p (.pr s)=some ⟨none,(List.range (A.bD s).length).map λg=>iA (p (.pg s g)) (A.cH s g).length,.live⟩:=ae hs;refine(mK.sl (h.has _ _ hc) (eH.eV (D:=λg=>j7 A p λt=>t = .pg s g) _ (λg hg=>h.cpg hs hg) λi j hi hj vR=>h.dj λt h1 h2=>vR (by subst h1;simpa using h2)) ?_).to λb=>?_
 .rintro⟨i,_,t,B,rfl,hB,e⟩
  have:=h.inj _ _ _ _ hB hc e;simp at this
 .constructor
  .rintro(rfl|⟨i,_,t,B,rfl,hB,e⟩)
   .exact⟨_,_,.inl rfl,hc,rfl⟩
   .exact⟨_,B,.inr ⟨i,rfl⟩,hB,e⟩
  .rintro⟨t,B,rfl|⟨g,rfl⟩,hB,e⟩
   .exact .inl e.symm
   .refine .inr ⟨g,?_,_,B,rfl,hB,e⟩
    have hB:(if s<A.pop.length/\g<(A.bD s).length then some _ else none)=some B:=hB
    exact(dF λhn=>by rw[ad hn]at hB;simp at hB:s<A.pop.length/\g<(A.bD s).length).2
def AS.cpo(h:AS A p σ):mK σ (f+3) (cu (p .po) A.pop.length) (j7 A p λt=>t = .po\/∃s,t = .pr s\/∃g,t = .pg s g):=by
 refine Xf (D:=λ_=>False) (λh0 x=>?_) λh0=>?_
 .rintro⟨t,B,ht,hB,_⟩
  rcases ht with rfl|⟨s,rfl|⟨g,rfl⟩⟩
  .have hB:(if A.pop=[]then none else some _)=some B:=hB
   rw[ae (dY h0)]at hB;simp at hB
  .have hB:(if s<A.pop.length then some _ else none)=some B:=hB
   rw[ad aa]at hB
   simp at hB
  .have hB:(if s<A.pop.length/\g<(A.bD s).length then some _ else none)=some B:=hB
   rw[ad aa]at hB
   simp at hB
 .have eP:A.pop ≠ []:=λe=>h0 fK
  have hc:A.cont p .po=some ⟨none,(List.range A.pop.length).map λs=>iA (p (.pr s)) (A.bD s).length,.live⟩:=ad eP;refine(mK.sl (h.has _ _ hc) (eH.eV (D:=λs=>j7 A p λt=>t = .pr s\/∃g,t = .pg s g) _ (λs hs=>h.cpr hs) λi j hi hj vR=>h.dj λt h1 h2=>?_) ?_).to λb=>?_
  .rcases h1 with rfl|⟨g,rfl⟩
   .rcases h2 with e|⟨g,e⟩
    .simp at e;exact vR e
    .simp at e
   .rcases h2 with e|⟨g', e⟩
    .simp at e
    .simp at e;exact vR e.1
  .rintro⟨i,_,t,B,ht,hB,e⟩
   have:=h.inj _ _ _ _ hB hc e;subst this;rcases ht with e|⟨g,e⟩<;>simp at e
  .constructor
   .rintro(rfl|⟨i,_,t,B,ht,hB,e⟩)
    .exact⟨_,_,.inl rfl,hc,rfl⟩
    .exact⟨t,B,.inr ⟨i,ht⟩,hB,e⟩
   .rintro⟨t,B,rfl|⟨s,ht⟩,hB,e⟩
    .exact .inl e.symm
    .refine .inr ⟨s,?_,t,B,ht,hB,e⟩
     rcases ht with rfl|⟨g,rfl⟩
     .have hB:(if s<A.pop.length then some _ else none)=some B:=hB
      exact dF λhn=>by rw[ad hn]at hB;simp at hB
     .have hB:(if s<A.pop.length/\g<(A.bD s).length then some _ else none)=some B:=hB
      exact(dF λhn=>by rw[ad hn]at hB;simp at hB:s<A.pop.length/\g<(A.bD s).length).1
def eH.ci(h:AS A p σ){Q:Tn->Prop}(h1:mK σ f x (j7 A p P)) (h2:eH σ f l (j7 A p Q)) (hd:∀t,P t->¬Q t):eH σ f (x::l) (j7 A p λt=>P t\/Q t):=by
 have:=eH.cons h1 h2 (h.dj hd);intro acc ha b;have e:∀b,(j7 A p P b\/j7 A p Q b)↔j7 A p (λt=>P t\/Q t) b:=λb=>by
  constructor
  .rintro(⟨t,B,a,c⟩|⟨t,B,a,c⟩)
   .exact⟨t,B,.inl a,c⟩
   .exact⟨t,B,.inr a,c⟩
  .rintro⟨t,B,a|a,c⟩
   .exact .inl ⟨t,B,a,c⟩
   .exact .inr ⟨t,B,a,c⟩
 rw[<-e b];exact this acc (λc hc q=>ha c hc ((e c).1 q)) b
def eH.no(hx:DK x=true) (h:eH σ f l D):eH σ f (x::l) D:=λacc ha b=>by
 rw[jW,K0 hx];exact h acc ha b
def AS.cov(h:AS A p σ)(hb:aq σ b=some ⟨some 10,A.bV p,.live⟩) (hn:∀t B,A.cont p t=some B->p t ≠ b):∀x,x∈reach σ vd (.ptr b 10 0) []↔x=b\/∃t B,A.cont p t=some B/\p t=x:=by
 have c0:mK σ 11 (iA (p .ac) A.accept.length) (j7 A p λt=>t = .ac):=by
  have hc:A.cont p .ac=some ⟨none,A.accept.map .bool,.live⟩:=rfl;refine(mK.sl (h.has _ _ hc) (eH.nos λx hx=>?_) ab).to λb=>?_
  .obtain⟨y,_,rfl⟩:=cx.1 hx;rfl
  .constructor
   .rintro(rfl|a)
    .exact⟨_,_,rfl,hc,rfl⟩
    .exact absurd a ab
   .rintro⟨t,B,rfl,_,e⟩
    exact .inl e.symm
 have n0:eH σ 11 [] (j7 A p λ_=>False):=λacc _ b=>by
  constructor
  .exact .inl
  .rintro(a|⟨_,_,a,_⟩)
   .exact a
   .exact a.elim
 have c1:=eH.ci h (h.cpo (f:=8)) n0 λt _ q=>q;have c2:=eH.ci h (h.cls .aQ (f:=9)) c1 (by rintro t (rfl|⟨s,rfl⟩)<;>simp)
 have c3:=eH.ci h (h.cls .ps (f:=9)) c2 (by rintro t (rfl|⟨s,rfl⟩)<;>simp)
 have c4:=eH.ci h (h.cls .cl (f:=9)) c3 (by rintro t (rfl|⟨s,rfl⟩)<;>simp)
 have c5:=eH.ci h c0 c4 (by rintro t rfl;simp)
 have c6:eH σ 11 (A.bV p) _:=eH.no (x:=.int A.calls) rfl (eH.no (x:=.int A.ak) rfl (eH.no (x:=.int A.ah) rfl (eH.no (x:=.int A.stack) rfl (eH.no (x:=.int A.start) rfl c5))));have c7:=mK.ptr (f:=11) (u:=10) (o:=0) hb c6 (by
  rintro⟨t,B,_,hB,e⟩;exact hn t B hB e)
 intro x;have:=c7 [] ab x
 rw[show vd=11+1 from rfl,this];simp only[List.not_mem_nil,false_or];constructor
 .rintro(a|⟨t,B,_,hB,e⟩)
  .exact .inl a
  .exact .inr ⟨t,B,hB,e⟩
 .rintro(a|⟨t,B,hB,e⟩)
  .exact .inl a
  .refine .inr ⟨t,B,?_,hB,e⟩
   cases t with
   |ac=>simp
   |po=>simp
   |ls k=>cases k<;>simp
   |rw k s=>cases k<;>simp
   |pr s=>simp
   |pg s g=>simp
def ap0{k:Nat}{vars:List AV}{o:Option (Nat×AV)}{Q:Ex->St->Prop}(h:AS A p σ) (q:aq σ b=some ⟨some 10,A.bV p,.live⟩) (r:∀t B,A.cont p t=some B->p t ≠ b) (s:nth vars k = .ptr b 10 0)
  (u:∀τ,τ.length=σ.length->(∀i,i ≠ b->(∀t B,A.cont p t=some B->p t ≠ i)->aq τ i=aq σ i)->Q .eQ ⟨eu vars k (.a8 A.av),o,τ⟩):W L (.ji k) ⟨vars,o,σ⟩ Q:=by
 have d:=h.cov q r;have a:∀i,i∈reach σ vd (.ptr b 10 0) []->aq (bG (λc=>!(reach σ vd (.ptr b 10 0) []).contains c) 0 σ) i=aq σ i:=λi g=>by
  rw[lL];cases aq σ i with
  |none=>rfl
  |some B=>simp[g]
 have j:AS A p (bG (λc=>!(reach σ vd (.ptr b 10 0) []).contains c) 0 σ):=h.other λt B l=>a _ ((d _).2 (.inr ⟨t,B,l,rfl⟩));have m:=(a b ((d b).2 (.inl rfl))).trans q;have w:eE σ (.ptr b 10 0)=false:=rfl;have x:view (bG (λc=>!(reach σ vd (.ptr b 10 0) []).contains c) 0 σ) false vd (.ptr b 10 0)=some (.a8 A.av):=by
  have n:=j.L9;generalize bG (λc=>!(reach σ vd (.ptr b 10 0) []).contains c) 0 σ=τ at *;have y:upto τ b 10=some ⟨some 10,A.bV p,.live⟩:=qz m rfl rfl;show Ab.view τ false (11+1) _=_;unfold Ab.view;simp only[y];have z:part (A.bV p) 0 (some 10)=some (.agg (A.bV p)):=rfl;rw[ae (by rfl),z]
  simp only[n]
 refine⟨0,.eQ,_,?_,u (bG (λc=>(reach σ vd (.ptr b 10 0) []).contains c) 0 σ) Vy λi g C=>?_⟩
 .simp only[exec,s,x,w]
  rfl
 .rw[lL]
  have:i∉reach σ vd (.ptr b 10 0) []:=λD=>by
   rcases(d i).1 D with e|⟨t,B,l,e⟩
   .exact g e
   .exact C t B l e
  cases aq σ i with
  |none=>rfl
  |some B=>simp[this]
variable{N:Nat}{v:AV}
def Xg(h:(cN G Q N f [] []).map (λp=>bP p.2 false p.1)=some (some v)):PC f []=some v:=by
 cases e:cN G Q N f [] []with
 |none=>rw[e]at h;simp at h
 |some p=>
  rw[e]at h;simp at h;unfold PC rW;rw[show L f [] []=some p from BU oD e];exact h
def ap2:PC Cq []=some dz.av:=Xg (N:=50) (by kernel_rfl)
def ap3:PC Cr []=some sg.av:=Xg (N:=50) (by kernel_rfl)
def ap4:sg.fits:=Vm V8 ⟨bO,bO,bO,bO⟩
def Xh (n:ao) (d:n.Ok) (g:n.fits) (h:n.accept.length^n.bj.length<=512) (i:n.cK=dz.cK) (j:n.bh=dz.bh):PC rZ [n.av]=some (.bM [sg.av,.int 0]):=by
 obtain⟨⟨x,e⟩,l,_,m⟩:=VE n g λ_=>h;obtain⟨ws,b,a⟩:=m (Vl d);rw[i,j]at b a;rw[b.oN D7]at a;have o:tM dz.cK dz.bh [[],[0,3]]=(sg,0):=by
  unfold tM;rw[<-LR];simp
  decide
 rw[o]at a;injection a with p q
 rw[l,p,q]
def ap5{a:List AV}(h:(cN G Q N f a []).map (λp=>bP p.2 false p.1)=some (some v)):PC f a=some v:=by
 cases e:cN G Q N f a []with
 |none=>rw[e]at h;simp at h
 |some p=>
  rw[e]at h;simp at h;unfold PC rW;rw[show L f a []=some p from BU oD e];exact h
def ap6:PC Jt [sg.av,dz.av]=some (.bM [.aF false [],.bool false,.int 0]):=ap5 (N:=100) (by kernel_rfl)
def brO (i:Nat):Option al:=if i=0 then some kK else none
def brS:List al:=[kK,⟨some 2,[.str [],.str []],.live⟩,⟨some 0,[],.map []⟩,⟨some 13,dz.kQ ++ [b8 [[]],.sl 1 2 0 1,.cP 2],.live⟩]
def ap7:LM (p9 [[]]) brO brS:=by
 refine⟨rfl,rfl,rfl,λe a=>?_,λe a=>?_,λe a=>?_,by simp[p9],by simp[p9],bO,λe a=>?_,λi B b=>?_⟩
 .simp[p9]at a
 .simp[p9]at a
 .simp[p9]at a
 .simp[p9]at a
 .unfold brO at b
  split at b
  .rename_i d
   subst d;simp at b;subst b;exact⟨rfl,bO,bO,bO,λe a=>by simp[p9]at a⟩
  .simp at b
def ap8:PC Jl [dz.av]=some (.bM [sg.av,.int 1,.int 0]):=by
 refine bZ (aiQ rfl ?_);have w:=JX dz El;rw[E7]at w;obtain⟨r,d,x,T,p,S,_,_,D,y,z,rfl⟩:=dd (apS ap7 apY apZ);rw[Xa]at y z x;have C:=(D 0 kK rfl).2;have o:=cU C;simp[-aj,w];refine⟨rfl,aK (λ_:Unit=>[]) (λ_=>brS) (λ_=>True) (λ_=>0) () rfl trivial ?_⟩;intro _ _;have h:sg.bV p=[.int 2,.int 0,.int 2,.int 4,.int 0,iA (p .ac) 2,cu (p (.ls .cl)) 2,cu (p (.ls .ps)) 2,cu (p (.ls .aQ)) 2,cu (p .po) 2]:=rfl;have i :=x;rw[h]at i;have q:∀b m:Nat,dO (cu b m)=true:=λb m=>by unfold cu;split<;>rfl
 have E:∀Y:al,aq (d ++ [Y]) d.length=some Y:=λY=>gU;have es:∀Y Z:al,ar (d ++ [Y]) d.length Z=d ++ [Z]:=λY Z=>Ao;simp[-aj,i, E,es,q];have e:∀t B,sg.cont p t=some B->4<p t/\p t<d.length:=λt B g=>(z t B g).2;refine ap0 (A:=sg) (p:=p) (b:=d.length) (y.other λt B g=>dH (e t B g).2) gU (λt B g=>by have:=(e t B g).2;omega) rfl λl U F=>?_
 have j:aq l 0=some kK:=by
  rw[F 0 aa λt B g=>by have:=(e t B g).1;omega,dH o];exact C
 have s:0<l.length:=cU j;have a:∀B:al,aq (ar l 0 B) 0=some B:=λB=>bU s;have u:=λ(ce:CE) (G H I J K L M N O P:AV)=>oI (ce:=ce) (σ:=ar l 0 ⟨some 10,[G,H,I,J,K,L,M,N,O,P],.live⟩) (n:=0) (a _);have Q:=ap6;have R:=Xh sg V8 ap4 bO rfl aoG
 simp[-aj,Q,R,j,a,u]
def ap9:PC rZ [dz.av]=some (.bM [sg.av,.int 0]):=Xh dz vl El bO rfl rfl
def awake:PC zA []=some (.bool true):=by
 refine bZ (aiN rfl ?_);have d:=ap2;have e:=ap3;have g:=ap9;have h:=ap8;have a:sg.Lt:=by rw[<-LR];exact(VG V9.ok.cK bO bO).1
 have b:=Vt sg sg a a;rw[Lu.2 rfl]at b;simp[-aj,d,e,g,h,b]
end Ab
