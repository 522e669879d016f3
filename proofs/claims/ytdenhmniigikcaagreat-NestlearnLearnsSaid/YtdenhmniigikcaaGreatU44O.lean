/- An automaton in memory is given away; and what it leans on. Condition: none. -/
import Derived.Test.YtdenhmniigikcaaGreatU44L
import Derived.Test.YtdenhmniigikcaaGreatS44W
set_option linter.all false
set_option maxRecDepth 100000
set_option maxHeartbeats 8000000
open Option renaming some->aa,none->ab
open Bool renaming true->ad,false->ae
open List renaming range->af,replicate->ag,length->ah
open Int renaming toNat->aj
namespace Ab
variable{n:aS}{p:Tn->Nat}{σ:aq}
def AS.NG(h:AS n p σ):Ab.view σ ae 11 (.agg (n.cv p))=aa n.av:=by
 have iD:∀(k:Kd) (s:Nat) (f:Nat),s<ah (n.tb k)->Ab.view σ ae (f+2) (jf (p (.rw k s)) (ah (n.dc k s)))=aa (iL (n.dc k s)):=λk s f hs=>by
  have:=h.has (.rw k s) _ (aD hs);cases k
  .exact gY (k:=f+1) this rfl rfl λ_ _=>rfl
  .exact gY (k:=f+1) (st:=if n.dc .ps s=[]then .jN else .live) this iB rfl λ_ _=>rfl
  .exact gY (k:=f+1) this rfl rfl λ_ _=>rfl
 have Mv:∀(k:Kd) (f:Nat),Ab.view σ ae (f+3) (dh (p (.ls k)) (ah (n.tb k)))=aa (bU (n.tb k)):=λk f=>by
  have e:bU (n.tb k) = .aX ae ((af (ah (n.tb k))).map λs=>iL (n.dc k s)):=by
   unfold aS.dc;rw[rV (f:=iL)]
  rw[e];exact rW (k:=f+2) (f:=λs=>jf (p (.rw k s)) (ah (n.dc k s))) (λhx=>h.has (.ls k) _ (aC λe=>hx fW)) aA λs hs=>iD k s f (cE.1 hs)
 have G5:∀(f:Nat),Ab.view σ ae (f+4) (dh (p .po) (ah n.aP))=aa (dw n.aP):=λf=>by
  have e:dw n.aP = .aX ae ((af (ah n.aP)).map λs=>bU (n.cd s)):=by
   unfold aS.cd;rw[rV (f:=bU)]
  rw[e];refine rW (k:=f+3) (f:=λs=>jf (p (.pr s)) (ah (n.cd s))) (λhx=>h.has .po _ (aC λe=>hx fW)) aA λs hs=>?_
  have j8 :=cE.1 hs;have e2:bU (n.cd s) = .aX ae ((af (ah (n.cd s))).map λg=>iL (n.df s g)):=by
   unfold aS.df;rw[rV (f:=iL)]
  rw[e2];exact gY (k:=f+2) (f:=λg=>jf (p (.pg s g)) (ah (n.df s g))) (h.has (.pr s) _ (aD j8)) rfl aA λg hg=>gY (k:=f+1) (h.has (.pg s g) _ (aD ⟨j8, cE.1 hg⟩)) rfl rfl λ_ _=>rfl
 show Ab.view σ ae (10+1) _=_;unfold Ab.view;have hm:cu (Ab.view σ ae 10) (n.cv p)=aa [.int n.ay,.int n.aG,.int n.aM,.int n.aL,.int n.aF,bL n.az,bU n.call,bU n.push,bU n.aH,dw n.aP]:=by
  refine de rfl (de rfl (de rfl (de rfl (de rfl (de ?_ (de ?_ (de ?_ (de ?_ (de ?_ rfl)))))))))
  .exact gY (k:=9) (h.has .ac _ rfl) rfl rfl λ_ _=>rfl
  .exact Mv .cl 7
  .exact Mv .ps 7
  .exact Mv .bp 7
  .exact G5 6
 simp only[hm]
def ou (σ:aq) (f:Nat) (x:AV) (D:Nat->Prop):Prop:=∀acc,(∀b∈acc,¬D b)->∀b,b∈reach σ f x acc↔b∈acc\/D b
def ft (σ:aq) (f:Nat) (l:ao) (D:Nat->Prop):Prop:=∀acc,(∀b∈acc,¬D b)->∀b,b∈l.foldl (λacc y=>reach σ f y acc) acc↔b∈acc\/D b
variable{f:Nat}{x:AV}
def ou.no(h:FP x=ad):ou σ f x λ_=>False:=λacc _ b=>by rw[MC h];simp
variable{l:ao}
def ft.nos(h:∀x∈l,FP x=ad):ft σ f l λ_=>False:=λacc _ b=>by rw[MD l acc h];simp
variable{D:Nat->Prop}
def ft.cons{E:Nat->Prop}(h1:ou σ f x D) (h2:ft σ f l E) (hd:∀b,D b->¬E b):ft σ f (x::l) λb=>D b\/E b:=λacc ha b=>by
 rw[my];have k1:=h1 acc λc hc q=>ha c hc (.inl q);rw[h2 _ (λc hc q=>?_) b,k1 b]
 .constructor
  .rintro((a|a)|a)
   .exact .inl a
   .exact .inr (.inl a)
   .exact .inr (.inr a)
  .rintro(a|a|a)
   .exact .inl (.inl a)
   .exact .inl (.inr a)
   .exact .inr a
 .rcases(k1 c).1 hc with a|a
  .exact ha c a (.inr q)
  .exact hd c a q
def ft.gi{σ:aq}{f:Nat}{g:Nat->AV}{D:Nat->Nat->Prop}:∀(n:Nat),(∀i,i<n->ou σ f (g i) (D i))->(∀i j,i<n->j<n->i ≠ j->∀b,D i b->¬D j b)->ft σ f ((af n).map g) λb=>∃i,i<n/\D i b
 |0,_,_=>λacc _ b=>by simp
 |n+1,h,hd=>λacc ha b=>by
  rw[kL,kk,List.foldl_append];have k1:=ft.gi n (λi hi=>h i ax) (λi j hi hj=>hd i j ax ax) acc λc hc ⟨i,hi,q⟩=>ha c hc ⟨i,ax,q⟩
  show b∈reach σ f (g n) _↔_;rw[h n ax _ (λc hc q=>?_) b,k1 b]
  .constructor
   .rintro((a|⟨i,hi,a⟩)|a)
    .exact .inl a
    .exact .inr ⟨i,ax,a⟩
    .exact .inr ⟨n,ax,a⟩
   .rintro(a|⟨i,hi,a⟩)
    .exact .inl (.inl a)
    .by_cases e:i=n
     .subst e;exact .inr a
     .exact .inl (.inr ⟨i,ax,a⟩)
  .rcases(k1 c).1 hc with a|⟨i,hi,a⟩
   .exact ha c a ⟨n,ax,q⟩
   .exact hd i n ax ax ax c a q
variable{b u o:Nat}{B:aO}
def ou.sl{n:Nat}(hB:aQ σ b=aa B) (h:ft σ f B.cells D) (hn:¬D b):ou σ (f+1) (.sl b u o n) λx=>x=b\/D x:=λacc ha x=>by
 rw[Wj hB λhm=>ha b hm (.inl rfl),h (b::acc) (λc hc q=>by
  rcases cC.1 hc with e|e
  .subst e;exact hn q
  .exact ha c e (.inr q)) x,cC]
 constructor
 .rintro((a|a)|a)
  .exact .inr (.inl a)
  .exact .inl a
  .exact .inr (.inr a)
 .rintro(a|a|a)
  .exact .inl (.inr a)
  .exact .inl (.inl a)
  .exact .inr a
def ou.ptr(hB:aQ σ b=aa B) (h:ft σ f B.cells D) (hn:¬D b):ou σ (f+1) (.ptr b u o) λx=>x=b\/D x:=λacc ha x=>by
 rw[Wk hB λhm=>ha b hm (.inl rfl),h (b::acc) (λc hc q=>by
  rcases cC.1 hc with e|e
  .subst e;exact hn q
  .exact ha c e (.inr q)) x,cC]
 constructor
 .rintro((a|a)|a)
  .exact .inr (.inl a)
  .exact .inl a
  .exact .inr (.inr a)
 .rintro(a|a|a)
  .exact .inl (.inr a)
  .exact .inl (.inl a)
  .exact .inr a
def kO (A:aS) (p:Tn->Nat) (P:Tn->Prop) (b:Nat):Prop:=∃t B,P t/\A.cont p t=aa B/\p t=b
variable{A:aS}{P:Tn->Prop}
def AS.dj(h:AS A p σ){Q:Tn->Prop}(hd:∀t,P t->¬Q t):∀b,kO A p P b->¬kO A p Q b:=by
 rintro b ⟨t,B,hP,hB,rfl⟩ ⟨u,C,hQ,hC,e⟩;have:=h.inj t u B C hB hC e.symm;subst this;exact hd t hP hQ
def ou.to{E:Nat->Prop}(h:ou σ f x D) (e:∀b,D b↔E b):ou σ f x E:=by
 rw[show E=D from funext λb=>propext (e b).symm];exact h
variable{s:Nat}
def AS.cr(h:AS A p σ){k:Kd}{n:Nat}(hs:s<ah (A.tb k)):ou σ (f+1) (.sl (p (.rw k s)) u o n) (kO A p λt=>t = .rw k s):=by
 have hc:A.cont p (.rw k s)=aa (lE k (A.dc k s)):=aD hs;refine(ou.sl (h.has _ _ hc) (ft.nos λx hx=>?_) aA).to λb=>?_
 .cases k<;>(obtain⟨y,_,rfl⟩:=cJ.1 hx;rfl)
 .constructor
  .rintro(rfl|a)
   .exact⟨_,_,rfl,hc,rfl⟩
   .exact absurd a aA
  .rintro⟨t,B,rfl,_,e⟩
   exact .inl e.symm
def Y5{n:Nat}{D E:Nat->Prop}(e:n=0->∀x,¬E x) (g:n ≠ 0->ou σ f (.sl b n 0 n) E):ou σ f (dh b n) E:=by
 by_cases d:n=0
 .rw[show dh b n = .aJ from aD d]
  exact(ou.no rfl).to λb=>⟨λa=>a.elim,λa=>e d b a⟩
 .rw[show dh b n = .sl b n 0 n from aC d]
  exact g d
def AS.cls(h:AS A p σ) (k:Kd):ou σ (f+2) (dh (p (.ls k)) (ah (A.tb k))) (kO A p λt=>t = .ls k\/∃s,t = .rw k s):=by
 refine Y5 (D:=λ_=>False) (λh0 x=>?_) λh0=>?_
 .rintro⟨t,B,ht,hB,_⟩
  rcases ht with rfl|⟨s,rfl⟩
  .have hB:(if A.tb k=[]then ab else aa _)=aa B:=hB
   rw[aD (eK h0)]at hB;simp at hB
  .have hB:(if s<ah (A.tb k) then aa _ else ab)=aa B:=hB
   rw[aC ax]at hB
   simp at hB
 .have fg:A.tb k ≠ []:=λe=>h0 fW
  have hc:A.cont p (.ls k)=aa ⟨ab,(af (ah (A.tb k))).map λs=>jf (p (.rw k s)) (ah (A.dc k s)),.live⟩:=aC fg;refine(ou.sl (h.has _ _ hc) (ft.gi (D:=λs=>kO A p λt=>t = .rw k s) _ (λs hs=>h.cr hs) λi j hi hj xW=>h.dj λt h1 h2=>xW (by subst h1;simpa using h2)) ?_).to λb=>?_
  .rintro⟨i,_,t,B,rfl,hB,e⟩
   have:=h.inj _ _ _ _ hB hc e;simp at this
  .constructor
   .rintro(rfl|⟨i,_,t,B,rfl,hB,e⟩)
    .exact⟨_,_,.inl rfl,hc,rfl⟩
    .exact⟨_,B,.inr ⟨i,rfl⟩,hB,e⟩
   .rintro⟨t,B,rfl|⟨s,rfl⟩,hB,e⟩
    .exact .inl e.symm
    .refine .inr ⟨s,?_,_,B,rfl,hB,e⟩
     have hB:(if s<ah (A.tb k) then aa _ else ab)=aa B:=hB
     exact dP λhn=>by rw[aC hn]at hB;simp at hB
def AS.cpg(h:AS A p σ){g n:Nat}(hs:s<ah A.aP) (hg:g<ah (A.cd s)):ou σ (f+1) (.sl (p (.pg s g)) u o n) (kO A p λt=>t = .pg s g):=by
 have hc:A.cont p (.pg s g)=aa (Zb (A.df s g)):=aD ⟨hs,hg⟩;refine(ou.sl (h.has _ _ hc) (ft.nos λx hx=>?_) aA).to λb=>?_
 .obtain⟨y,_,rfl⟩:=cJ.1 hx;rfl
 .constructor
  .rintro(rfl|a)
   .exact⟨_,_,rfl,hc,rfl⟩
   .exact absurd a aA
  .rintro⟨t,B,rfl,_,e⟩
   exact .inl e.symm
def AS.cpr(h:AS A p σ){n:Nat}(hs:s<ah A.aP):ou σ (f+2) (.sl (p (.pr s)) u o n) (kO A p λt=>t = .pr s\/∃g,t = .pg s g):=by
 have hc:A.cont p (.pr s)=aa ⟨ab,(af (ah (A.cd s))).map λg=>jf (p (.pg s g)) (ah (A.df s g)),.live⟩:=aD hs;refine(ou.sl (h.has _ _ hc) (ft.gi (D:=λg=>kO A p λt=>t = .pg s g) _ (λg hg=>h.cpg hs hg) λi j hi hj xW=>h.dj λt h1 h2=>xW (by subst h1;simpa using h2)) ?_).to λb=>?_
 .rintro⟨i,_,t,B,rfl,hB,e⟩
  have:=h.inj _ _ _ _ hB hc e;simp at this
 .constructor
  .rintro(rfl|⟨i,_,t,B,rfl,hB,e⟩)
   .exact⟨_,_,.inl rfl,hc,rfl⟩
   .exact⟨_,B,.inr ⟨i,rfl⟩,hB,e⟩
  .rintro⟨t,B,rfl|⟨g,rfl⟩,hB,e⟩
   .exact .inl e.symm
   .refine .inr ⟨g,?_,_,B,rfl,hB,e⟩
    have hB:(if s<ah A.aP/\g<ah (A.cd s) then aa _ else ab)=aa B:=hB
    exact(dP λhn=>by rw[aC hn]at hB;simp at hB:s<ah A.aP/\g<ah (A.cd s)).2
def AS.cpo(h:AS A p σ):ou σ (f+3) (dh (p .po) (ah A.aP)) (kO A p λt=>t = .po\/∃s,t = .pr s\/∃g,t = .pg s g):=by
 refine Y5 (D:=λ_=>False) (λh0 x=>?_) λh0=>?_
 .rintro⟨t,B,ht,hB,_⟩
  rcases ht with rfl|⟨s,rfl|⟨g,rfl⟩⟩
  .have hB:(if A.aP=[]then ab else aa _)=aa B:=hB
   rw[aD (eK h0)]at hB;simp at hB
  .have hB:(if s<ah A.aP then aa _ else ab)=aa B:=hB
   rw[aC ax]at hB
   simp at hB
  .have hB:(if s<ah A.aP/\g<ah (A.cd s) then aa _ else ab)=aa B:=hB
   rw[aC ax]at hB
   simp at hB
 .have fg:A.aP ≠ []:=λe=>h0 fW
  have hc:A.cont p .po=aa ⟨ab,(af (ah A.aP)).map λs=>jf (p (.pr s)) (ah (A.cd s)),.live⟩:=aC fg;refine(ou.sl (h.has _ _ hc) (ft.gi (D:=λs=>kO A p λt=>t = .pr s\/∃g,t = .pg s g) _ (λs hs=>h.cpr hs) λi j hi hj xW=>h.dj λt h1 h2=>?_) ?_).to λb=>?_
  .rcases h1 with rfl|⟨g,rfl⟩
   .rcases h2 with e|⟨g,e⟩
    .simp at e;exact xW e
    .simp at e
   .rcases h2 with e|⟨g', e⟩
    .simp at e
    .simp at e;exact xW e.1
  .rintro⟨i,_,t,B,ht,hB,e⟩
   have:=h.inj _ _ _ _ hB hc e;subst this;rcases ht with e|⟨g,e⟩<;>simp at e
  .constructor
   .rintro(rfl|⟨i,_,t,B,ht,hB,e⟩)
    .exact⟨_,_,.inl rfl,hc,rfl⟩
    .exact⟨t,B,.inr ⟨i,ht⟩,hB,e⟩
   .rintro⟨t,B,rfl|⟨s,ht⟩,hB,e⟩
    .exact .inl e.symm
    .refine .inr ⟨s,?_,t,B,ht,hB,e⟩
     rcases ht with rfl|⟨g,rfl⟩
     .have hB:(if s<ah A.aP then aa _ else ab)=aa B:=hB
      exact dP λhn=>by rw[aC hn]at hB;simp at hB
     .have hB:(if s<ah A.aP/\g<ah (A.cd s) then aa _ else ab)=aa B:=hB
      exact(dP λhn=>by rw[aC hn]at hB;simp at hB:s<ah A.aP/\g<ah (A.cd s)).1
def ft.ci(h:AS A p σ){Q:Tn->Prop}(h1:ou σ f x (kO A p P)) (h2:ft σ f l (kO A p Q)) (hd:∀t,P t->¬Q t):ft σ f (x::l) (kO A p λt=>P t\/Q t):=by
 have:=ft.cons h1 h2 (h.dj hd);intro acc ha b;have e:∀b,(kO A p P b\/kO A p Q b)↔kO A p (λt=>P t\/Q t) b:=λb=>by
  constructor
  .rintro(⟨t,B,a,c⟩|⟨t,B,a,c⟩)
   .exact⟨t,B,.inl a,c⟩
   .exact⟨t,B,.inr a,c⟩
  .rintro⟨t,B,a|a,c⟩
   .exact .inl ⟨t,B,a,c⟩
   .exact .inr ⟨t,B,a,c⟩
 rw[<-e b];exact this acc (λc hc q=>ha c hc ((e c).1 q)) b
def ft.no(hx:FP x=ad) (h:ft σ f l D):ft σ f (x::l) D:=λacc ha b=>by
 rw[my,MC hx];exact h acc ha b
def AS.cov(h:AS A p σ)(hb:aQ σ b=aa ⟨aa 10,A.cv p,.live⟩) (hn:∀t B,A.cont p t=aa B->p t ≠ b):∀x,x∈reach σ vd (.ptr b 10 0) []↔x=b\/∃t B,A.cont p t=aa B/\p t=x:=by
 have c0:ou σ 11 (jf (p .ac) (ah A.az)) (kO A p λt=>t = .ac):=by
  have hc:A.cont p .ac=aa ⟨ab,A.az.map .bool,.live⟩:=rfl;refine(ou.sl (h.has _ _ hc) (ft.nos λx hx=>?_) aA).to λb=>?_
  .obtain⟨y,_,rfl⟩:=cJ.1 hx;rfl
  .constructor
   .rintro(rfl|a)
    .exact⟨_,_,rfl,hc,rfl⟩
    .exact absurd a aA
   .rintro⟨t,B,rfl,_,e⟩
    exact .inl e.symm
 have n0:ft σ 11 [] (kO A p λ_=>False):=λacc _ b=>by
  constructor
  .exact .inl
  .rintro(a|⟨_,_,a,_⟩)
   .exact a
   .exact a.elim
 have c1:=ft.ci h (h.cpo (f:=8)) n0 λt _ q=>q;have c2:=ft.ci h (h.cls .bp (f:=9)) c1 (by rintro t (rfl|⟨s,rfl⟩)<;>simp)
 have c3:=ft.ci h (h.cls .ps (f:=9)) c2 (by rintro t (rfl|⟨s,rfl⟩)<;>simp)
 have c4:=ft.ci h (h.cls .cl (f:=9)) c3 (by rintro t (rfl|⟨s,rfl⟩)<;>simp)
 have c5:=ft.ci h c0 c4 (by rintro t rfl;simp)
 have c6:ft σ 11 (A.cv p) _:=ft.no (x:=.int A.ay) rfl (ft.no (x:=.int A.aG) rfl (ft.no (x:=.int A.aM) rfl (ft.no (x:=.int A.aL) rfl (ft.no (x:=.int A.aF) rfl c5))));have c7:=ou.ptr (f:=11) (u:=10) (o:=0) hb c6 (by
  rintro⟨t,B,_,hB,e⟩;exact hn t B hB e)
 intro x;have:=c7 [] aA x
 rw[show vd=11+1 from rfl,this];simp only[List.not_mem_nil,false_or];constructor
 .rintro(a|⟨t,B,_,hB,e⟩)
  .exact .inl a
  .exact .inr ⟨t,B,hB,e⟩
 .rintro(a|⟨t,B,hB,e⟩)
  .exact .inl a
  .refine .inr ⟨t,B,?_,hB,e⟩
   cases t with
   |ac=>simp
   |po=>simp
   |ls k=>cases k<;>simp
   |rw k s=>cases k<;>simp
   |pr s=>simp
   |pg s g=>simp
variable{k:Nat}{vars:ao}{fl:Option (Nat×AV)}
def Y6{Q:Ex->St->Prop}(h:AS A p σ) (o:aQ σ b=aa ⟨aa 10,A.cv p,.live⟩) (q:∀t B,A.cont p t=aa B->p t ≠ b) (r:nth vars k = .ptr b 10 0)
  (s:∀τ,ah τ=ah σ->(∀i,i ≠ b->(∀t B,A.cont p t=aa B->p t ≠ i)->aQ τ i=aQ σ i)->Q .fe ⟨eY vars k (.bN A.av),fl,τ⟩):W L (.km k) ⟨vars,fl,σ⟩ Q:=by
 have d:=h.cov o q;have a:∀i,i∈reach σ vd (.ptr b 10 0) []->aQ (bR (λc=>!(reach σ vd (.ptr b 10 0) []).contains c) 0 σ) i=aQ σ i:=λi g=>by
  rw[nK];cases aQ σ i with
  |none=>rfl
  |some B=>simp[g]
 have j:AS A p (bR (λc=>!(reach σ vd (.ptr b 10 0) []).contains c) 0 σ):=h.other λt B l=>a _ ((d _).2 (.inr ⟨t,B,l,rfl⟩));have m:=(a b ((d b).2 (.inl rfl))).trans o;have u:fJ σ (.ptr b 10 0)=ae:=rfl;have w:view (bR (λc=>!(reach σ vd (.ptr b 10 0) []).contains c) 0 σ) ae vd (.ptr b 10 0)=aa (.bN A.av):=by
  have n:=j.NG;generalize bR (λc=>!(reach σ vd (.ptr b 10 0) []).contains c) 0 σ=τ at *;have x:upto τ b 10=aa ⟨aa 10,A.cv p,.live⟩:=u9 m rfl rfl;show Ab.view τ ae (11+1) _=_;unfold Ab.view;simp only[x];have y:part (A.cv p) 0 (aa 10)=aa (.agg (A.cv p)):=rfl;rw[aD (by rfl),y]
  simp only[n]
 refine⟨0,.fe,_,?_,s (bR (λc=>(reach σ vd (.ptr b 10 0) []).contains c) 0 σ) F5 λi g z=>?_⟩
 .simp only[exec,r,w,u]
  rfl
 .rw[nK]
  have:i∉reach σ vd (.ptr b 10 0) []:=λC=>by
   rcases(d i).1 C with e|⟨t,B,l,e⟩
   .exact g e
   .exact z t B l e
  cases aQ σ i with
  |none=>rfl
  |some B=>simp[this]
variable{S T:Lg}
def cj.wi(h:cj S T) (g:S.Wi):T.Wi:=⟨h.ok g.ok,by rw[h.1];exact g.sm,by rw[h.1,h.2.1];exact g.ww,by rw[h.2.1];exact g.wl,by rw[h.2.1];exact g.nil,by rw[h.2.2];exact g.c0,by rw[h.2.1];exact g.vI⟩
structure LI (n:aS) (k:Nat) (S:Lg):Prop where
 n:S.n=n
 wi:S.Wi
 ci:S.Ci
 cs:ah S.cs=k+1
 kl:k<=ah S.ws
 kc:ah S.ws*aj S.n.ay<=128
 mi:k=0\/∃x∈S.n.gC S.ws S.ws,S.row x∉S.ws.map S.row
structure LE (n:aS) (k:Nat) (E:Lg):Prop where
 n:E.n=n
 wi:E.Wi
 cl:E.Cl
 ci:E.Ci
 cs:ah E.cs=k+1
 kl:k+1<=ah E.ws
def Df (n:aS):Lg:=⟨n,[[]],[([],[])],[],1⟩
def LI.zero(hn:n.Ok) (hf:n.fits) (hs:n.ay+n.aG+n.aM<=5):LI n 0 (Df n):=by
 have hc:=hn.ay;have hi:=hn.aG;have hr:=hn.aM;have c0:∀c∈(Df n).cs,c=([],[]):=λc hc=>by simpa[Df]using hc
 have w0:∀w∈(Df n).ws,w=[]:=λw hw=>by simpa[Df]using hw
 refine⟨rfl,⟨⟨hn,hf,λc hc=>by rw[c0 c hc];exact⟨aA,aA,aA⟩,jH,λw hw=>by rw[w0 w hw];exact⟨λx hx=>by simp at hx,aA⟩,jH,jH⟩,hs,λw hw=>by rw[w0 w hw];exact .nil,λw hw=>by rw[w0 w hw];simp,jH,jH,jH⟩,λc hc=>by rw[c0 c hc];exact .nil,rfl,aA,?_,.inl rfl⟩
 show 1*aj n.ay<=128;omega
def LI.round(h:LI n k S):∃E e m,Cm E e m S/\(e=0->LE n k E):=by
 obtain⟨E,e,m,h1,h2⟩:=Hp 128 h.wi h.kc ax
 refine⟨E,e,m,h1,λhe=>?_⟩;have q:=h2 he;refine⟨q.n.trans h.n,q.wi,q.cl,λc hc=>?_,by rw[q.cs];exact h.cs,?_⟩
 .rw[q.n];rw[q.cs]at hc;exact h.ci c hc
 .have h1:=q.len
  have h2:=q.cl.w1;have h3:=h.kl;rcases h.mi with e|⟨x,hx,hr⟩
  .omega
  .rcases Nat.lt_or_ge k (ah E.ws) with a|a
   .exact a
   .exact absurd (q.eq ax x hx) hr
variable{E:Lg}
def LE.same(h:LE n k E) (hs:cj E T):LE n k T:=⟨hs.1.trans h.n,hs.wi h.wi,hs.cl h.cl,λc hc=>by rw[hs.1];rw[hs.2.2]at hc;exact h.ci c hc,by rw[hs.2.2];exact h.cs,by rw[hs.2.1];exact h.kl⟩
def LE.W6(h:LE n k E) (hN:ah n.az<=3):ah E.ws<=27:=arh h.wi h.cl.ws h.ci (by rw[h.n];exact hN)
def LE.next(h:LE n k E) (hN:ah n.az<=3) (hA:E.tg.ee.Ok){y:ak}(hy:E.tg.ee.word y) (hu:E.tg.ee.up y){i:Nat}(hi:i<ah y) (h1:(E.n.acc (E.ask E.tg.ee y (i+1:Nat))).2=0)
  (h2:∀j:Nat,j<=i->0<j->(E.n.acc (E.ask E.tg.ee y j)).1=(E.n.acc y).1) (h3:(E.n.acc (E.ask E.tg.ee y (i+1:Nat))).1 ≠ (E.n.acc y).1):LI n (k+1) (E.ctx (E.pre E.tg.ee y (i+1),y.drop (i+1))):=by
 have hn:=h.wi.ok.ok;have hw:=NA h1;have hsy:=hn.syms;have hF:=NC hA hn.ay.1;have fT:=Nz hF hy hu (i:=(i:Int)+1) ax ax
 have ea:E.ask E.tg.ee y ((i+1:Nat):Int)=E.pre E.tg.ee y ((i:Int)+1)++(E.DE E.tg.ee y ((i:Int)+1)++y.drop (i+1)):=rfl;rw[ea]at hw;have hl:=hw.1;rw[bM,bM]at hl;have hb:∀x,x∈E.pre E.tg.ee y ((i:Int)+1)\/x∈y.drop (i+1)->0<=x/\x<=255:=λx hx=>by
  have:=hw.2 x (by rcases hx with hx|hx<;>simp[hx])
  omega
 have hc:zZ (E.pre E.tg.ee y ((i:Int)+1),y.drop (i+1)):=⟨λx hx=>hb x (.inl hx),λx hx=>hb x (.inr hx),aR⟩
 have hk:=h.W6 hN;have GF:=h.kl;have vE:=h.cs;refine⟨h.n,h.wi.ctx hc ax,λc pD=>?_,?_,by show k+1<=ah E.ws;omega,h.cl.kc,.inr ?_⟩
 .rcases dI.1 (show c∈E.cs ++ [_]from pD)with pD|pD
  .exact h.ci c pD
  .simp at pD
   subst pD;exact Y3 h.wi (ps:=(E.tg.ee.cx E.tg.ee.aF y ((i:Int)+1)).2) fT
 .show(ah (E.cs ++ [_]))=k+1+1
  simp;omega
 .exact prog h.wi h.cl hA hy hu hi h2 h3
def arj(h:S.Ok):S.tg.ee.fits:=by
 have e:=h.ok;have o:=e.ay;have p:=e.aG;have q:=e.aM;have inr:∀x:Int,0<=x->x<=100000->lA x=ad:=λx a b=>by simp[lA];omega
 have i:=h.wl;have j:ah S.ws*aj S.n.ay<=128*64:=kH i ax
 have r:S.n.aZ (ah S.ws)<=128*64:=by unfold aS.aZ;omega
 refine⟨inr _ o.1 (by show S.n.ay<=_;omega),inr _ p.1 (by show S.n.aG<=_;omega),inr _ q.1 (by show S.n.aM<=_;omega),inr _ (show(0:Int)<=((S.n.aZ (ah S.ws):Nat):Int)by omega) (by show((S.n.aZ (ah S.ws):Nat):Int)<=_;omega),rfl,?_,λl d=>?_,λl d=>?_,λl d=>?_,λl d=>?_⟩
 .show((ah ((af (ah S.ws)).map _):Nat):Int)<=_
  rw[db,lT];omega
 .have:l∈ag (ah S.ws) (ag (aj S.n.ay) (0:Int)):=d
  rw[List.eq_of_mem_replicate this];simp;omega
 .obtain⟨s,_,rfl⟩:=cJ.1 (show l∈(af (ah S.ws)).map λs=>S.n.vi s (aj S.n.ay) from d)
  rw[FK];omega
 .obtain⟨s,_,rfl⟩:=cJ.1 d
  rw[db,lT];show((aj S.n.aG:Nat):Int)<=_;omega
 .obtain⟨s,_,rfl⟩:=cJ.1 d
  refine⟨?_,λm j=>?_⟩
  .rw[db,lT]
   show((S.n.aZ (ah S.ws):Nat):Int)<=_;omega
  .obtain⟨g,_,rfl⟩:=cJ.1 j
   rw[db,lT];show((aj S.n.aM:Nat):Int)<=_;omega
def ark(h:S.tg.ee.Ok):ah S.tg.ee.az^ah S.tg.ee.bQ<=512:=by
 have a:ah S.tg.ee.bQ<=1:=by
  refine tB 1 Fx λs e=>?_;rcases tC.1 e with rfl|⟨r,d,b⟩
  .exact⟨Int.le_refl _,by show(0:Int)<_;omega⟩
  .have d:r∈ag (ah S.ws) (ag (aj S.n.ay) (0:Int)):=d
   rw[List.eq_of_mem_replicate d]at b;rw[List.eq_of_mem_replicate b];omega
 have g:=h.eC;have i:ah S.tg.ee.az^ah S.tg.ee.bQ<=128^ah S.tg.ee.bQ:=Nat.pow_le_pow_left ax _
 have j:128^ah S.tg.ee.bQ<=128^1:=Nat.pow_le_pow_right ax a
 omega
def LE.Ou(h:LE n k E) (hN:ah n.az<=3) (hS:n.aL<=4):Ou E.tg.ee n:=λha hb=>by
 have h1:=h.W6 hN;have e:ah E.tg.ee.az=ah E.ws:=by
  show(ah ((af (ah E.ws)).map _))=_;simp
 have h2:ah E.tg.ee.az*ah n.az<=27*3:=kH ax hN
 have h3:E.tg.ee.aL*n.aL<=128*4:=Int.mul_le_mul ha.aL.2 hS (by have:=hb.aL;omega) ax
 exact⟨ax,ax⟩
def LM.mv{O O' : Nat->Option aO}{τ:aq}(h:LM S O σ) (h1:∀i,O i=ab->i<ah σ->aQ τ i=aQ σ i) (h2:∀i B,O' i=aa B->O i=aa B/\aQ τ i=aa B):LM S O' τ:=by
 have N:∀i B,aQ σ i=aa B->(i=2\/i=3\/i=S.pc\/∃e∈S.mo,e.2.2=i)->aQ τ i=aa B:=λi B hB hi=>by
  have:O i=ab:=by
   cases q:O i with
   |none=>rfl
   |some C=>
    obtain⟨_,a,b,c,d⟩:=h.o i C q;rcases hi with hi|hi|hi|⟨e,he,hi⟩
    .exact absurd hi a
    .exact absurd hi b
    .exact absurd hi c
    .exact absurd hi (d e he)
  rw[h1 i this (cX hB)];exact hB
 refine⟨N _ _ h.l aA,N _ _ h.m aA,N _ _ h.c aA,λe he=>N _ _ (h.r e he) (.inr (.inr (.inr ⟨e,he,rfl⟩))),h.le,h.ok,h.nd,h.nb,h.xx,h.vN,λi B hB=>?_⟩
 obtain⟨a,b⟩:=h2 i B hB;exact⟨b,(h.o i B a).2⟩
variable{a:aS}
def arl{b:aS}(g:fQ a b) (h:(dz a b).bZ.f1 (dz a b).aF (ix (dz a b).az)=ab) (d:(dz a b).bZ.Du (dz a b).aF (ix (dz a b).az)=0):a.bT=b.bT:=by
 refine dP λe=>?_;obtain⟨w,i⟩:=aqn e;obtain⟨t,j,l,t3⟩:=(aqo g w).2 i;unfold eZ.Du at d;rw[aD ⟨⟨t,j,l,t3.conn⟩,h⟩]at d;simp at d
def arn{b:aS}(d:fQ a b) (e:a.bI=0){w:ak}(h:(dz a b).bZ.f1 (dz a b).aF (ix (dz a b).az)=aa w):a.word w/\a.up w:=by
 obtain⟨⟨⟨t,_,_,g⟩,i⟩,_⟩:=CA h;obtain⟨x,y,_,kx,_⟩:=MP d g a.aF b.aF d.oa.aF d.ob.aF rfl;obtain⟨_,j,l,_⟩:=ap8 e kx i;exact⟨j,l⟩
def aro{Q:Ex->St->Prop}(d:aQ σ b=aa gD) (e:nth vars k = .ptr b 10 0)
  (g:∀τ,ah τ=ah σ->(∀i,i ≠ b->aQ τ i=aQ σ i)->Q .fe ⟨eY vars k (.bN zN.av),fl,τ⟩):W L (.km k) ⟨vars,fl,σ⟩ Q:=by
 have h:reach σ vd (.ptr b 10 0) []=[b]:=by
  show reach σ (11+1) (.ptr b 10 0) []=[b];unfold reach;simp only[d]
  rfl
 have j:fJ σ (.ptr b 10 0)=ae:=rfl;have a:aQ (bR (λc=>!([b]:List Nat).contains c) 0 σ) b=aa gD:=by
  rw[nK,d];simp
 have l:view (bR (λc=>!([b]:List Nat).contains c) 0 σ) ae vd (.ptr b 10 0)=aa (.bN zN.av):=by
  generalize bR (λc=>!([b]:List Nat).contains c) 0 σ=τ at *;have m:upto τ b 10=aa gD:=u9 a rfl rfl;show Ab.view τ ae (11+1) _=_;unfold Ab.view;simp only[m]
  rfl
 refine⟨0,.fe,_,?_,g (bR (λc=>([b]:List Nat).contains c) 0 σ) F5 λi n=>?_⟩
 .simp only[exec,e,h,l,j]
  rfl
 .rw[nK]
  cases aQ σ i with
  |none=>rfl
  |some B=>simp[n]
def Y7 (i:Nat):Option aO:=if i=0 then aa gD else ab
def lnS (n:aS):aq:=[gD,⟨aa 2,[.str [],.str []],.live⟩,⟨aa 0,[],.map []⟩,⟨aa 13,n.lQ ++ [bU [[]],.sl 1 2 0 1,.cZ 2],.live⟩]
def arp (n:aS):LM (Df n) Y7 (lnS n):=by
 have e0:∀e:ak×Nat×Nat,e∉(Df n).mo:=λe a=>by simp[Df]at a
 refine⟨rfl,rfl,rfl,λe a=>absurd a (e0 e),λe a=>absurd a (e0 e),λe a=>absurd a (e0 e),jH,jH,jH,λe a=>absurd a (e0 e),λi B b=>?_⟩
 unfold Y7 at b;split at b
 .rename_i d
  subst d;simp at b;subst b;exact⟨rfl,cp,cp,jH,λe a=>absurd a (e0 e)⟩
 .simp at b
def arq (n:aS) (hf:n.fits) (hs:n.kz=ad) (K:AV->aq->Prop) (hz:∀e τ,e ≠ 0->K (.bY [.agg tJ,.int 0,.int e]) τ) (hk:∀(rs:al) (k:Nat) τ,j6 n rs->1<=k->k<=ah rs->K (.bY [(cO n.dB n.bT rs).av,.int k,.int 0]) τ):LX L zh [n.av] [] K:=by
 refine S3 rfl ?_;have hV:=zn n hf
 by_cases hv:n.bI=0
 case neg=>
  have MS:=λce (c0 c1 c2 c3 c4 c5 c6 c7 c8 c9:AV)=>pP (ce:=ce) (σ:=[⟨aa 10,[c0,c1,c2,c3,c4,c5,c6,c7,c8,c9],.live⟩]) (n:=0) rfl;simp[-aK,hV,hv,MS];exact hz _ _ hv
 have hn:=oR hv;rw[hv]at hV;have h4:=X8 hs;have h5:n.ay+n.aG+n.aM<=5:=by
  have:=hn.ay;have:=hn.aG;have:=hn.aM;have h6:=hs;simp only[aS.kz,bd,fy]at h6;have h7:=h6.2;unfold wr at h7;omega
 have hN:ah n.az<=3:=ax
 simp[-aK,hV];refine⟨rfl,bB (λq:Nat×Lg×aq=>[(10,.int ((q.1:Int)+1))]) (λq=>q.2.2) (λq=>LI n q.1 q.2.1/\LM q.2.1 Y7 q.2.2) (λq=>128-q.1) (0,Df n,lnS n) rfl ⟨LI.zero hn hf h5,arp n⟩ ?_⟩;rintro⟨k,S,σ⟩ ⟨hI,hM⟩;dsimp only at hI hM ⊢;have A1:=λ(υ:aq) (ce:CE) (c0 c1 c2 c3 c4 c5 c6 c7 c8 c9:AV) (hl:0<ah υ)=>pP (ce:=ce) (σ:=aV υ 0 ⟨aa 10,[c0,c1,c2,c3,c4,c5,c6,c7,c8,c9],.live⟩) (n:=0) (cQ hl);obtain⟨E,e,m,hCm,hE⟩:=hI.round
 by_cases he:e=0
 case neg=>
  obtain⟨r,τ,hP,rfl,fu⟩:=dt (aqX hM hCm he);have eb:∀Y:aO,aQ (τ ++ [Y]) (ah τ)=aa Y:=λY=>gZ;have es:∀Y Z:aO,aV (τ ++ [Y]) (ah τ) Z=τ ++ [Z]:=λY Z=>vj;have Y8:=fu 0 gD rfl;have OJ:=cX Y8;simp[-aK,hP,eb,es];refine aro (b:=ah τ) gZ rfl λυ hl Aa=>?_;have tW:aQ υ 0=aa gD:=by
   rw[Aa 0 ax,fD OJ];exact Y8
  have C9:=λce c0 c1 c2 c3 c4 c5 c6 c7 c8 c9=>A1 υ ce c0 c1 c2 c3 c4 c5 c6 c7 c8 c9 (cX tW);simp[-aK,he,tW,C9];exact hz _ _ he
 subst he;have hE:=hE rfl;obtain⟨r,τ,hP,T,p,Dm,hsT,hT,hO,hA,hp,rfl⟩:=dt (YN hM hCm hE.cl);have yr:=hE.same hsT;rw[<-hsT.tg]at hA hp hP;have hF:=arj yr.wi.ok;have hdB:=yr.Ou hN h4.2.1;have hD:=aqe T.tg.ee n hF hf hdB;have hSg:=λhb=>Nk T.tg.ee hF hb;have Y8:=(hO 0 gD rfl).2;have OJ:=cX Y8;have hna:∀b m:Nat,eA (dh b m)=ad:=λb m=>by unfold dh;split<;>rfl
 have eb:∀Y:aO,aQ (τ ++ [Y]) (ah τ)=aa Y:=λY=>gZ;have es:∀Y Z:aO,aV (τ ++ [Y]) (ah τ) Z=τ ++ [Z]:=λY Z=>vj;obtain⟨A,vB⟩:∃A,T.tg.ee=A:=⟨_,rfl⟩;rw[vB]at hA hp hP hD hSg;have oW:A.cv p=[.int A.ay,.int A.aG,.int A.aM,.int A.aL,.int A.aF,jf (p .ac) (ah A.az),dh (p (.ls .cl)) (ah A.call),dh (p (.ls .ps)) (ah A.push),dh (p (.ls .bp)) (ah A.aH),dh (p .po) (ah A.aP)]:=rfl;have hP' :=hP;rw[oW]at hP';simp[-aK,hP', eb,es,hna];have Oa:∀t B,A.cont p t=aa B->ah σ<p t/\p t<ah τ:=λt B hB=>(hp t B hB).2;refine Y6 (A:=A) (p:=p) (b:=ah τ) (hA.other λt B hB=>fD (Oa t B hB).2) gZ (λt B hB=>by have:=(Oa t B hB).2;omega) rfl λυ hl Aa=>?_
 have tW:aQ υ 0=aa gD:=by
  rw[Aa 0 ax λt B hB=>by have:=(Oa t B hB).1;omega,fD OJ];exact Y8
 have Yw:LM T Y7 υ:=hT.mv (λi hi cw=>by
   rw[Aa i ax λt B hB e=>?_,fD cw]
   have h1:=(hp t B hB).1;have h2:=hA.has t B hB;rw[e]at h1 h2;have:=sb.2 ⟨h1,h2⟩;rw[hi]at this;simp at this) λi B hB=>by
  have:=hO i B hB;refine⟨sb.2 this,?_⟩;unfold Y7 at hB;split at hB
  .rename_i h0
   subst h0;injection hB with hB
   rw[<-hB];exact tW
  .simp at hB
 have C9:=λce c0 c1 c2 c3 c4 c5 c6 c7 c8 c9=>A1 υ ce c0 c1 c2 c3 c4 c5 c6 c7 c8 c9 (cX tW);rcases aqh T.tg.ee n hdB with⟨e,he,hd⟩|⟨Y9,va,vb,⟨h1,h2,hd⟩|⟨y,h1,hd⟩⟩
 .rw[vB]at hd
  rw[hd]at hD;simp[-aK,hD,he,tW,C9];exact hz _ _ he
 .have hl:=arl Y9 h1 h2
  have lB:T.tg.ee.dB=n.dB:=by
   show T.n.dB=n.dB;rw[yr.n]
  obtain⟨⟨x,f⟩,hq,_,q2⟩:=hSg λ_=>by rw[<-vB];exact ark Y9.oa
  obtain⟨rs,hR,Za⟩:=q2 (by rw[<-vB];exact va)
  rw[<-vB,lB,hl]at hR Za;rw[vB]at hd;rw[hd]at hD
  by_cases hf0:f=0
  .subst hf0
   have hx:=Ya (A:=n.dB) (L:=n.bT) (ws:=rs) (by rw[<-Za])
   rw[<-Za]at hx;obtain⟨hx,g1,g2,_⟩:=hx;have hx:x=cO n.dB n.bT rs:=hx;have hAo:j6 n rs:=⟨hn,hR,g1,g2⟩;have arZ:=ari yr.wi yr.cl.ws yr.ci hAo (by rw[yr.n]) (by rw[yr.n])
   have GF:=yr.kl;have:=hk rs (k+1);rw[<-hx]at this;obtain⟨c,i,r,sk,s0,ac,cl,ps,bp,po⟩:=x;simp[-aK,hD,hq,aS.av,tW,C9];exact this _ hAo ax ax
  .have hx:x=zN:=by
    have:=aqk (A:=n.dB) (L:=n.bT) (ws:=rs) (by rw[<-Za];exact hf0)
    rw[<-Za]at this;exact this
   subst hx;simp[-aK,hD,hq,zN,aS.av,hf0,tW,C9];exact hz _ _ hf0
 .obtain⟨hy,hu⟩:=arn Y9 va h1
  have vW:=NC Y9.oa yr.wi.ok.ok.ay.1;have PZ:=aqU Yw yr.wi.ok T.tg.ee vW y hy hu;rw[vB]at hd;rw[hd]at hD;obtain⟨r,ZN,hRf,e,rfl,hr⟩:=dt PZ;rw[vB]at hRf;rcases hr with⟨he,fu⟩|⟨rfl,i,hi,Wh,Zk,g1,g2,g3⟩
  .have Zk:=fu 0 gD rfl
   have ars:=λce c0 c1 c2 c3 c4 c5 c6 c7 c8 c9=>A1 ZN ce c0 c1 c2 c3 c4 c5 c6 c7 c8 c9 (cX Zk);simp[-aK,hD,hRf,he,Zk,ars];exact hz _ _ he
  .have hnx:=yr.next hN Y9.oa hy hu hi (g1 (i+1) ax ax) g2 g3
   have hfw:=yr.W6 hN;have GF:=yr.kl;simp[-aK,hD,hRf];exact⟨ax,a8 (k+1,_,ZN) aA rfl ⟨hnx,Wh⟩ aR⟩
def art (n:aS) (a:n.fits) (b:n.kz=ad):∃q:aS×Int×Int,PC zh [n.av]=aa (.bY [q.1.av,.int q.2.1,.int q.2.2])/\((q.1=zN/\q.2.1=0/\q.2.2 ≠ 0)\/∃(rs:al) (k:Nat),j6 n rs/\1<=k/\k<=ah rs/\q.1=cO n.dB n.bT rs/\q.2.1=k/\q.2.2=0):=
 Cr (g:=λq:aS×Int×Int=>.bY [q.1.av,.int q.2.1,.int q.2.2]) (arq n a b _ (λe d h=>⟨(zN,0,e),rfl,.inl ⟨rfl,rfl,h⟩⟩) λrs k d h i j=>⟨(cO n.dB n.bT rs,k,0),rfl,.inr ⟨rs,k,h,i,j,rfl,rfl,rfl⟩⟩)
def aru (aw:PC zg []=aa (.bool ad)) (n:aS) (h:n.fits) (w:ak) (N:(ah w:Int)<=9223372036854775807):PC S2 [n.av,iL w]=aa (.bool ad):=by
 refine cB (ajI rfl ?_);have b:=apg n h;cases p:n.kz with
 |false=>rw[p]at b;simp[b,aw]
 |true=>
  rw[p]at b
  by_cases q:60<(ah w:Int)
  .simp[b,q,aw]
  obtain⟨⟨x,i,e⟩,s,D⟩:=art n h p;dsimp only at s D;rcases D with⟨rfl,rfl,I⟩|⟨rs,k,a,O,P,rfl,rfl,rfl⟩
  .simp[b,q,s,I,zN,aw]
  .obtain⟨⟨y,f⟩,E,_,J⟩:=Nk n h λK=>aqj p K
   obtain⟨g,M,j⟩:=J (CM a.ok);have ev:=M.rq a.r;subst ev;have d:=X9 (L:=n.bT) (ws:=g) a.ok.dB a.k a.c;have F:=MT a.o d.2;have u:=amn _ F;rw[CM a.o]at u;have G:=(CN (A:=n.dB) (L:=n.bT) (ws:=g)).1;have z:=Yc (n:=n) (m:=cO n.dB n.bT g) a.ok a.o rfl rfl rfl a.bT.symm w;have H:=B3 n h w ax
   have B:=B3 _ F w ax
   rw[<-z]at B;have C:=W7 _ _ d.1 d.1;rw[M0.2 rfl]at C
   by_cases l:f=0
   .subst l
    have:=(Ya (A:=n.dB) (L:=n.bT) (ws:=g) (by rw[<-j])).1
    rw[<-j]at this;have this:y=cO n.dB n.bT g:=this;subst this;simp[b,q,s,E,u,C,H,B,aw,G];omega
   .simp[b,q,s,E,l,u,C,H,B,aw,G]
    omega
end Ab
