/- The learner's proposal; and what it leans on. Condition: none. -/
import Derived.Test.YtdenhmniigikcaaGreatT44I
import Derived.KernelRfl
set_option linter.all false
set_option maxRecDepth 100000
set_option maxHeartbeats 8000000
namespace Ab
attribute [local simp] mT
structure Lg.Cl (E:Lg):Prop where
 ok:E.Ok
 w1:1<=E.ws.length
 kc:E.ws.length*E.n.calls.toNat<=128
 e0:E.oL E.ws=0
 ws:∀w∈E.ws,E.n.jU w E.cs=0
 cl:∀w∈E.n.ib E.ws E.ws,E.n.jU w E.cs=0/\E.row w∈E.ws.map E.row
variable{S T:Lg}
theorem bH.tg(h:bH S T):T.tg=S.tg:=by
 unfold Lg.tg Lg.Cv Lg.wd;simp only[h.row,h.1,h.2.1]
theorem bH.cl(h:bH S T) (g:S.Cl):T.Cl:=⟨h.ok g.ok,by rw[h.2.1];exact g.w1,by rw[h.1,h.2.1];exact g.kc,by rw[h.2.1,h.oL];exact g.e0,by rw[h.1,h.2.1,h.2.2];exact g.ws,by rw[h.1,h.2.1,h.2.2,h.row];exact g.cl⟩
theorem amU{E:Lg}{O:Nat->Option ah}{σ:List ah}{k:Nat}(h:LM S O σ) (I:Cm E k S) (J:E.Cl):LX L G1 [.ptr 3 13 0] σ (HyP E O σ):=by
 refine agd rfl ?_;obtain⟨r,K,w,T,x,M,hle,rfl⟩:=dh (amH (h.add jX) I);have a:=x.symm.cl J;obtain⟨r,j,s,U,p,N,y,P,G,Q,H,rfl⟩:=dh (amQ M a.ok a.w1 a.kc a.e0 a.ws a.cl);rw[show T.tg=E.tg from x.symm.tg]at *;have l:(σ ++ [jX]).length=σ.length+1:=by simp
 rw[l]at hle;have z:=G σ.length jX (by unfold lO;rw[ab rfl])
 have u:σ.length<j.length:=dw z.2;have C:=z.2;have e:E.tg.qM.bM p=[.int E.tg.qM.calls,.int E.tg.qM.af,.int E.tg.qM.aj,.int E.tg.qM.stack,.int E.tg.qM.start,gM (p .ac) E.tg.qM.accept.length,cE (p (.ls .cl)) E.tg.qM.call.length,cE (p (.ls .ps)) E.tg.qM.push.length,cE (p (.ls .aH)) E.tg.qM.inner.length,cE (p .po) E.tg.qM.pop.length]:=rfl;rw[e]at s;have D:∀b m:Nat,du (cE b m)=true:=λb m=>by unfold cE;split<;>rfl
 have g:∀B:ah,ak (ar j σ.length B) σ.length=some B:=λB=>cv u;have F:=λ(ce:CE) (R V W X Y Z c6 c7 c8 c9:AV)=>qD (ce:=ce) (σ:=ar j σ.length ⟨some 10,[R,V,W,X,Y,Z,c6,c7,c8,c9],.live⟩) (n:=σ.length) (g _);generalize d:E.tg.qM=A at *;simp[-ag,-Aq,w,s,C,D,g,F];refine⟨U,p,N,x.symm.trans y,P.JB z.1 u,λi B q=>?_,?_,λt B q=>?_,?_⟩
 .have hi:=dw (h.o i B q).1
  have:=G i B (by unfold lO;rw[aa (by omega)];exact q)
  exact⟨this.1,by rw[aK (by omega)];exact this.2⟩
 .rw[d]
  exact Q.other λt B q=>aK (by have:=(H t B q).2.1;omega)
 .rw[d]at q
  obtain⟨h1,h2,h3⟩:=H t B q;exact⟨h1,by omega,by rw[bQ];exact h3⟩
 .rw[d,e]
end Ab
namespace Ab
def oO (ws:List (List Int)):Lg:=⟨df,ws,[([],[])],[],1⟩
def amV:(oO [[]]).uH = .bF [iL [0,3],.bool true,.int 0]:=by kernel_rfl
def amW:(oO [[],[0,3]]).uH = .bF [.ae,.bool false,.int 0]:=by kernel_rfl
def T5:(oO [[]]).put [0,3]=oO [[],[0,3]]:=by kernel_rfl
def T6:(oO [[],[0,3]]).tg.qM=qH:=by kernel_rfl
def Cw:df.fits:=Sw tT ⟨by decide,by decide,by decide,by decide⟩
def Dp:∀c∈[(([]:List Int),([]:List Int))],Cs c:=λc a=>by
 simp at a;subst a;exact⟨by simp,by simp,by simp⟩
def amX:(oO [[]]).Ok:=⟨tT,Cw,Dp,by decide,λw a=>by simp[oO]at a;subst a;exact⟨λx b=>by simp at b,by simp⟩,by decide,by decide⟩
def T7:(oO [[],[0,3]]).Ok:=⟨tT,Cw,Dp,by decide,λw b=>by
  simp[oO]at b;rcases b with rfl|rfl
  .exact⟨λx a=>by simp at a,by simp⟩
  .exact⟨λx a=>by simp at a;omega,by simp⟩,by decide,by decide⟩
def T8 (l:List (List Int)):Bool:=l.all λw=>(w.all λx=>decide (0<=x/\x<=255))&&decide (w.length<=10000)
def amY{l:List (List Int)}(h:T8 l=true):∀w∈l,dx w/\w.length<=10000:=λw a=>by
 have:=qf.1 h w a;rw[aA]at this;refine⟨λx b=>?_,of_decide_eq_true this.2⟩;exact of_decide_eq_true (qf.1 this.1 x b)
def amZ{l:List (List Int)}:(fZ l).length<=l.length:=by
 show(fE (fk aP l)).length<=_;have:=QT (fk aP l);rw[BH]at this;exact this
def T9 (ws:List (List Int)) (d:(oO ws).Ok) (e:((df.ib ws ws).length:Int)<=1000000) (g:T8 (df.ib ws ws)=true):(oO ws).Fit:=by
 have b:=amY g;refine⟨d,e,λw a=>by have:=(b w a).2;omega,λw a=>b w (ajF.1 a),?_⟩
 have:(fZ (df.ib ws ws)).length<=(df.ib ws ws).length:=amZ;show(fZ (df.ib ws ws)).length<=1000000;omega
def am0:Cm (oO [[],[0,3]]) 1 (oO [[]]):=by
 refine .step 0 _ [0,3] (T9 _ amX (by decide) (by decide)) amV (by decide) (by decide) (by decide) ?_
 rw[T5];exact .done _ (T9 _ T7 (by decide) (by decide)) amW ⟨rfl,rfl,rfl⟩
def am1:(oO [[],[0,3]]).Cl:=⟨T7,by decide,by decide,by decide,by decide,by decide⟩
variable{p:Tn->Nat}{σ:List ah}
theorem AS.JD{n:al}(h:AS n p σ):Ab.view σ false 11 (.agg (n.bM p))=some n.av:=by
 have V:∀(k:Kd) (s:Nat) (f:Nat),s<(n.tb k).length->Ab.view σ false (f+2) (gM (p (.rw k s)) (n.bp k s).length)=some (iL (n.bp k s)):=λk s f hs=>by
  have:=h.has (.rw k s) _ (ab hs);cases k
  .exact fj (k:=f+1) this rfl rfl λ_ _=>rfl
  .exact fj (k:=f+1) (st:=if n.bp .ps s=[]then .jq else .live) this (by split<;>rfl) rfl λ_ _=>rfl
  .exact fj (k:=f+1) this rfl rfl λ_ _=>rfl
 have U:∀(k:Kd) (f:Nat),Ab.view σ false (f+3) (cE (p (.ls k)) (n.tb k).length)=some (bN (n.tb k)):=λk f=>by
  have e:bN (n.tb k) = .au false ((List.range (n.tb k).length).map λs=>iL (n.bp k s)):=by
   unfold al.bp;rw[pd (f:=iL)]
  rw[e];exact pe (k:=f+2) (f:=λs=>gM (p (.rw k s)) (n.bp k s).length) (λhx=>h.has (.ls k) _ (aa λe=>hx (by rw[e];rfl))) (by simp) λs hs=>V k s f (bT.1 hs)
 have C4:∀(f:Nat),Ab.view σ false (f+4) (cE (p .po) n.pop.length)=some (dR n.pop):=λf=>by
  have e:dR n.pop = .au false ((List.range n.pop.length).map λs=>bN (n.bt s)):=by
   unfold al.bt;rw[pd (f:=bN)]
  rw[e];refine pe (k:=f+3) (f:=λs=>gM (p (.pr s)) (n.bt s).length) (λhx=>h.has .po _ (aa λe=>hx (by rw[e];rfl))) (by simp) λs hs=>?_
  have iU :=bT.1 hs;have e2:bN (n.bt s) = .au false ((List.range (n.bt s).length).map λg=>iL (n.cx s g)):=by
   unfold al.cx;rw[pd (f:=iL)]
  rw[e2];exact fj (k:=f+2) (f:=λg=>gM (p (.pg s g)) (n.cx s g).length) (h.has (.pr s) _ (ab iU)) rfl (by simp) λg hg=>fj (k:=f+1) (h.has (.pg s g) _ (ab ⟨iU, bT.1 hg⟩)) rfl rfl λ_ _=>rfl
 show Ab.view σ false (10+1) _=_;unfold Ab.view;have hm:bI (Ab.view σ false 10) (n.bM p)=some [.int n.calls,.int n.af,.int n.aj,.int n.stack,.int n.start,bL n.accept,bN n.call,bN n.push,bN n.inner,dR n.pop]:=by
  refine cw rfl (cw rfl (cw rfl (cw rfl (cw rfl (cw ?_ (cw ?_ (cw ?_ (cw ?_ (cw ?_ rfl)))))))))
  .exact fj (k:=9) (h.has .ac _ rfl) rfl rfl λ_ _=>rfl
  .exact U .cl 7
  .exact U .ps 7
  .exact U .aH 7
  .exact C4 6
 simp only[hm]
def lU (σ:List ah) (f:Nat) (x:AV) (D:Nat->Prop):Prop:=∀acc,(∀b∈acc,¬D b)->∀b,b∈reach σ f x acc↔b∈acc\/D b
def dW (σ:List ah) (f:Nat) (l:List AV) (D:Nat->Prop):Prop:=∀acc,(∀b∈acc,¬D b)->∀b,b∈l.foldl (λacc y=>reach σ f y acc) acc↔b∈acc\/D b
variable{f:Nat}{x:AV}
theorem lU.no(h:B4 x=true):lU σ f x λ_=>False:=λacc _ b=>by rw[IK h];simp
variable{l:List AV}
theorem dW.nos(h:∀x∈l,B4 x=true):dW σ f l λ_=>False:=λacc _ b=>by rw[IL l acc h];simp
variable{D E:Nat->Prop}
theorem dW.cons(h1:lU σ f x D) (h2:dW σ f l E) (hd:∀b,D b->¬E b):dW σ f (x::l) λb=>D b\/E b:=λacc V b=>by
 rw[l0];have k1:=h1 acc λc U q=>V c U (.inl q);rw[h2 _ (λc U q=>?_) b,k1 b]
 .constructor
  .rintro((a|a)|a)
   .exact .inl a
   .exact .inr (.inl a)
   .exact .inr (.inr a)
  .rintro(a|a|a)
   .exact .inl (.inl a)
   .exact .inl (.inr a)
   .exact .inr a
 .rcases(k1 c).1 U with a|a
  .exact V c a (.inr q)
  .exact hd c a q
theorem dW.fb{σ:List ah}{f:Nat}{g:Nat->AV}{D:Nat->Nat->Prop}:∀(n:Nat),(∀i,i<n->lU σ f (g i) (D i))->(∀i j,i<n->j<n->i ≠ j->∀b,D i b->¬D j b)->dW σ f ((List.range n).map g) λb=>∃i,i<n/\D i b
 |0,_,_=>λacc _ b=>by simp
 |n+1,h,hd=>λacc V b=>by
  rw[gw,jK,List.foldl_append];have k1:=dW.fb n (λi hi=>h i (by omega)) (λi j hi hj=>hd i j (by omega) (by omega)) acc λc U ⟨i,hi,q⟩=>V c U ⟨i,by omega,q⟩
  show b∈reach σ f (g n) _↔_;rw[h n (by omega) _ (λc U q=>?_) b,k1 b]
  .constructor
   .rintro((a|⟨i,hi,a⟩)|a)
    .exact .inl a
    .exact .inr ⟨i,by omega,a⟩
    .exact .inr ⟨n,by omega,a⟩
   .rintro(a|⟨i,hi,a⟩)
    .exact .inl (.inl a)
    .by_cases e:i=n
     .subst e;exact .inr a
     .exact .inl (.inr ⟨i,by omega,a⟩)
  .rcases(k1 c).1 U with a|⟨i,hi,a⟩
   .exact V c a ⟨n,by omega,q⟩
   .exact hd i n (by omega) (by omega) (by omega) c a q
variable{b u o n:Nat}{B:ah}
theorem lU.sl(V:ak σ b=some B) (h:dW σ f B.cells D) (hn:¬D b):lU σ (f+1) (.sl b u o n) λx=>x=b\/D x:=λacc U x=>by
 rw[RU V λhm=>U b hm (.inl rfl),h (b::acc) (λc hc q=>by
  rcases b5.1 hc with e|e
  .subst e;exact hn q
  .exact U c e (.inr q)) x,b5]
 constructor
 .rintro((a|a)|a)
  .exact .inr (.inl a)
  .exact .inl a
  .exact .inr (.inr a)
 .rintro(a|a|a)
  .exact .inl (.inr a)
  .exact .inl (.inl a)
  .exact .inr a
theorem lU.ptr(V:ak σ b=some B) (h:dW σ f B.cells D) (hn:¬D b):lU σ (f+1) (.ptr b u o) λx=>x=b\/D x:=λacc U x=>by
 rw[RV V λhm=>U b hm (.inl rfl),h (b::acc) (λc hc q=>by
  rcases b5.1 hc with e|e
  .subst e;exact hn q
  .exact U c e (.inr q)) x,b5]
 constructor
 .rintro((a|a)|a)
  .exact .inr (.inl a)
  .exact .inl a
  .exact .inr (.inr a)
 .rintro(a|a|a)
  .exact .inl (.inr a)
  .exact .inl (.inl a)
  .exact .inr a
def jn (A:al) (p:Tn->Nat) (P:Tn->Prop) (b:Nat):Prop:=∃t B,P t/\A.cont p t=some B/\p t=b
variable{A:al}{P:Tn->Prop}
theorem AS.dj(h:AS A p σ){Q:Tn->Prop}(hd:∀t,P t->¬Q t):∀b,jn A p P b->¬jn A p Q b:=by
 rintro b ⟨t,B,U,V,rfl⟩ ⟨u,C,hQ,hC,e⟩;have:=h.inj t u B C V hC e.symm;subst this;exact hd t U hQ
theorem lU.to(h:lU σ f x D) (e:∀b,D b↔E b):lU σ f x E:=by
 rw[show E=D from funext λb=>propext (e b).symm];exact h
variable{s:Nat}
theorem AS.cr(h:AS A p σ){k:Kd}(V:s<(A.tb k).length):lU σ (f+1) (.sl (p (.rw k s)) u o n) (jn A p λt=>t = .rw k s):=by
 have U:A.cont p (.rw k s)=some (jQ k (A.bp k s)):=ab V;refine(lU.sl (h.has _ _ U) (dW.nos λx hx=>?_) (by simp)).to λb=>?_
 .cases k<;>(obtain⟨y,_,rfl⟩:=cB.1 hx;rfl)
 .constructor
  .rintro(rfl|a)
   .exact⟨_,_,rfl,U,rfl⟩
   .exact absurd a (by simp)
  .rintro⟨t,B,rfl,_,e⟩
   exact .inl e.symm
theorem Ua{D:Nat->Prop}(e:n=0->∀x,¬E x) (g:n ≠ 0->lU σ f (.sl b n 0 n) E):lU σ f (cE b n) E:=by
 by_cases d:n=0
 .rw[show cE b n = .ae from ab d]
  exact(lU.no rfl).to λb=>⟨λa=>a.elim,λa=>e d b a⟩
 .rw[show cE b n = .sl b n 0 n from aa d]
  exact g d
theorem AS.cls(h:AS A p σ) (k:Kd):lU σ (f+2) (cE (p (.ls k)) (A.tb k).length) (jn A p λt=>t = .ls k\/∃s,t = .rw k s):=by
 refine Ua (D:=λ_=>False) (λh0 x=>?_) λh0=>?_
 .rintro⟨t,B,ht,U,_⟩
  rcases ht with rfl|⟨s,rfl⟩
  .have U:(if A.tb k=[]then none else some _)=some B:=U
   rw[ab (dM h0)]at U;simp at U
  .have U:(if s<(A.tb k).length then some _ else none)=some B:=U
   rw[aa (by omega)]at U
   simp at U
 .have V:A.tb k ≠ []:=λe=>h0 (by rw[e];rfl)
  have hc:A.cont p (.ls k)=some ⟨none,(List.range (A.tb k).length).map λs=>gM (p (.rw k s)) (A.bp k s).length,.live⟩:=aa V;refine(lU.sl (h.has _ _ hc) (dW.fb (D:=λs=>jn A p λt=>t = .rw k s) _ (λs hs=>h.cr hs) λi j hi hj ur=>h.dj λt h1 h2=>ur (by subst h1;simpa using h2)) ?_).to λb=>?_
  .rintro⟨i,_,t,B,rfl,U,e⟩
   have:=h.inj _ _ _ _ U hc e;simp at this
  .constructor
   .rintro(rfl|⟨i,_,t,B,rfl,U,e⟩)
    .exact⟨_,_,.inl rfl,hc,rfl⟩
    .exact⟨_,B,.inr ⟨i,rfl⟩,U,e⟩
   .rintro⟨t,B,rfl|⟨s,rfl⟩,U,e⟩
    .exact .inl e.symm
    .refine .inr ⟨s,?_,_,B,rfl,U,e⟩
     have U:(if s<(A.tb k).length then some _ else none)=some B:=U
     exact cZ λhn=>by rw[aa hn]at U;simp at U
theorem AS.cpg(h:AS A p σ){g:Nat}(V:s<A.pop.length) (hg:g<(A.bt s).length):lU σ (f+1) (.sl (p (.pg s g)) u o n) (jn A p λt=>t = .pg s g):=by
 have U:A.cont p (.pg s g)=some (Zb (A.cx s g)):=ab ⟨V,hg⟩;refine(lU.sl (h.has _ _ U) (dW.nos λx hx=>?_) (by simp)).to λb=>?_
 .obtain⟨y,_,rfl⟩:=cB.1 hx;rfl
 .constructor
  .rintro(rfl|a)
   .exact⟨_,_,rfl,U,rfl⟩
   .exact absurd a (by simp)
  .rintro⟨t,B,rfl,_,e⟩
   exact .inl e.symm
theorem AS.cpr(h:AS A p σ)(hs:s<A.pop.length):lU σ (f+2) (.sl (p (.pr s)) u o n) (jn A p λt=>t = .pr s\/∃g,t = .pg s g):=by
 have V:A.cont p (.pr s)=some ⟨none,(List.range (A.bt s).length).map λg=>gM (p (.pg s g)) (A.cx s g).length,.live⟩:=ab hs;refine(lU.sl (h.has _ _ V) (dW.fb (D:=λg=>jn A p λt=>t = .pg s g) _ (λg hg=>h.cpg hs hg) λi j hi hj ur=>h.dj λt h1 h2=>ur (by subst h1;simpa using h2)) ?_).to λb=>?_
 .rintro⟨i,_,t,B,rfl,U,e⟩
  have:=h.inj _ _ _ _ U V e;simp at this
 .constructor
  .rintro(rfl|⟨i,_,t,B,rfl,U,e⟩)
   .exact⟨_,_,.inl rfl,V,rfl⟩
   .exact⟨_,B,.inr ⟨i,rfl⟩,U,e⟩
  .rintro⟨t,B,rfl|⟨g,rfl⟩,U,e⟩
   .exact .inl e.symm
   .refine .inr ⟨g,?_,_,B,rfl,U,e⟩
    have U:(if s<A.pop.length/\g<(A.bt s).length then some _ else none)=some B:=U
    exact(cZ λhn=>by rw[aa hn]at U;simp at U:s<A.pop.length/\g<(A.bt s).length).2
theorem AS.cpo(h:AS A p σ):lU σ (f+3) (cE (p .po) A.pop.length) (jn A p λt=>t = .po\/∃s,t = .pr s\/∃g,t = .pg s g):=by
 refine Ua (D:=λ_=>False) (λh0 x=>?_) λh0=>?_
 .rintro⟨t,B,V,U,_⟩
  rcases V with rfl|⟨s,rfl|⟨g,rfl⟩⟩
  .have U:(if A.pop=[]then none else some _)=some B:=U
   rw[ab (dM h0)]at U;simp at U
  .have U:(if s<A.pop.length then some _ else none)=some B:=U
   rw[aa (by omega)]at U
   simp at U
  .have U:(if s<A.pop.length/\g<(A.bt s).length then some _ else none)=some B:=U
   rw[aa (by omega)]at U
   simp at U
 .have gY:A.pop ≠ []:=λe=>h0 (by rw[e];rfl)
  have hc:A.cont p .po=some ⟨none,(List.range A.pop.length).map λs=>gM (p (.pr s)) (A.bt s).length,.live⟩:=aa gY;refine(lU.sl (h.has _ _ hc) (dW.fb (D:=λs=>jn A p λt=>t = .pr s\/∃g,t = .pg s g) _ (λs hs=>h.cpr hs) λi j hi hj ur=>h.dj λt h1 h2=>?_) ?_).to λb=>?_
  .rcases h1 with rfl|⟨g,rfl⟩
   .rcases h2 with e|⟨g,e⟩
    .simp at e;exact ur e
    .simp at e
   .rcases h2 with e|⟨g', e⟩
    .simp at e
    .simp at e;exact ur e.1
  .rintro⟨i,_,t,B,V,U,e⟩
   have:=h.inj _ _ _ _ U hc e;subst this;rcases V with e|⟨g,e⟩<;>simp at e
  .constructor
   .rintro(rfl|⟨i,_,t,B,V,U,e⟩)
    .exact⟨_,_,.inl rfl,hc,rfl⟩
    .exact⟨t,B,.inr ⟨i,V⟩,U,e⟩
   .rintro⟨t,B,rfl|⟨s,V⟩,U,e⟩
    .exact .inl e.symm
    .refine .inr ⟨s,?_,t,B,V,U,e⟩
     rcases V with rfl|⟨g,rfl⟩
     .have U:(if s<A.pop.length then some _ else none)=some B:=U
      exact cZ λhn=>by rw[aa hn]at U;simp at U
     .have U:(if s<A.pop.length/\g<(A.bt s).length then some _ else none)=some B:=U
      exact(cZ λhn=>by rw[aa hn]at U;simp at U:s<A.pop.length/\g<(A.bt s).length).1
theorem dW.ci(h:AS A p σ){Q:Tn->Prop}(h1:lU σ f x (jn A p P)) (h2:dW σ f l (jn A p Q)) (hd:∀t,P t->¬Q t):dW σ f (x::l) (jn A p λt=>P t\/Q t):=by
 have:=dW.cons h1 h2 (h.dj hd);intro acc U b;have e:∀b,(jn A p P b\/jn A p Q b)↔jn A p (λt=>P t\/Q t) b:=λb=>by
  constructor
  .rintro(⟨t,B,a,c⟩|⟨t,B,a,c⟩)
   .exact⟨t,B,.inl a,c⟩
   .exact⟨t,B,.inr a,c⟩
  .rintro⟨t,B,a|a,c⟩
   .exact .inl ⟨t,B,a,c⟩
   .exact .inr ⟨t,B,a,c⟩
 rw[<-e b];exact this acc (λc V q=>U c V ((e c).1 q)) b
theorem dW.no(hx:B4 x=true) (h:dW σ f l D):dW σ f (x::l) D:=λacc U b=>by
 rw[l0,IK hx];exact h acc U b
theorem AS.cov(h:AS A p σ)(hb:ak σ b=some ⟨some 10,A.bM p,.live⟩) (hn:∀t B,A.cont p t=some B->p t ≠ b):∀x,x∈reach σ vd (.ptr b 10 0) []↔x=b\/∃t B,A.cont p t=some B/\p t=x:=by
 have c0:lU σ 11 (gM (p .ac) A.accept.length) (jn A p λt=>t = .ac):=by
  have V:A.cont p .ac=some ⟨none,A.accept.map .bool,.live⟩:=rfl;refine(lU.sl (h.has _ _ V) (dW.nos λx hx=>?_) (by simp)).to λb=>?_
  .obtain⟨y,_,rfl⟩:=cB.1 hx;rfl
  .constructor
   .rintro(rfl|a)
    .exact⟨_,_,rfl,V,rfl⟩
    .exact absurd a (by simp)
   .rintro⟨t,B,rfl,_,e⟩
    exact .inl e.symm
 have n0:dW σ 11 [] (jn A p λ_=>False):=λacc _ b=>by
  constructor
  .exact .inl
  .rintro(a|⟨_,_,a,_⟩)
   .exact a
   .exact a.elim
 have c1:=dW.ci h (h.cpo (f:=8)) n0 λt _ q=>q;have c2:=dW.ci h (h.cls .aH (f:=9)) c1 (by rintro t (rfl|⟨s,rfl⟩)<;>simp)
 have c3:=dW.ci h (h.cls .ps (f:=9)) c2 (by rintro t (rfl|⟨s,rfl⟩)<;>simp)
 have c4:=dW.ci h (h.cls .cl (f:=9)) c3 (by rintro t (rfl|⟨s,rfl⟩)<;>simp)
 have c5:=dW.ci h c0 c4 (by rintro t rfl;simp)
 have c6:dW σ 11 (A.bM p) _:=dW.no (x:=.int A.calls) rfl (dW.no (x:=.int A.af) rfl (dW.no (x:=.int A.aj) rfl (dW.no (x:=.int A.stack) rfl (dW.no (x:=.int A.start) rfl c5))));have c7:=lU.ptr (f:=11) (u:=10) (o:=0) hb c6 (by
  rintro⟨t,B,_,U,e⟩;exact hn t B U e)
 intro x;have:=c7 [] (by simp) x
 rw[show vd=11+1 from rfl,this];simp only[List.not_mem_nil,false_or];constructor
 .rintro(a|⟨t,B,_,U,e⟩)
  .exact .inl a
  .exact .inr ⟨t,B,U,e⟩
 .rintro(a|⟨t,B,U,e⟩)
  .exact .inl a
  .refine .inr ⟨t,B,?_,U,e⟩
   cases t with
   |ac=>simp
   |po=>simp
   |ls k=>cases k<;>simp
   |rw k s=>cases k<;>simp
   |pr s=>simp
   |pg s g=>simp
theorem am2{k:Nat}{vars:List AV}{o:Option (Nat×AV)}{Q:Ex->St->Prop}(h:AS A p σ) (q:ak σ b=some ⟨some 10,A.bM p,.live⟩) (r:∀t B,A.cont p t=some B->p t ≠ b) (s:nth vars k = .ptr b 10 0)
  (u:∀τ,τ.length=σ.length->(∀i,i ≠ b->(∀t B,A.cont p t=some B->p t ≠ i)->ak τ i=ak σ i)->Q .eU ⟨eu vars k (.aV A.av),o,τ⟩):W L (.kO k) ⟨vars,o,σ⟩ Q:=by
 have d:=h.cov q r;have a:∀i,i∈reach σ vd (.ptr b 10 0) []->ak (bC (λc=>!(reach σ vd (.ptr b 10 0) []).contains c) 0 σ) i=ak σ i:=λi g=>by
  rw[mQ];cases ak σ i with
  |none=>rfl
  |some B=>simp[g]
 have j:AS A p (bC (λc=>!(reach σ vd (.ptr b 10 0) []).contains c) 0 σ):=h.other λt B l=>a _ ((d _).2 (.inr ⟨t,B,l,rfl⟩));have m:=(a b ((d b).2 (.inl rfl))).trans q;have w:gy σ (.ptr b 10 0)=false:=rfl;have x:view (bC (λc=>!(reach σ vd (.ptr b 10 0) []).contains c) 0 σ) false vd (.ptr b 10 0)=some (.aV A.av):=by
  have n:=j.JD;generalize bC (λc=>!(reach σ vd (.ptr b 10 0) []).contains c) 0 σ=τ at *;have y:upto τ b 10=some ⟨some 10,A.bM p,.live⟩:=tG m rfl rfl;show Ab.view τ false (11+1) _=_;unfold Ab.view;simp only[y];have z:part (A.bM p) 0 (some 10)=some (.agg (A.bM p)):=rfl;rw[ab (by rfl),z]
  simp only[n]
 refine⟨0,.eU,_,?_,u (bC (λc=>(reach σ vd (.ptr b 10 0) []).contains c) 0 σ) SN λi g C=>?_⟩
 .simp only[exec,s,x,w]
  rfl
 .rw[mQ]
  have:i∉reach σ vd (.ptr b 10 0) []:=λD=>by
   rcases(d i).1 D with e|⟨t,B,l,e⟩
   .exact g e
   .exact C t B l e
  cases ak σ i with
  |none=>rfl
  |some B=>simp[this]
variable{N:Nat}{v:AV}
theorem Ub(h:(cN G Q N f [] []).map (λp=>bV p.2 false p.1)=some (some v)):PC f []=some v:=by
 cases e:cN G Q N f [] []with
 |none=>rw[e]at h;simp at h
 |some p=>
  rw[e]at h;simp at h;unfold PC wj;rw[show L f [] []=some p from Aj mU e];exact h
theorem am3:PC AK []=some df.av:=Ub (N:=50) (by kernel_rfl)
theorem am4:PC AL []=some qH.av:=Ub (N:=50) (by kernel_rfl)
theorem am5:qH.fits:=Sw Tw ⟨by decide,by decide,by decide,by decide⟩
theorem Uc (n:al) (d:n.Ok) (g:n.fits) (h:n.accept.length^n.aZ.length<=512) (i:n.dS=df.dS) (j:n.bB=df.bB):PC o7 [n.av]=some (.bF [qH.av,.int 0]):=by
 obtain⟨⟨x,e⟩,l,_,m⟩:=Jd n g λ_=>h;obtain⟨ws,b,a⟩:=m (ala d);rw[i,j]at b a;rw[b.pO Cr]at a;have o:zt df.dS df.bB [[],[0,3]]=(qH,0):=by
  unfold zt;rw[<-Jv];simp
  decide
 rw[o]at a;injection a with p q
 rw[l,p,q]
theorem am6{a:List AV}(h:(cN G Q N f a []).map (λp=>bV p.2 false p.1)=some (some v)):PC f a=some v:=by
 cases e:cN G Q N f a []with
 |none=>rw[e]at h;simp at h
 |some p=>
  rw[e]at h;simp at h;unfold PC wj;rw[show L f a []=some p from Aj mU e];exact h
theorem am7:PC G2 [qH.av,df.av]=some (.bF [.au false [],.bool false,.int 0]):=am6 (N:=100) (by kernel_rfl)
def brO (i:Nat):Option ah:=if i=0 then some jX else none
def brS:List ah:=[jX,⟨some 2,[.str [],.str []],.live⟩,⟨some 0,[],.map []⟩,⟨some 13,df.oJ ++ [bN [[]],.sl 1 2 0 1,.cC 2],.live⟩]
theorem am8:LM (oO [[]]) brO brS:=by
 refine⟨rfl,rfl,rfl,λe a=>?_,λe a=>?_,λe a=>?_,by simp[oO],by simp[oO],by decide,λe a=>?_,λi B b=>?_⟩
 .simp[oO]at a
 .simp[oO]at a
 .simp[oO]at a
 .simp[oO]at a
 .unfold brO at b
  split at b
  .rename_i d
   subst d;simp at b;subst b;exact⟨rfl,by decide,by decide,by decide,λe a=>by simp[oO]at a⟩
  .simp at b
theorem am9:PC GV [df.av]=some (.bF [qH.av,.int 1,.int 0]):=by
 refine bP (afV rfl ?_);have u:=Hz df Cw;rw[Dj]at u;obtain⟨r,τ,w,T,p,R,_,_,C,x,y,rfl⟩:=dh (amU am8 am0 am1);rw[T6]at x y w;have z:=(C 0 jX rfl).2;have l:=dw z;simp[-ag,u];refine⟨rfl,aM (λ_:Unit=>[]) (λ_=>brS) (λ_=>True) (λ_=>0) () rfl trivial ?_⟩;intro _ _;have g:qH.bM p=[.int 2,.int 0,.int 2,.int 4,.int 0,gM (p .ac) 2,cE (p (.ls .cl)) 2,cE (p (.ls .ps)) 2,cE (p (.ls .aH)) 2,cE (p .po) 2]:=rfl;have h :=w;rw[g]at h;have o:∀b m:Nat,du (cE b m)=true:=λb m=>by unfold cE;split<;>rfl
 have D:∀Y:ah,ak (τ ++ [Y]) τ.length=some Y:=λY=>gJ;have es:∀Y Z:ah,ar (τ ++ [Y]) τ.length Z=τ ++ [Z]:=λY Z=>yI;simp[-ag,h, D,es,o];have d:∀t B,qH.cont p t=some B->4<p t/\p t<τ.length:=λt B e=>(y t B e).2;refine am2 (A:=qH) (p:=p) (b:=τ.length) (x.other λt B e=>fV (d t B e).2) gJ (λt B e=>by have:=(d t B e).2;omega) rfl λj S E=>?_
 have i:ak j 0=some jX:=by
  rw[E 0 (by omega) λt B e=>by have:=(d t B e).1;omega,fV l];exact z
 have q:0<j.length:=dw i;have a:∀B:ah,ak (ar j 0 B) 0=some B:=λB=>cv q;have s:=λ(ce:CE) (F G H I J K L M N O:AV)=>qD (ce:=ce) (σ:=ar j 0 ⟨some 10,[F,G,H,I,J,K,L,M,N,O],.live⟩) (n:=0) (a _);have P:=am7;have Q:=Uc qH Tw am5 (by decide) rfl amr
 simp[-ag,P,Q,i,a,s]
theorem ana:PC o7 [df.av]=some (.bF [qH.av,.int 0]):=Uc df tT Cw (by decide) rfl rfl
theorem awake:PC vl []=some (.bool true):=by
 refine bP (afS rfl ?_);have d:=am3;have e:=am4;have g:=ana;have h:=am9;have a:qH.UW:=by rw[<-Jv];exact(Jf Tx.ok.dS (by decide) (by decide)).1
 have b:=SH qH qH a a;rw[I7.2 rfl]at b;simp[-ag,d,e,g,h,b]
end Ab
