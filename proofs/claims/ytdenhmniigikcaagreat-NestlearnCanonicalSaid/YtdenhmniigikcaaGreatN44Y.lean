/- slices.Concat of words that are given in some way; and what it leans on. Condition: none. -/
import Derived.Test.YtdenhmniigikcaaGreatBfsOrd
import Derived.Test.YtdenhmniigikcaaGreatN44P
set_option linter.all false
set_option maxRecDepth 100000
set_option maxHeartbeats 4000000
namespace Ab
def fy{a:Type}(g:a->List Int) (ps:List a):List Int:=ps.flatMap g
variable{α:Type}{i:Int}
theorem Ie [Inhabited α]{g:α->List Int}{ps:List α}(a:0<=i) (b:i<ps.length):fy g (ps.take (i+1).toNat)=fy g (ps.take i.toNat)++g (ix ps i):=by
 have e:ps.take (i+1).toNat=ps.take i.toNat ++ [ix ps i]:=by
  rw[show(i+1).toNat=i.toNat+1 by omega,k8,ko a b]
  rfl
 rw[e];simp[fy]
theorem yA{g:α->List Int}{ps:List α}(i:Nat):(fy g (ps.take i)).length<=(fy g ps).length:=by
 have:fy g ps=fy g (ps.take i)++fy g (ps.drop i):=by
  unfold fy;rw[<-List.flatMap_append,mO]
 rw[this];simp
theorem aj3 [Inhabited α]{f:α->AV}{g:α->List Int}(w:∀p,f p = .ae/\g p=[]\/∃b,f p = .au b ((g p).map .int)) (ps:List α) (A:(ps.length:Int)<=1000000) (h:((fy g ps).length:Int)<=1000000):PC vi [.au false (ps.map f)]=some (iL (fy g ps)):=by
 refine bP (OP rfl ?_);simp;refine aM (λi:Int=>[(1,.int i),(4,.int ((fy g (ps.take i.toNat)).length:Int))]) (λ_=>[]) (λi=>0<=i/\i<=ps.length) (λi=>(ps.length-i).toNat) 0 rfl (by simp) λi ⟨x,i1⟩=>?_
 by_cases r:i<ps.length
 .have e:=Ie (g:=g) x r
  have C:=yA (g:=g) (ps:=ps) i.toNat;have m:=yA (g:=g) (ps:=ps) (i+1).toNat;rw[e]at m;simp at m;rcases w (ix ps i)with⟨d,s⟩|⟨q,d⟩
  .simp[-ag,r,x,d]
   refine⟨by omega,by omega,az (i+1) (by simp[e,s]) rfl ⟨by omega,by omega⟩ (by omega)⟩
  .simp[-ag,r,x,d]
   refine⟨by omega,by omega,λ_=>⟨by omega,az (i+1) (by simp[e]) rfl ⟨by omega,by omega⟩ (by omega)⟩⟩
 .have wq:ps.take i.toNat=ps:=fc (by omega)
  rw[wq]
  by_cases D:(fy g ps).length=0
  .have B:fy g ps=[]:=dM D
   simp[-ag,r,B,Qk,iW];refine aM (λi:Int=>[(6,.int i)]) (λ_=>[]) (λi=>0<=i/\i<=ps.length) (λi=>(ps.length-i).toNat) 0 rfl (by simp) λj ⟨o,E⟩=>?_
   by_cases l:j<ps.length
   .have y:g (ix ps j)=[]:=by
     have:=Ie (g:=g) o l;have m:=yA (g:=g) (ps:=ps) (j+1).toNat;rw[this]at m;simp at m;exact dM (by omega)
    rcases w (ix ps j)with⟨d,s⟩|⟨q,d⟩
    .simp[l,o,d];omega
    .rw[y]at d
     simp[l,o,d];omega
   .simp[l]
  .have F:=Qj (fy g ps).length (by omega) (by omega)
   simp[-ag,-List.map_replicate,r,F,iW,gm,Qi];refine aM (λi:Int=>[(6,.int i),(9,.sl 0 (fy g ps).length 0 (fy g (ps.take i.toNat)).length)]) (λi=>[⟨none,(fy g (ps.take i.toNat)).map .int++List.replicate ((fy g ps).length-(fy g (ps.take i.toNat)).length) (.int 0),.live⟩]) (λi=>0<=i/\i<=ps.length) (λi=>(ps.length-i).toNat) 0 (by simp[a8,fy]) (by simp) λj ⟨o,E⟩=>?_
   by_cases l:j<ps.length
   .have e:=Ie (g:=g) o l
    have C:=yA (g:=g) (ps:=ps) j.toNat;have m:=yA (g:=g) (ps:=ps) (j+1).toNat;rw[e]at m;simp at m;have A:=Ql (a:=fy g (ps.take j.toNat)) (b:=g (ix ps j)) (n:=(fy g ps).length) m;have done:g (ix ps j)=[]->fy g (ps.take (j+1).toNat)=fy g (ps.take j.toNat):=λh=>by rw[e,h];simp
    rcases w (ix ps j)with⟨d,s⟩|⟨q,d⟩
    .simp[-ag,-List.map_replicate,l,o,d]
     refine⟨by omega,by omega,by omega,az (j+1) (by simp[done s]) (by simp only[done s]) ⟨by omega,by omega⟩ (by omega)⟩
    .by_cases u:g (ix ps j)=[]
     .rw[u]at d
      simp[-ag,-List.map_replicate,l,o,d];refine⟨by omega,by omega,by omega,az (j+1) (by simp[done u]) (by simp only[done u]) ⟨by omega,by omega⟩ (by omega)⟩
     .have G:0<(g (ix ps j)).length:=l5.2 u
      simp[-ag,-List.map_replicate,l,o,d,u];refine⟨by omega,by omega,λB=>by omega,λ_=>⟨by omega,by omega,az (j+1) (by simp[e]) (by simp only[e,aY];rw[<-A]) ⟨by omega,by omega⟩ (by omega)⟩⟩
   .have z:ps.take j.toNat=ps:=fc (by omega)
    rw[z];have H:=ow (σ:=[⟨none,(fy g ps).map .int,.live⟩]) (fr:=false) (b:=0) (xs:=fy g ps) (st:=.live) rfl (by simp) rfl
    simp[l,H]
inductive Tf where
 |f|wo|fd|rd|dn
 |bk (n:Nat)
 deriving DecidableEq
def nh:Option (List Int)->AV
 |none=>.ae
 |some w=>.au true (w.map .int)
structure Fd where
 W:List (Option (List Int))
 F:List Bool
 R:List (List Int)
 N:List Int
def Fd.dG (S:Fd) (n:Nat):List Int:=ix S.R (n:Int)
def Fd.cont (S:Fd) (va:AV) (p:Tf->Nat):Tf->Option ah
 |.f=>some ⟨some 5,[va,.sl (p .wo) S.W.length 0 S.W.length,.sl (p .fd) S.F.length 0 S.F.length,.sl (p .rd) S.R.length 0 S.R.length,cE (p .dn) S.N.length],.live⟩
 |.wo=>some ⟨none,S.W.map nh,.live⟩
 |.fd=>some ⟨none,S.F.map .bool,.live⟩
 |.rd=>some ⟨none,(List.range S.R.length).map λn=>cE (p (.bk n)) (S.dG n).length,.live⟩
 |.dn=>if S.N=[]then none else some (Zb S.N)
 |.bk n=>if n<S.R.length/\S.dG n ≠ []then some (Zb (S.dG n))else none
structure FS (S:Fd) (va:AV) (p:Tf->Nat) (σ:List ah):Prop where
 has:∀t B,S.cont va p t=some B->ak σ (p t)=some B
 inj:∀t u A B,S.cont va p t=some A->S.cont va p u=some B->p t=p u->t=u
variable{S:Fd}{va:AV}{p:Tf->Nat}{σ:List ah}{t:Tf}{A B:ah}
theorem FS.ne(h:FS S va p σ){u:Tf}(U:S.cont va p t=some A) (V:S.cont va p u=some B) (hn:t ≠ u):p t ≠ p u:=λe=>hn (h.inj t u A B U V e)
theorem FS.lt(h:FS S va p σ)(U:S.cont va p t=some A):p t<σ.length:=dw (h.has t A U)
variable{p': Tf->Nat}{τ:List ah}
theorem FS.step{D D' : Fd}{p: Tf->Nat}(h:FS D va p σ) (V:Tf->Prop)
  (h1:∀t,¬V t->D'.cont va p' t=D.cont va p t/\p' t=p t)
  (h2:∀t B,V t->D'.cont va p' t=some B->ak τ (p' t)=some B)
  (h3:∀t B,¬V t->D.cont va p t=some B->ak τ (p t)=some B)
  (h4:∀t B,V t->D'.cont va p' t=some B->((∃A,D.cont va p t=some A)/\p' t=p t)\/σ.length<=p' t)
  (h5:∀t u,V t->V u->σ.length<=p' t->p' t=p' u->t=u):FS D' va p' τ:=by
 have key:∀t B,D'.cont va p' t=some B->((∃A,D.cont va p t=some A)/\p' t=p t)\/(V t/\σ.length<=p' t):=λt B U=>by
  by_cases hc:V t
  .exact(h4 t B hc U).imp id λq=>⟨hc,q⟩
  .obtain⟨e1,e2⟩:=h1 t hc
   rw[e1]at U;exact .inl ⟨⟨B,U⟩,e2⟩
 refine⟨λt B U=>?_,λt u A B hA U e=>?_⟩
 .by_cases hc:V t
  .exact h2 t B hc U
  .obtain⟨e1,e2⟩:=h1 t hc
   rw[e1]at U;rw[e2];exact h3 t B hc U
 .rcases key t A hA with⟨⟨A', zl⟩,e1⟩|⟨c1,e1⟩
  .rcases key u B U with⟨⟨B', wi⟩,e2⟩|⟨c2,e2⟩
   .exact h.inj t u A' B' zl wi (by rw[<-e1,<-e2];exact e)
   .have:=h.lt zl; omega
  .rcases key u B U with⟨⟨B', wi⟩,e2⟩|⟨c2,e2⟩
   .have:=h.lt wi; omega
   .exact h5 t u c1 c2 e1 e
def PE (p p' : Tf->Nat):Prop:=p' .f=p .f/\p' .dn=p .dn
theorem FS.more(h:FS S va p σ) (V:∀b,b<σ.length->ak τ b=ak σ b):FS S va p τ:=
 ⟨λt B U=>by rw[V _ (h.lt U)];exact h.has t B U,h.inj⟩
def vF:Bool×Option (List Int)->AV
 |(_,none)=>.ae
 |(b,some w)=>.au b (w.map .int)
def bZ (ps:List (Bool×Option (List Int))):List Int:=ps.flatMap λo=>o.2.getD []
variable{ps:List (Bool×Option (List Int))}
theorem aj4{o:Bool×Option (List Int)}:bZ (ps ++ [o])=bZ ps++o.2.getD []:=by simp[bZ]
def Ig:IC:=(.seq (.cq PF)
 (.cond 76 (.cq Hw) .skip))
def Ih:IC:=(.seq (.cq PD) Ig)
def Ii:IC:=(.seq (.seq (.cq PB)
 (.cond 61 .ret .skip)) Ih)
def aj5:IC:=(.seq (.seq (.cq Hv) (.kO 9)) Ii)
def UG:IC:=(.seq (.seq (.cq PA)
 (.cond 49 .ret .skip)) aj5)
structure Ij (S:Fd):Prop where
 f:S.F.length=S.W.length
 r:S.R.length=1025
 n:S.W.length<=512
 b:∀n,(S.dG n).length<=100000
variable{x:Nat}{b:Bool}
theorem aj6 (S:Fd)(h:FS S va p σ) (z:Ij S)(l:x<S.W.length) (ps:List (Bool×Option (List Int))) (m:(bZ ps).length<=5000) (n:ps.length<=10){K:AV->List ah->Prop}
  (r:WK L UG [.ptr (p .f) 5 0,.int x,.au b (ps.map vF),.aF,.aF,.aF,.int (bZ ps).length,.aF,nh (ix S.W (x:Int)),.aF] none σ (gA rN K)):LX L tt [.ptr (p .f) 5 0,.int x,.au b (ps.map vF)] σ K:=by
 refine agy rfl ?_;have s:=h.has .f _ rfl;have g:=h.has .wo _ rfl;show WK L (.seq (.cq Pw)
 (.seq (.seq (.cq Px)
 (.block 0 (.loop Py)))
 (.seq (.cq Pz) UG))) _ none σ _
 simp[-ag];refine aM (λk:Nat=>[(3,.int k),(6,.int (bZ (ps.take k)).length)]) (λ_=>σ) (λk=>k<=ps.length) (λk=>ps.length-k) 0 (by simp[a8,bZ]) (by omega) ?_
 intro k k0
 by_cases i:k<ps.length
 .have tk:ps.take (k+1)=ps.take k ++ [ix ps (k:Int)]:=jm i
  have a:=aj4 (ps:=ps.take k) (o:=ix ps (k:Int));have hle:(bZ (ps.take (k+1))).length<=(bZ ps).length:=by
   have e:bZ ps=bZ (ps.take (k+1))++bZ (ps.drop (k+1)):=by unfold bZ;rw[<-List.flatMap_append,mO]
   rw[e];simp
  rw[tk,a,aY]at hle;have u:=aB (show(k:Int)<(ps.length:Int)by omega)
  rcases d:ix ps (k:Int)with⟨q,_|w⟩
  .rw[d]at a hle
   have j:ix (ps.map vF) (k:Int) = .ae:=by rw[iT (by omega) (by omega),d];rfl
   simp[-ag,i,j,d,vF];exact⟨by omega,by omega,az (k+1) (by rw[tk,d,a];simp) rfl (by omega) (by omega)⟩
  .rw[d]at a hle
   simp at hle;simp[-ag,i,d,vF];exact⟨by omega,by omega,az (k+1) (by rw[tk,d,a];simp) rfl (by omega) (by omega)⟩
 .have y:k=ps.length:=by omega
  subst y;simp[-ag,s,g,l];exact r
def Fd.off (S:Fd) (x:Nat) (c:List Int):Fd:=
 if 1024<c.length\/ix S.F (x:Int)=true then S
 else match ix S.W (x:Int)with
  |none=>{S with W:=S.W.set x (some c),R:=S.R.set c.length (S.dG c.length ++ [(x:Int)])}
  |some o=>if aP o c<=0 then S else {S with W:=S.W.set x (some c),R:=if c.length<o.length then S.R.set c.length (S.dG c.length ++ [(x:Int)])else S.R}
theorem aj7:bZ ps=fy (λo=>o.2.getD []) ps:=rfl
theorem aj8 (ps:List (Bool×Option (List Int))) (a:ps.length<=10) (h:(bZ ps).length<=5000):PC vi [.au false (ps.map vF)]=some (iL (bZ ps)):=
 aj3 (f:=vF) (g:=λo=>o.2.getD []) (λo=>by
  rcases o with⟨q,_|w⟩
  .exact .inl ⟨rfl,rfl⟩
  .exact .inr ⟨q,rfl⟩) ps (by omega) (by rw[<-aj7];omega)
theorem Rj{b:Nat}(i:ps.length<=10) (d:(bZ ps).length<=5000){q:Bool}{o:AV}{R:IC}{Q:Ex->St->Prop}
  (h:∀τ,(∀c,c<σ.length->ak τ c=ak σ c)->WK L R [.ptr b 5 0,.int x,.aF,.aF,.aF,.aF,.int (bZ ps).length,.aF,o,.au true ((bZ ps).map .int)] none τ Q) :
  WK L (.seq (.seq (.cq Hv) (.kO 9)) R) [.ptr b 5 0,.int x,.au q (ps.map vF),.aF,.aF,.aF,.int (bZ ps).length,.aF,o,.aF] none σ Q:=by
 have e:=aj8 ps i d
 by_cases a:bZ ps=[]
 .rw[a]at e h ⊢
  simp[-ag,e];refine⟨0,.eU,_,rfl,?_⟩;have:=h (bC (λb=>([]:List Nat).contains b) 0 σ) λc _=>by rw[mQ];cases ak σ c<;>rfl
  exact this
 .simp[-ag,e,a]
  refine⟨by omega,?_⟩
  refine yq (b:=σ.length) (l:=bZ ps) ?_ rfl rfl ?_
  .have:=gJ (Q:=σ) (r:=[]) (B:=bG (bZ ps))
   unfold bG at this;rw[aa a]at this;unfold bG;rw[aa a];exact this
  have:=h (ar (σ ++ [⟨none,(bZ ps).map .int,.live⟩]) σ.length ⟨none,(bZ ps).map .int,.dead⟩) λc g=>by
   rw[aK (by omega)]
   rw[bE,bE,eC g]
  rw[show decide (bZ ps ≠ [])=true from oW a];exact this
theorem aj9 (S:Fd)(h:FS S va p σ) (D:Ij S)(E:x<S.W.length) (ps:List (Bool×Option (List Int))) (s:(bZ ps).length<=5000) (u:ps.length<=10) (G:∀o,ix S.W (x:Int)=some o->o.length<=1024)
  (C:∀τ o,FS S va p τ->ix S.W (x:Int)=o->(∀w,o=some w->0<aP w (bZ ps))->(bZ ps).length<=1024->ix S.F (x:Int)=false->WK L Ih [.ptr (p .f) 5 0,.int x,.aF,.aF,.aF,.aF,.int (bZ ps).length,.aF,nh o,.au true ((bZ ps).map .int)] none τ (gA rN λr τ=>r = .bF []/\∃p', PE p p' /\FS (S.off x (bZ ps)) va p' τ)) :
  WK L UG [.ptr (p .f) 5 0,.int x,.au b (ps.map vF),.aF,.aF,.aF,.int (bZ ps).length,.aF,nh (ix S.W (x:Int)),.aF] none σ (gA rN λr τ=>r = .bF []/\∃p', PE p p' /\FS (S.off x (bZ ps)) va p' τ):=by
 have m:=h.has .f _ rfl;have H:=h.has .wo _ rfl;have d:=h.has .fd _ rfl;have g:=aB (show x<S.F.length by rw[D.f];exact E)
 unfold UG
 by_cases I:1024<(bZ ps).length
 .have a :=aB (show(1024:Int)<((bZ ps).length:Int)by omega)
  have e:S.off x (bZ ps)=S:=ab (.inl I);rw[e];cases n:ix S.W (x:Int)with
  |none=>
   simp[-ag,a, m,d,g,nh];exact⟨p,⟨rfl,rfl⟩,h⟩
  |some o=>
   simp[-ag,a, m,d,g,nh];exact⟨p,⟨rfl,rfl⟩,h⟩
 have a :=dN (show ¬(1024:Int)<((bZ ps).length:Int)by omega)
 by_cases A:ix S.F (x:Int)=true
 .have e:S.off x (bZ ps)=S:=ab (.inr A)
  rw[e];cases n:ix S.W (x:Int)with
  |none=>
   simp[-ag,a, m,d,g,nh,A];exact⟨p,⟨rfl,rfl⟩,h⟩
  |some o=>
   simp[-ag,a, m,d,g,nh,A];exact⟨p,⟨rfl,rfl⟩,h⟩
 have i : ix S.F (x:Int)=false:=by simpa using A
 cases n:ix S.W (x:Int)with
 |none=>
  simp[-ag,a, m,d,g,nh,i];refine Rj u s λτ q=>?_;have B:=h.more q;unfold Ii;simp[-ag];exact C τ none B n (λw h=>by simp at h) (by omega) i
 |some o=>
  have J:=G o n;have y:PC nX [.au false (o.map .int),.au false ((bZ ps).map .int)]=some (.int (aP o (bZ ps))):=BF o (bZ ps) (by omega) (by omega)
  by_cases z:o.length<(bZ ps).length
  .have j :=aB z
   have e:S.off x (bZ ps)=S:=by
    unfold Fd.off;rw[aa (by simp[i];omega),n]
    simp only;rw[ab];unfold aP;rw[ab (by omega)]
    omega
   rw[e];simp[-ag,a, m,d,g,nh,i, j];exact⟨p,⟨rfl,rfl⟩,h⟩
  .have j :=dN z
   simp[-ag,a, m,d,g,nh,i, j];refine Rj u s λτ q=>?_;have B:=h.more q;unfold Ii
   by_cases hle:aP o (bZ ps)<=0
   .have e:S.off x (bZ ps)=S:=by
     unfold Fd.off;rw[aa (by simp[i];omega),n]
     exact ab hle
    rw[e];have l :=aB hle;simp[-ag,y,l];exact⟨p,⟨rfl,rfl⟩,B⟩
   .have l :=dN hle
    simp[-ag,y,l];exact C τ (some o) B n (λw h=>by injection h with h;subst h;omega) (by omega) i
variable{o:Option (List Int)}
theorem FS.word(h:FS S va p σ):FS {S with W:=S.W.set x o} va p (ar σ (p .wo) ⟨none,(S.W.map nh).set x (nh o),.live⟩):=by
 refine h.step (λt=>t = .wo) (λt U=>⟨?_,rfl⟩) (λt B U V=>?_) (λt B U V=>?_) (λt B U V=>.inl ⟨⟨_,by subst U;rfl⟩,rfl⟩) λt u U hu _ _=>by rw[U,hu]
 .cases t with
  |wo=>exact absurd rfl U
  |f=>simp[Fd.cont]
  |_=>rfl
 .subst U
  have:Fd.cont {S with W:=S.W.set x o} va p .wo=some ⟨none,(S.W.map nh).set x (nh o),.live⟩:=by simp[Fd.cont,List.map_set]
  rw[this]at V;rw[cv (h.lt (t:=.wo) rfl)];exact V
 .rw[aK (h.ne (t:=.wo) rfl V (Ne.symm U))]
  exact h.has t B V
variable{n:Nat}{l:List Int}
theorem yB(a:n<S.R.length) (m:Nat):Fd.dG {S with R:=S.R.set n l} m=if m=n then l else S.dG m:=iD a m
theorem FS.push{p: Tf->Nat}(h:FS S va p σ)(hn:n<S.R.length) (hl:l ≠ []) (V:∀t,t ≠ .bk n->p' t=p t)
  (h2:ak τ (p' (.bk n))=some (Zb l)) (wT : ak τ (p .rd)=some ⟨none,((List.range S.R.length).map λm=>cE (p (.bk m)) (S.dG m).length).set n (.sl (p' (.bk n)) l.length 0 l.length),.live⟩)
  (h3:∀t B,t ≠ .rd->t ≠ .bk n->S.cont va p t=some B->ak τ (p t)=some B)
  (h4:(S.dG n ≠ []/\p' (.bk n)=p (.bk n))\/σ.length<=p' (.bk n)):FS {S with R:=S.R.set n l} va p' τ:=by
 have hlen:(S.R.set n l).length=S.R.length:=by simp
 have HP:Fd.cont {S with R:=S.R.set n l} va p' .rd=some ⟨none,((List.range S.R.length).map λm=>cE (p (.bk m)) (S.dG m).length).set n (.sl (p' (.bk n)) l.length 0 l.length),.live⟩:=by
  show some (⟨none,(List.range (S.R.set n l).length).map λm=>cE (p' (.bk m)) (Fd.dG {S with R:=S.R.set n l} m).length,.live⟩:ah)=_
  rw[hlen]
  congr 2
  apply jJ (by simp)
  intro i h1 _;simp at h1;rw[rh];simp only[k9,nI,yB hn]
  by_cases e:n=i
  .subst e
   rw[ab rfl,ab rfl];exact aa λe=>hl (dM e)
  .rw[aa e,aa (Ne.symm e),V _ (by simp;exact λe' =>e e'.symm)]
 have BT:Fd.cont {S with R:=S.R.set n l} va p' (.bk n)=some (Zb l):=by
  show(if n<(S.R.set n l).length/\Fd.dG {S with R:=S.R.set n l} n ≠ []then some (Zb (Fd.dG {S with R:=S.R.set n l} n))else none)=_
  rw[yB hn,ab rfl,hlen,ab ⟨hn,hl⟩]
 refine h.step (λt=>t = .rd\/t = .bk n) (λt U=>?_) (λt B U hB=>?_) (λt B U hB=>h3 t B (λe=>U (.inl e)) (λe=>U (.inr e)) hB) (λt B U hB=>?_) λt u U hu cL e=>?_
 .have t1:t ≠ .rd:=λe=>U (.inl e)
  have t2:t ≠ .bk n:=λe=>U (.inr e);refine⟨?_,V t t2⟩;cases t with
  |rd=>exact absurd rfl t1
  |f=>simp[Fd.cont,V]
  |bk m=>
   have hm:m ≠ n:=λe=>t2 (by rw[e])
   show(if m<(S.R.set n l).length/\Fd.dG {S with R:=S.R.set n l} m ≠ []then some (Zb (Fd.dG {S with R:=S.R.set n l} m))else none)=if m<S.R.length/\S.dG m ≠ []then some (Zb (S.dG m))else none
   rw[hlen,yB hn,aa hm]
  |_=>rfl
 .rcases U with rfl|rfl
  .rw[HP]at hB;rw[V _ (by simp),wT];exact hB
  .rw[BT]at hB;rw[h2];exact hB
 .rcases U with rfl|rfl
  .exact .inl ⟨⟨_,rfl⟩,V _ (by simp)⟩
  .exact h4.imp (λq=>⟨⟨_,ab ⟨hn,q.1⟩⟩,q.2⟩) id
 .have q:=h.lt (t:=.rd) rfl
  rcases U with rfl|rfl
  .rw[V _ (by simp)]at cL;omega
  .rcases hu with rfl|rfl
   .rw[V .rd (by simp)]at e;omega
   .rfl
def sD (o:Option (List Int)) (c:List Int):Bool:=match o with
 |none=>true
 |some w=>decide (c.length<w.length)
def Fd.oy (S:Fd) (n x:Nat):Fd:={S with R:=S.R.set n (S.dG n ++ [(x:Int)])}
variable{w:List Int}
theorem aka (S:Fd)(h:FS S va p σ) (I:Ij S)(o:Option (List Int))(O:n=w.length) (P:n<=1024) (s:Fd) (g:s=if sD o w=true then S.oy n x else S) :
  WK L Ig [.ptr (p .f) 5 0,.int x,.aF,.aF,.aF,.aF,.int n,.aF,nh o,.aF] none σ (gA rN λr τ=>r = .bF []/\∃p', PE p p' /\FS s va p' τ):=by
 unfold Ig;have y:=h.has .f _ rfl;have l:=h.has .rd _ rfl;subst O;have a:w.length<S.R.length:=by have:=I.r;omega
 have go:sD o w=true->WK L (.cq Hw) [.ptr (p .f) 5 0,.int x,.aF,.aF,.aF,.aF,.int w.length,.aF,.aF,.aF] none σ (gA rN λr τ=>r = .bF []/\∃p', PE p p' /\FS s va p' τ):=λT=>by
  rw[ab T]at g;subst g;have W:=I.b w.length;have z:ix (List.range S.R.length) (w.length:Int)=w.length:=by rw[aG (by simpa using a)];simp
  have J:ix (List.range S.R.length) (0+(w.length:Int)*1)=w.length:=by rw[<-z];congr 1;omega
  have K:S.dG w.length ++ [(x:Int)] ≠ []:=by simp
  have U:=h.lt (t:=.rd) rfl;have X:=h.lt (t:=.f) rfl
  by_cases i:S.dG w.length=[]
  .have A:cE (p (.bk w.length)) (S.dG w.length).length = .ae:=by rw[i];rfl
   have C:∀B:ah,ak (σ ++ [B]) (p .f)=_:=λB=>fU (r:=[B]) y;have D:∀B:ah,ak (σ ++ [B]) (p .rd)=_:=λB=>fU (r:=[B]) l;simp[-ag,y,l,z,J,A,a,C,D];refine⟨by omega,λt=>if t = .bk w.length then σ.length else p t,⟨by simp,by simp⟩,?_⟩
   have E:∀t,t ≠ Tf.bk w.length->(λt=>if t=Tf.bk w.length then σ.length else p t) t=p t:=λt V=>aa V
   have q:(λt=>if t=Tf.bk w.length then σ.length else p t) (.bk w.length)=σ.length:=ab rfl
   generalize (λt=>if t=Tf.bk w.length then σ.length else p t)=p' at *
   have F:p .rd<(σ ++ [(⟨none,[AV.int x],.live⟩:ah)]).length:=by simp;omega
   refine h.push a K E ?_ ?_ (λt B G M m=>?_) (.inr (by omega))
   .rw[q,aK (by omega),gJ,i];rfl
   .rw[cv F,q,show(AV.sl σ.length 1 0 1).cells=[AV.sl σ.length 1 0 1]from rfl,qz,i];rfl
   .rw[aK (h.ne (t:=.rd) rfl m (Ne.symm G))];exact fU (h.has t B m)
  .have A:cE (p (.bk w.length)) (S.dG w.length).length = .sl (p (.bk w.length)) (S.dG w.length).length 0 (S.dG w.length).length:=aa λe=>i (dM e)
   have H:=h.has (.bk w.length) _ (ab ⟨a,i⟩);have N:p (.bk w.length) ≠ p .rd:=h.ne (t:=.bk w.length) (u:=.rd) (ab ⟨a,i⟩) rfl (by simp)
   have b1:∀(Q:List ah) B,ak (ar Q (p (.bk w.length)) B) (p .rd)=ak Q (p .rd):=λQ B=>aK N;simp[-ag,y,l,z,J,A,a,H,b1];refine⟨by omega,by omega,p,⟨rfl,rfl⟩,?_⟩
   have F:=h.lt (t:=.bk w.length) (ab ⟨a,i⟩);refine h.push a K (λ_ _=>rfl) ?_ ?_ (λt B G M m=>?_) (.inl ⟨i,rfl⟩)
   .rw[aK N.symm,cv F];simp
   .rw[cv (by rw[bQ];exact U),show(AV.sl (p (.bk w.length)) ((S.dG w.length).length+1) 0 ((S.dG w.length).length+1)).cells=[AV.sl (p (.bk w.length)) ((S.dG w.length).length+1) 0 ((S.dG w.length).length+1)]from rfl,qz]
    simp
   .rw[aK (h.ne (t:=.rd) rfl m (Ne.symm G)),aK (h.ne (t:=.bk w.length) (ab ⟨a,i⟩) m (Ne.symm M))];exact h.has t B m
 cases o with
 |none=>
  have:=go rfl;simp[-ag,nh]at this ⊢;exact this
 |some u=>
  by_cases j:w.length<u.length
  .have d :=aB j
   have:=go (by simpa[sD]using j)
   simp[-ag,nh,d]at this ⊢;exact this
  .have d :=dN j
   rw[aa (by simpa[sD]using j)]at g
   subst g;simp[-ag,nh,d];exact⟨p,⟨rfl,rfl⟩,h⟩
def gF:List Int->List Bool->List Int×List Bool
 | [],F=>([],F)
 |x::l,F=>if ix F x=true then gF l F else((x::(gF l (F.set x.toNat true)).1),(gF l (F.set x.toNat true)).2)
theorem Ik:∀(l:List Int) (x:Int) (F:List Bool),gF (l ++ [x]) F=if ix (gF l F).2 x=true then gF l F else((gF l F).1 ++ [x],(gF l F).2.set x.toNat true)
 | [],x,F=>by
  show(if ix F x=true then([],F)else([x],F.set x.toNat true))=_
  by_cases e:ix F x=true<;>simp[e,gF]
 |a::l,x,F=>by
  simp only[jI,gF];split
  .exact Ik l x F
  .rw[Ik l x _]
   split
   .rfl
   .rfl
theorem yC:∀(l:List Int) (F:List Bool),(gF l F).2.length=F.length/\(gF l F).1.length<=l.length
 | [],F=>⟨rfl,aT _⟩
 |a::l,F=>by
  simp only[gF];split
  .have:=yC l F;exact⟨this.1,by simp;omega⟩
  .have:=yC l (F.set a.toNat true);exact⟨by simpa using this.1,by simp;omega⟩
variable{F:List Bool}
theorem FS.found(h:FS S va p σ)(hl:F.length=S.F.length):FS {S with F:=F} va p (ar σ (p .fd) ⟨none,F.map .bool,.live⟩):=by
 refine h.step (λt=>t = .fd) (λt U=>⟨?_,rfl⟩) (λt B U V=>?_) (λt B U V=>?_) (λt B U V=>.inl ⟨⟨_,by subst U;rfl⟩,rfl⟩) λt u U hu _ _=>by rw[U,hu]
 .cases t with
  |fd=>exact absurd rfl U
  |f=>simp[Fd.cont,hl]
  |_=>rfl
 .subst U
  have:Fd.cont {S with F:=F} va p .fd=some ⟨none,F.map .bool,.live⟩:=rfl
  rw[this]at V;rw[cv (h.lt (t:=.fd) rfl)];exact V
 .rw[aK (h.ne (t:=.fd) rfl V (Ne.symm U))]
  exact h.has t B V
theorem FS.junk(h:FS S va p σ){b:Nat}(V:∀t A,S.cont va p t=some A->p t ≠ b):FS S va p (ar σ b B):=
 ⟨λt A U=>by rw[aK (Ne.symm (V t A U))];exact h.has t A U,h.inj⟩
theorem Rk(h:Fd.cont {S with F:=F} va p t=some A):∃B,S.cont va p t=some B:=by
 cases t with
 |f=>exact⟨_,rfl⟩
 |wo=>exact⟨_,rfl⟩
 |fd=>exact⟨_,rfl⟩
 |rd=>exact⟨_,rfl⟩
 |dn=>exact⟨A,h⟩
 |bk n=>exact⟨A,h⟩
theorem akb (S:Fd)(h:FS S va p σ) (H:Ij S)(hn:n<=1024) (X:∀y∈S.dG n,0<=y/\y<(S.W.length:Int)) :
  LX L Hd [.ptr (p .f) 5 0,.int n] σ (λr τ=>r = .sl σ.length (gF (S.dG n) S.F).1.length 0 (gF (S.dG n) S.F).1.length/\FS {S with F:=(gF (S.dG n) S.F).2} va p τ/\ak τ σ.length=some (bG (gF (S.dG n) S.F).1)/\σ.length<τ.length):=by
 refine agz rfl ?_;have Y:=h.has .f _ rfl;have I:=h.has .rd _ rfl;have g:n<S.R.length:=by have:=H.r;omega
 have D:=H.b n;have u:∀B:ah,ak (σ ++ [B]) (p .f)=_:=λB=>fU (r:=[B]) Y;have w:∀B:ah,ak (σ ++ [B]) (p .rd)=_:=λB=>fU (r:=[B]) I;have J:ix (List.range S.R.length) (n:Int)=n:=by rw[aG (by simpa using g)];simp
 have V:ix (List.range S.R.length) (0+(n:Int)*1)=n:=by rw[<-J];congr 1;omega
 by_cases E:S.dG n=[]
 .have K:cE (p (.bk n)) (S.dG n).length = .ae:=by rw[E];rfl
  have Z:gF (S.dG n) S.F=([],S.F):=by rw[E];rfl
  rw[Z];simp[-ag,u,w,J,V,K,g];refine aM (λ_:Unit=>[]) (λ_=>σ ++ [bG []]) (λ_=>True) (λ_=>0) () (by simp[a8]) trivial ?_
  rintro⟨⟩ _;simp[-ag];exact⟨h.more λb D=>by rw[bE,bE,eC D],gJ⟩
 .have K:cE (p (.bk n)) (S.dG n).length = .sl (p (.bk n)) (S.dG n).length 0 (S.dG n).length:=aa λe=>E (dM e)
  simp[-ag,u,w,J,V,K,g];generalize hl:S.dG n=l at *;refine aM (λq:Nat×List ah=>[(2,.int q.1),(6,.sl σ.length (gF (l.take q.1) S.F).1.length 0 (gF (l.take q.1) S.F).1.length)]) (λq=>q.2) (λq=>q.1<=l.length/\FS {S with F:=(gF (l.take q.1) S.F).2} va p q.2/\ak q.2 σ.length=some (bG (gF (l.take q.1) S.F).1)/\σ.length<q.2.length) (λq=>l.length-q.1) (0,σ ++ [bG []]) (by simp[a8,gF]) ⟨by simp,h.more λb D=>by rw[bE,bE,eC D],gJ,by simp⟩ ?_
  rintro⟨k,x⟩ ⟨k0,s,i,d⟩;dsimp only at k0 s i d ⊢;have z:=s.has .f _ rfl;have j:=s.has .fd _ rfl;have m:=s.has (.bk n) (Zb l) (by
   show(if n<S.R.length/\S.dG n ≠ []then some (Zb (S.dG n))else none)=_
   rw[hl,ab ⟨g,E⟩])
  have M:=(yC (l.take k) S.F).1;have hol:=(yC (l.take k) S.F).2;have XI:(l.take k).length<=l.length:=by simp;omega
  by_cases N:k<l.length
  .have tk:=jm N
   have a:=Ik (l.take k) (ix l (k:Int)) S.F;rw[<-tk]at a;have O:=X _ (aO (l:=l) (n:=(k:Int)) (by omega) (by omega))
   have P:ix l (k:Int)<((gF (l.take k) S.F).2.length:Int):=by rw[M,H.f];exact O.2
   have nf:p .fd ≠ σ.length:=by have:=h.lt (t:=.fd) rfl;omega
   have C:=s.found (F:=(gF (l.take k) S.F).2.set (ix l (k:Int)).toNat true) (by simp)
   generalize gF (l.take k) S.F=T at *;obtain⟨out,F⟩:=T;dsimp only at *;have o :=eq_true P
   by_cases G:ix F (ix l (k:Int))=true
   .rw[ab G]at a
    simp[-ag,N,z,j,m,O.1,o, G];exact⟨by omega,az (k+1,x) (by simp[a]) rfl ⟨by dsimp only;omega,by dsimp only;rw[a];exact s,by dsimp only;rw[a];exact i,d⟩ (by dsimp only;omega)⟩
   .rw[aa G]at a
    have Q : ix F (ix l (k:Int))=false:=by simpa using G
    have U:∀B,ak (ar x (p .fd) B) σ.length=some (bG out):=λB=>by rw[aK nf];exact i
    simp[-ag,N,z,j,m,O.1,o, Q, U];refine⟨by split<;>rfl,by omega,by omega,az (k+1,_) (by simp[a]) rfl ⟨by dsimp only;omega,?_,?_,by dsimp only;rw[bQ,bQ];exact d⟩ (by dsimp only;omega)⟩
    .dsimp only
     rw[a];rw[List.map_set]at C;exact C.junk λt A hA=>by
      obtain⟨B,hB⟩:=Rk hA;have:=h.lt hB;omega
    .dsimp only
     rw[a,cv (by rw[bQ];exact d)]
     simp
  .have ek:k=l.length:=by omega
   subst ek;rw[List.take_length]at *;simp[-ag];exact⟨s,i,d⟩
variable{c:List Int}
theorem Il(b:ix S.W (x:Int)=o) (a:∀w,o=some w->0<aP w c) (g:c.length<=1024) (d:ix S.F (x:Int)=false):S.off x c=if sD o c=true then Fd.oy {S with W:=S.W.set x (some c)} c.length x else {S with W:=S.W.set x (some c)}:=by
 unfold Fd.off;rw[aa (by simp[d];omega),b]
 cases o with
 |none=>rfl
 |some w=>
  have:=a w rfl;simp only;rw[aa (by omega)]
  by_cases e:c.length<w.length
  .rw[ab e,ab (by simpa[sD]using e)];rfl
  .rw[aa e,aa (by simpa[sD]using e)]
theorem Im (S:Fd)(h:FS S va p σ) (a:Ij S)(j:x<S.W.length) (ps:List (Bool×Option (List Int))) (d:(bZ ps).length<=5000) (g:ps.length<=10) (w:∀o,ix S.W (x:Int)=some o->o.length<=1024) (b:Bool) :
  LX L tt [.ptr (p .f) 5 0,.int x,.au b (ps.map vF)] σ (λr τ=>r = .bF []/\∃p', PE p p' /\FS (S.off x (bZ ps)) va p' τ):=by
 refine aj6 S h a j ps d g (aj9 S h a j ps d g w λτ o i y l s z=>?_);unfold Ih;have A:=i.has .f _ rfl;have m:=i.has .wo _ rfl;have C:p .wo ≠ p .f:=i.ne (t:=.wo) (u:=.f) rfl rfl (by simp)
 simp[-ag,A,m,j];have B:=i.word (x:=x) (o:=some (bZ ps));have e:(AV.au true ((bZ ps).map .int)).cells=[nh (some (bZ ps))]:=rfl;rw[e,qz];have q:Ij {S with W:=S.W.set x (some (bZ ps))}:=⟨by simp[a.f],a.r,by simp[a.n],a.b⟩
 exact⟨by omega,aka _ B q o rfl s _ (Il y l s z)⟩
structure lJ (S:Fd):Prop where
 f:S.F.length=S.W.length
 r:S.R.length=1025
 n:S.W.length<=512
 nd:∀n,(S.dG n).Nodup
 bm:∀n y,y∈S.dG n->(0<=y/\y<(S.W.length:Int))/\∃w,ix S.W y=some w/\w.length<=n
 wl:∀x w,0<=x->x<(S.W.length:Int)->ix S.W x=some w->w.length<=1024
theorem lJ.ok(h:lJ S):Ij S:=⟨h.f,h.r,h.n,λn=>by
 have:=tF S.W.length (h.nd n) λy U=>(h.bm n y U).1;have:=h.n;omega⟩
theorem qB [Inhabited α]{l:List α}{k:Nat}{v:α}(a:k<l.length){j:Int}(b:0<=j):ix (l.set k v) j=if j=k then v else ix l j:=by
 have:=iD (v:=v) a j.toNat;rw[show((j.toNat:Nat):Int)=j by omega]at this
 rw[this]
 by_cases e:j=k
 .rw[ab e,ab (by omega)]
 .rw[aa e,aa (by omega)]
theorem Io (S:Fd) (x:Nat) (c:List Int):S.off x c=S\/(c.length<=1024/\ix S.F (x:Int)=false/\(∀w,ix S.W (x:Int)=some w->0<aP w c)/\((sD (ix S.W (x:Int)) c=true/\S.off x c=Fd.oy {S with W:=S.W.set x (some c)} c.length x)\/(sD (ix S.W (x:Int)) c=false/\S.off x c={S with W:=S.W.set x (some c)}))):=by
 by_cases b:1024<c.length\/ix S.F (x:Int)=true
 .exact .inl (ab b)
 have h:c.length<=1024:=by omega
 have i:ix S.F (x:Int)=false:=by
  cases e:ix S.F (x:Int)with
  |false=>rfl
  |true=>exact absurd (.inr e) b
 by_cases j:∃w,ix S.W (x:Int)=some w/\aP w c<=0
 .obtain⟨w,d,hle⟩:=j
  left;unfold Fd.off;rw[aa b,d];exact ab hle
 .right
  have a:∀w,ix S.W (x:Int)=some w->0<aP w c:=λw d=>cZ λg=>j ⟨w,d,by omega⟩
  refine⟨h,i,a,?_⟩;have:=Il rfl a h i;cases g:sD (ix S.W (x:Int)) c with
  |true=>rw[ab g]at this;exact .inl ⟨rfl,this⟩
  |false=>rw[aa (by simp[g])]at this;exact .inr ⟨rfl,this⟩
theorem lJ.off(h:lJ S)(hx:x<S.W.length) (c:List Int):lJ (S.off x c):=by
 rcases Io S x c with e|⟨hc,hf,Eo,⟨hn,e⟩|⟨hn,e⟩⟩
 .rw[e];exact h
 .rw[e]
  have Rl:(x:Int)∉S.dG c.length:=λhm=>by
   obtain⟨_,w,U,hl⟩:=h.bm _ _ hm;rw[U]at hn;simp only[sD,dY]at hn;omega
  have qC:c.length<S.R.length:=by rw[h.r];omega
  have BT:∀m,Fd.dG (Fd.oy {S with W:=S.W.set x (some c)} c.length x) m=if m=c.length then S.dG c.length ++ [(x:Int)]else S.dG m:=λm=>yB (S:={S with W:=S.W.set x (some c)}) qC m
  refine⟨by show S.F.length=(S.W.set x (some c)).length;simp[h.f],by show(S.R.set _ _).length=1025;simp[h.r],by show(S.W.set x (some c)).length<=512;simp[h.n],λm=>?_,λm y V=>?_,λz w z0 z1 U=>?_⟩
  .rw[BT]
   split
   .rw[rj]
    exact⟨h.nd _,by simp,λa ha b hb=>by simp at hb;subst hb;exact λe=>Rl (e▸ha)⟩
   .exact h.nd m
  .rw[BT]at V
   show(0<=y/\y<((S.W.set x (some c)).length:Int))/\∃w,ix (S.W.set x (some c)) y=some w/\w.length<=m;rw[mN];have key:y∈S.dG m->(0<=y/\y<(S.W.length:Int))/\∃w,ix (S.W.set x (some c)) y=some w/\w.length<=m:=λV=>by
    obtain⟨hr,w,U,hl⟩:=h.bm m y V;refine⟨hr,?_⟩;rw[qB hx hr.1]
    by_cases e:y=x
    .subst e
     rw[U]at hn;simp only[sD,dY]at hn;exact⟨c,ab rfl,by omega⟩
    .exact⟨w,by rw[aa e];exact U,hl⟩
   split at V
   .rename_i em
    rcases dQ.1 V with V|V
    .exact key (by rw[em];exact V)
    .simp at V
     subst V;exact⟨by omega,c,by rw[qB hx (by omega),ab rfl],by omega⟩
   .exact key V
  .rw[show(Fd.oy {S with W:=S.W.set x (some c)} c.length x).W=S.W.set x (some c)from rfl]at U z1
   rw[qB hx z0]at U;split at U
   .injection U with U;subst U;exact hc
   .exact h.wl z w z0 (by simpa using z1) U
 .rw[e]
  refine⟨by simp[h.f],h.r,by simp[h.n],h.nd,λm y V=>?_,λz w z0 z1 U=>?_⟩
  .obtain⟨hr,w,U,hl⟩:=h.bm m y V
   show(0<=y/\y<((S.W.set x (some c)).length:Int))/\∃w,ix (S.W.set x (some c)) y=some w/\w.length<=m;rw[mN,qB hx hr.1];refine⟨hr,?_⟩
   by_cases e:y=x
   .subst e
    have Rm:=Eo w U;rw[ab rfl];refine⟨c,rfl,?_⟩;have:¬w.length<c.length:=λcL=>by unfold aP at Rm;rw[ab (by omega)]at Rm;omega
    omega
   .exact⟨w,by rw[aa e];exact U,hl⟩
  .dsimp only at U z1
   rw[qB hx z0]at U;split at U
   .injection U with U;subst U;exact hc
   .exact h.wl z w z0 (by simpa using z1) U
theorem Ip:(S.off x c).W.length=S.W.length/\(S.off x c).F=S.F/\(S.off x c).N=S.N:=by
 rcases Io S x c with e|⟨_,_,_,⟨_,e⟩|⟨_,e⟩⟩<;>rw[e]<;>simp[Fd.oy]
variable{y:Int}
theorem Rn(d:x<S.W.length)(g:0<=y) (b:ix S.F y=true):ix (S.off x c).W y=ix S.W y:=by
 rcases Io S x c with e|⟨_,a,_,⟨_,e⟩|⟨_,e⟩⟩
 .rw[e]
 .rw[e]
  show ix (S.W.set x (some c)) y=_;rw[qB d g,aa λe=>by rw[e,a]at b;simp at b]
 .rw[e]
  show ix (S.W.set x (some c)) y=_;rw[qB d g,aa λe=>by rw[e,a]at b;simp at b]
def Fd.enc (D:Vd) (x c y:Nat) (wx wy:List Int) (S:Fd):Nat->Fd
 |0=>S
 |r+1=>(Fd.enc D x c y wx wy S r).off (D.bk x c y r).toNat (wx++(c:Int)::(wy ++ [D.n.calls+D.n.af+r]))
theorem Iq{D:Vd}{x c y:Nat}{wx wy:List Int}{S:Fd}(h:lJ S) (a:∀r:Nat,(r:Int)<D.n.aj->0<=D.bk x c y r/\D.bk x c y r<(S.W.length:Int)):∀r:Nat,(r:Int)<=D.n.aj->lJ (Fd.enc D x c y wx wy S r)/\(Fd.enc D x c y wx wy S r).W.length=S.W.length/\(Fd.enc D x c y wx wy S r).F=S.F/\(Fd.enc D x c y wx wy S r).N=S.N/\∀z:Int,0<=z->ix S.F z=true->ix (Fd.enc D x c y wx wy S r).W z=ix S.W z
 |0,_=>⟨h,rfl,rfl,rfl,λ_ _ _=>rfl⟩
 |r+1,u=>by
  obtain⟨i,j,b,l,m⟩:=Iq (wx:=wx) (wy:=wy) h a r (by omega)
  have o:=a r (by omega)
  have d:(D.bk x c y r).toNat<(Fd.enc D x c y wx wy S r).W.length:=by omega
  obtain⟨p,q,s⟩:=Ip (S:=Fd.enc D x c y wx wy S r) (x:=(D.bk x c y r).toNat) (c:=wx++(c:Int)::(wy ++ [D.n.calls+D.n.af+r]));exact⟨i.off d _,by show((Fd.enc D x c y wx wy S r).off _ _).W.length=_;rw[p,j],q.trans b,s.trans l,λz e g=>(Rn d e (by rw[b];exact g)).trans (m z e g)⟩
variable{wx:List Int}
theorem Ro (D:Vd) (g:jr D) (S:Fd)(h:FS S D.vcs.av p σ) (z:lJ S) (R:S.W.length=D.K.length){c y:Nat}(A:x<D.K.length) (T:y<D.K.length) (G:c<D.n.calls.toNat){wy:List Int}(H:ix S.W (x:Int)=some wx) (I:ix S.W (y:Int)=some wy) (f1:ix S.F (x:Int)=true) (U:ix S.F (y:Int)=true) :
  LX L A6 [.ptr (p .f) 5 0,.int x,.int c,.int y] σ (λr τ=>r = .bF []/\∃p', PE p p' /\FS (Fd.enc D x c y wx wy S D.n.aj.toNat) D.vcs.av p' τ):=by
 refine ag1 rfl ?_;have V:=h.has .f _ rfl;have X:=g.f.b;have Y:=g.c;have Z:=g.r;have Af:=g.n;have x1:=aB (show(x:Int)<(D.BL.length:Int)by omega)
 have x2:=aB (show(c:Int)<((ix D.BL (x:Int)).length:Int)by have:=g.rl x A;unfold Vd.row at this;omega)
 have x3:=aB (show(y:Int)<((ix (ix D.BL (x:Int)) (c:Int)).length:Int)by have:=g.f.c x c A G;unfold Vd.bM Vd.row at this;omega)
 have l:=g.qA x c y A G T;unfold Vd.bM Vd.row at l;have J:∀r:Nat,(r:Int)<D.n.aj->0<=D.bk x c y r/\D.bk x c y r<(S.W.length:Int):=λr hr=>by
  rw[R];exact l.2 _ (aO (by omega) (by omega))
 have wl1:=z.wl x wx (by omega) (by omega) H
 have wl2:=z.wl y wy (by omega) (by omega) I
 simp[-ag,V,x1,x2,x3];refine aM (λq:Nat×(Tf->Nat)×List ah=>[(5,.int q.1)]) (λq=>q.2.2) (λq=>q.1<=D.n.aj.toNat/\PE p q.2.1/\FS (Fd.enc D x c y wx wy S q.1) D.vcs.av q.2.1 q.2.2) (λq=>D.n.aj.toNat-q.1) (0,p,σ) (by simp[a8]) ⟨by simp,⟨rfl,rfl⟩,h⟩ ?_
 rintro⟨r,p1,σ1⟩ ⟨r0,a,m⟩;dsimp only at r0 a m ⊢;obtain⟨M,k2,k3,k4,N⟩:=Iq (wx:=wx) (wy:=wy) z J r (by omega)
 have s:=m.has .f _ rfl;have u:=m.has .wo _ rfl;rw[a.1]at s
 by_cases hr:r<D.n.aj.toNat
 .have i:=aB (show(r:Int)<(((ix (ix (ix D.BL (x:Int)) (c:Int)) (y:Int)).length:Nat):Int)by omega)
  have u4:=J r (by omega)
  have O:=N x (by omega) f1
  have P:=N y (by omega) U
  rw[H]at O;rw[I]at P;have e:bZ [(true,some wx),(false,some [(c:Int)]),(true,some wy),(false,some [D.n.calls+D.n.af+r])]=wx++(c:Int)::(wy ++ [D.n.calls+D.n.af+r]):=by simp[bZ]
  have j:=Im (Fd.enc D x c y wx wy S r) m M.ok (x:=(D.bk x c y r).toNat) (by omega) [(true,some wx),(false,some [(c:Int)]),(true,some wy),(false,some [D.n.calls+D.n.af+r])] (by rw[e];simp;omega) (by simp) (λo ho=>M.wl _ _ (by omega) (by omega) ho) false
  obtain⟨rv,τ,j,rfl,Q,d,w⟩:=dh j;rw[e]at w;rw[a.1]at j;have d:PE p Q:=⟨d.1.trans a.1,d.2.trans a.2⟩;have B:((D.bk x c y r).toNat:Int)=ix (ix (ix (ix D.BL (x:Int)) (c:Int)) (y:Int)) (r:Int):=by
   have:D.bk x c y r=ix (ix (ix (ix D.BL (x:Int)) (c:Int)) (y:Int)) (r:Int):=rfl;omega
  rw[B]at j;have lx:=aB (show(x:Int)<((Fd.enc D x c y wx wy S r).W.length:Int)by omega)
  have ly:=aB (show(y:Int)<((Fd.enc D x c y wx wy S r).W.length:Int)by omega)
  have C:=aB (show x<(Fd.enc D x c y wx wy S r).W.length by omega)
  have E:=aB (show y<(Fd.enc D x c y wx wy S r).W.length by omega)
  simp only[List.map_cons,List.map_nil,vF]at j;simp[-ag,i,s,u,lx,ly,C,E,O,P,nh,j];exact⟨by omega,by omega,by omega,az (r+1,Q,τ) (by simp) rfl ⟨by dsimp only;omega,d,w⟩ (by dsimp only;omega)⟩
 .have i:=dN (show ¬(r:Int)<(((ix (ix (ix D.BL (x:Int)) (c:Int)) (y:Int)).length:Nat):Int)by omega)
  have er:r=D.n.aj.toNat:=by omega
  simp[-ag,i];rw[<-er];exact⟨p1,a,m⟩
structure Kp (S T:Fd):Prop where
 w:lJ T
 l:T.W.length=S.W.length
 f:T.F=S.F
 n:T.N=S.N
 k:∀z:Int,0<=z->ix S.F z=true->ix T.W z=ix S.W z
theorem Kp.refl(h:lJ S):Kp S S:=⟨h,rfl,rfl,rfl,λ_ _ _=>rfl⟩
variable{T U:Fd}
theorem Kp.trans(h:Kp S T) (g:Kp T U):Kp S U:=⟨g.w,g.l.trans h.l,g.f.trans h.f,g.n.trans h.n,λz V hz=>(g.k z V (by rw[h.f];exact hz)).trans (h.k z V hz)⟩
theorem Kp.off(h:lJ S)(hx:x<S.W.length) (c:List Int):Kp S (S.off x c):=by
 obtain⟨o1,o2,U⟩:=Ip (S:=S) (x:=x) (c:=c);exact⟨h.off hx c,o1,o2,U,λz V hz=>Rn hx V hz⟩
variable{D:Vd}
theorem Kp.enc(V:jr D)(h:lJ S) (hk:S.W.length=D.K.length){c y:Nat}(hx:x<D.K.length) (hy:y<D.K.length) (hc:c<D.n.calls.toNat) (wx wy:List Int):Kp S (Fd.enc D x c y wx wy S D.n.aj.toNat):=by
 have U:=V.qA x c y hx hc hy;unfold Vd.bM Vd.row at U;have UD:=V.r;obtain⟨a,b,c,d,e⟩:=Iq (wx:=wx) (wy:=wy) h (λr hr=>by
  rw[hk];exact U.2 _ (aO (by omega) (by omega))) D.n.aj.toNat (by omega)
 exact⟨a,b,c,d,e⟩
def Fd.ei (D:Vd) (x:Nat) (wx:List Int) (S:Fd):Nat->Fd
 |0=>S
 |i+1=>(Fd.ei D x wx S i).off (D.im x i).toNat (wx ++ [D.n.calls+i])
theorem Kp.ei{D:Vd}(U:jr D){S:Fd}(h:lJ S) (hk:S.W.length=D.K.length){x:Nat}(hx:x<D.K.length) (wx:List Int):∀i:Nat,i<=D.n.af.toNat->Kp S (Fd.ei D x wx S i)
 |0,_=>Kp.refl h
 |i+1,hi=>by
  have V:=Kp.ei U h hk hx wx i (by omega)
  have jY:=U.inl x hx;have Af:=U.n;have UE:0<=D.im x i/\D.im x i<(D.K.length:Int):=jY.2 _ (aO (by omega) (by omega))
  exact V.trans (Kp.off V.w (by rw[V.l,hk];omega) _)
def Fd.ec (D:Vd) (x y:Nat) (wx wy:List Int) (S:Fd):Nat->Fd
 |0=>S
 |c+1=>Fd.enc D y c x wy wx (Fd.enc D x c y wx wy (Fd.ec D x y wx wy S c) D.n.aj.toNat) D.n.aj.toNat
theorem Kp.ec{D:Vd}(U:jr D){S:Fd}(h:lJ S) (V:S.W.length=D.K.length){x y:Nat}(hx:x<D.K.length) (hy:y<D.K.length) (wx wy:List Int):∀c:Nat,c<=D.n.calls.toNat->Kp S (Fd.ec D x y wx wy S c)
 |0,_=>Kp.refl h
 |c+1,hc=>by
  have ih:=Kp.ec U h V hx hy wx wy c (by omega)
  have h1:=Kp.enc U ih.w (by rw[ih.l,V]) hx hy (show c<D.n.calls.toNat by omega) wx wy
  have h2:=ih.trans h1;exact h2.trans (Kp.enc U h2.w (by rw[h2.l,V]) hy hx (show c<D.n.calls.toNat by omega) wy wx)
def Fd.ed (D:Vd) (x:Nat) (wx:List Int) (wd:Int->List Int) (S:Fd) (l:List Int):Nat->Fd
 |0=>S
 |k+1=>Fd.ec D x (ix l (k:Int)).toNat wx (wd (ix l (k:Int))) (Fd.ed D x wx wd S l k) D.n.calls.toNat
theorem Kp.ed{D:Vd}(V:jr D){S:Fd}(h:lJ S) (hk:S.W.length=D.K.length){x:Nat}(hx:x<D.K.length) (wx:List Int) (wd:Int->List Int){l:List Int}(hl:∀y∈l,0<=y/\y<(D.K.length:Int)):∀k:Nat,k<=l.length->Kp S (Fd.ed D x wx wd S l k)
 |0,_=>Kp.refl h
 |k+1,wR=>by
  have U:=Kp.ed V h hk hx wx wd hl k (by omega)
  have hy:=hl _ (aO (l:=l) (n:=(k:Int)) (by omega) (by omega))
  exact U.trans (Kp.ec V U.w (by rw[U.l,hk]) hx (by omega) wx _ _ (aT _))
def Fd.ext (D:Vd) (x:Nat) (S:Fd):Fd:=
 let wx:=(ix S.W (x:Int)).getD []
 Fd.ed D x wx (λy=>(ix S.W y).getD []) (Fd.ei D x wx S D.n.af.toNat) S.N S.N.length
theorem akc (D:Vd) (s:jr D) (S:Fd)(h:FS S D.vcs.av p σ) (hF:lJ S) (Y:S.W.length=D.K.length)(H:x<D.K.length) (f1:ix S.F (x:Int)=true) (I:S.N ≠ []) (hNl:S.N.length<=1000)
  (PZ:∃wx,ix S.W (x:Int)=some wx) (hN:∀y∈S.N,(0<=y/\y<(D.K.length:Int))/\ix S.F y=true/\∃w,ix S.W y=some w) :
  LX L AW [.ptr (p .f) 5 0,.int x] σ (λr τ=>r = .bF []/\∃p', PE p p' /\FS (Fd.ext D x S) D.vcs.av p' τ):=by
 refine agA rfl ?_;obtain⟨wx,m⟩:=PZ;have hv:=h.has .f _ rfl;have jY:=s.inl x H;have Uk:=s.f.i;have Cz:=s.c;have Af:=s.n;have x1:=aB (show(x:Int)<(D.IN.length:Int)by omega)
 have wl1:=hF.wl x wx (by omega) (by omega) m
 have Z:Fd.ext D x S=Fd.ed D x wx (λy=>(ix S.W y).getD []) (Fd.ei D x wx S D.n.af.toNat) S.N S.N.length:=by unfold Fd.ext;rw[m];rfl
 rw[Z];simp[-ag,hv,x1];refine aM (λq:Nat×(Tf->Nat)×List ah=>[(3,.int q.1)]) (λq=>q.2.2) (λq=>q.1<=D.n.af.toNat/\PE p q.2.1/\FS (Fd.ei D x wx S q.1) D.vcs.av q.2.1 q.2.2) (λq=>D.n.af.toNat-q.1) (0,p,σ) (by simp[a8]) ⟨by simp,⟨rfl,rfl⟩,h⟩ ?_
 rintro⟨i,p1,σ1⟩ ⟨i0,a,U⟩;dsimp only at i0 a U ⊢;have j:=Kp.ei s hF Y H wx i i0;have J:=U.has .f _ rfl;have akd:=U.has .wo _ rfl;rw[a.1]at J
 by_cases hi:i<D.n.af.toNat
 .have M:=aB (show(i:Int)<((ix D.IN (x:Int)).length:Int)by omega)
  have O:=aB (show i<(ix D.IN (x:Int)).length by omega)
  have UE:0<=D.im x i/\D.im x i<(D.K.length:Int):=jY.2 _ (aO (by omega) (by omega))
  have g1:=j.k x (by omega) f1
  rw[m]at g1;have C:bZ [(true,some wx),(false,some [D.n.calls+i])]=wx ++ [D.n.calls+i]:=by simp[bZ]
  have V:=Im (Fd.ei D x wx S i) U j.w.ok (x:=(D.im x i).toNat) (by rw[j.l];omega) [(true,some wx),(false,some [D.n.calls+i])] (by rw[C];simp;omega) (by simp) (λo ho=>j.w.wl _ _ (by omega) (by rw[j.l];omega) ho) false
  obtain⟨rv,τ,V,rfl,p2,b,d⟩:=dh V;rw[C]at d;rw[a.1]at V;have b:PE p p2:=⟨b.1.trans a.1,b.2.trans a.2⟩;have BT:((D.im x i).toNat:Int)=ix (ix D.IN (x:Int)) (i:Int):=by
   have:D.im x i=ix (ix D.IN (x:Int)) (i:Int):=rfl;omega
  rw[BT]at V;have lx:=aB (show(x:Int)<((Fd.ei D x wx S i).W.length:Int)by rw[j.l];omega)
  have lx2:=aB (show x<(Fd.ei D x wx S i).W.length by rw[j.l];omega)
  simp only[List.map_cons,List.map_nil,vF]at V;simp[-ag,M,O,J,akd,lx,lx2,g1,nh,V];exact⟨by omega,by omega,az (i+1,p2,τ) (by simp) rfl ⟨by dsimp only;omega,b,d⟩ (by dsimp only;omega)⟩
 .have M:=dN (show ¬(i:Int)<((ix D.IN (x:Int)).length:Int)by omega)
  have O:=dN (show ¬i<(ix D.IN (x:Int)).length by omega)
  have ei:i=D.n.af.toNat:=by omega
  rw[<-ei];have hdn:=U.has .dn _ (aa (by rw[j.n];exact I))
  have e6:cE (p1 .dn) (Fd.ei D x wx S i).N.length = .sl (p1 .dn) S.N.length 0 S.N.length:=by
   rw[j.n];exact aa λe=>I (dM e)
  simp[-ag,M,O,J,e6];have hNr:∀y∈S.N,0<=y/\y<(D.K.length:Int):=λy hy=>(hN y hy).1;have UH:(Fd.ei D x wx S i).W.length=D.K.length:=by rw[j.l,Y]
  refine aM (λq:Nat×(Tf->Nat)×List ah=>[(8,.int q.1)]) (λq=>q.2.2) (λq=>q.1<=S.N.length/\PE p1 q.2.1/\FS (Fd.ed D x wx (λy=>(ix S.W y).getD []) (Fd.ei D x wx S i) S.N q.1) D.vcs.av q.2.1 q.2.2) (λq=>S.N.length-q.1) (0,p1,σ1) (by simp[a8]) ⟨by simp,⟨rfl,rfl⟩,U⟩ ?_
  rintro⟨k,p2,J7⟩ ⟨k0,b,d⟩;dsimp only at k0 b d ⊢;have K2:=j.trans (Kp.ed s j.w UH H wx (λy=>(ix S.W y).getD []) hNr k k0)
  by_cases wR:k<S.N.length
  .have hy:=hN _ (aO (l:=S.N) (n:=(k:Int)) (by omega) (by omega))
   obtain⟨⟨y0,y1⟩,yf,wy,u⟩:=hy;have E:=d.has .dn _ (aa (by rw[K2.n];exact I))
   rw[b.2,K2.n]at E;simp[-ag,wR,E];have P:Fd.ed D x wx (λy=>(ix S.W y).getD []) (Fd.ei D x wx S i) S.N (k+1)=Fd.ec D x (ix S.N (k:Int)).toNat wx wy (Fd.ed D x wx (λy=>(ix S.W y).getD []) (Fd.ei D x wx S i) S.N k) D.n.calls.toNat:=by
    show Fd.ec D x (ix S.N (k:Int)).toNat wx ((ix S.W (ix S.N (k:Int))).getD []) _ _=_;rw[u];rfl
   obtain⟨y,hyy⟩:∃y:Nat,ix S.N (k:Int)=y:=⟨(ix S.N (k:Int)).toNat,by omega⟩
   rw[hyy]at y0 y1 yf u P;rw[hyy];rw[je]at P;have z:y<D.K.length:=by omega
   generalize hSk:Fd.ed D x wx (λy=>(ix S.W y).getD []) (Fd.ei D x wx S i) S.N k=Sk at *;have vY:Sk.W.length=D.K.length:=by rw[K2.l,Y]
   refine aM (λq:Nat×(Tf->Nat)×List ah=>[(11,.int q.1)]) (λq=>q.2.2) (λq=>q.1<=D.n.calls.toNat/\PE p q.2.1/\FS (Fd.ec D x y wx wy Sk q.1) D.vcs.av q.2.1 q.2.2) (λq=>D.n.calls.toNat-q.1) (0,p2,J7) (by simp[a8]) ⟨by simp,⟨b.1.trans a.1,b.2.trans a.2⟩,d⟩ ?_
   rintro⟨c,p3,UI⟩ ⟨c0,g,Q⟩;dsimp only at c0 g Q ⊢;have K3:=Kp.ec s K2.w vY H z wx wy c c0;have G:=K2.trans K3
   by_cases hc:c<D.n.calls.toNat
   .have R :=aB (show(c:Int)<D.n.calls by omega)
    have hk4:(Fd.ec D x y wx wy Sk c).W.length=D.K.length:=by rw[G.l,Y]
    have A:=Ro D s (Fd.ec D x y wx wy Sk c) Q G.w hk4 H z hc (wx:=wx) (wy:=wy) (by rw[G.k _ (by omega) f1];exact m) (by rw[G.k _ (by omega) yf];exact u) (by rw[G.f];exact f1) (by rw[G.f];exact yf)
    obtain⟨r1,UB,A,rfl,p4,T,hS4⟩:=dh A;have X:=G.trans (Kp.enc s G.w hk4 H z hc wx wy);have B:=Ro D s _ hS4 X.w (by rw[X.l,Y]) z H hc (wx:=wy) (wy:=wx) (by rw[X.k _ (by omega) yf];exact u) (by rw[X.k _ (by omega) f1];exact m) (by rw[X.f];exact yf) (by rw[X.f];exact f1)
    obtain⟨r2,τ2,B,rfl,p5,hp5,hS5⟩:=dh B;rw[g.1]at A;rw[T.1,g.1]at B;simp[-ag,R, A,B];exact⟨by omega,az (c+1,p5,τ2) (by simp) rfl ⟨by dsimp only;omega,⟨hp5.1.trans (T.1.trans g.1),hp5.2.trans (T.2.trans g.2)⟩,hS5⟩ (by dsimp only;omega)⟩
   .have R :=dN (show ¬(c:Int)<D.n.calls by omega)
    have ec:c=D.n.calls.toNat:=by omega
    simp[-ag,R];refine⟨by omega,az (k+1,p3,UI) (by simp) rfl ⟨by dsimp only;omega,⟨g.1.trans a.1.symm,g.2.trans a.2.symm⟩,?_⟩ (by dsimp only;omega)⟩
    dsimp only;rw[P,<-ec];exact Q
  .have ek:k=S.N.length:=by omega
   subst ek;simp[-ag];exact⟨p2,⟨b.1.trans a.1,b.2.trans a.2⟩,d⟩
inductive Dv (D:Vd):Int->List Int->Prop
 |nil:Dv D 0 []
 |aH (x i:Int) (w:List Int):0<=i->i<D.n.af->Dv D x w->Dv D (D.im x i) (w ++ [D.n.calls+i])
 |ak (x c y r:Int) (w u:List Int):0<=c->c<D.n.calls->0<=r->r<D.n.aj->Dv D x w->Dv D y u->Dv D (D.bk x c y r) (w++c::(u ++ [D.n.calls+D.n.af+r]))
theorem Dv.fb(h:jr D){x:Int}(hd:Dv D x w):0<=x/\x<(D.K.length:Int):=by
 induction hd with
 |nil=>have:=h.k;omega
 |aH x i w U i1 _ ih=>
  have:=h.inl x.toNat (by omega)
  rw[show((x.toNat:Nat):Int)=x by omega]at this
  have hn:=h.n;exact this.2 _ (aO U (by omega))
 |ak x c y r w u c0 c1 r0 r1 _ _ V te=>
  have:=h.qA x.toNat c.toNat y.toNat (by omega) (by omega) (by omega)
  unfold Vd.bM Vd.row at this;rw[show((x.toNat:Nat):Int)=x by omega,show((c.toNat:Nat):Int)=c by omega,show((y.toNat:Nat):Int)=y by omega]at this
  have hr:=h.r;exact this.2 _ (aO r0 (by omega))
def kp (D:Vd) (x:Int) (w:List Int):Prop:=Dv D x w/\∀v,Dv D x v->aP w v<=0
structure ao8 (D:Vd) (n:Nat) (S:Fd):Prop where
 w:lJ S
 l:S.W.length=D.K.length
 dv:∀x w,0<=x->x<(D.K.length:Int)->ix S.W x=some w->Dv D x w
 fd:∀x,0<=x->x<(D.K.length:Int)->(ix S.F x=true↔∃w,kp D x w/\w.length<n)
 lw:∀x w,kp D x w->w.length<n->w.length<=1024->ix S.W x=some w
theorem Rp:∀{t u v:List Int},aP u v<0->aP (u++t) (v++t)<0
 | [],u,v,h=>by simpa using h
 |a::t,u,v,h=>by
  have:=Rp (t:=t) (Bw (a:=a) (b:=a) h);simpa using this
variable{u:List Int}
theorem ake{v:List Int}(h:aP u v<0):aP (w++u) (w++v)<0:=by
 unfold aP at h ⊢;simp only[aY]
 by_cases b:u.length<v.length
 .rw[ab (by omega)];omega
 .rw[aa b]at h
  by_cases a:v.length<u.length
  .rw[ab a]at h;omega
  .rw[aa a]at h
   rw[aa (by omega),aa (by omega),Bv rfl,w3,ab rfl]
   exact h
theorem kp.aH{x:Int}(U:0<=i) (i1:i<D.n.af) (hd:Dv D x w) (h:kp D (D.im x i) (w ++ [D.n.calls+i])):kp D x w:=
 ⟨hd,λv V=>cZ λhn=>by
  have h1:=h.2 _ (.aH x i v U i1 V);have h2:aP v w<0:=by have:=dE.gg v w;omega
  have h3:=Bw (a:=D.n.calls+i) (b:=D.n.calls+i) h2;have:=dE.gg (v ++ [D.n.calls+i]) (w ++ [D.n.calls+i]);omega⟩
theorem kp.ak{x c r:Int}(V:0<=c) (c1:c<D.n.calls) (r0:0<=r) (r1:r<D.n.aj) (hd:Dv D x w) (hu:Dv D y u) (h:kp D (D.bk x c y r) (w++c::(u ++ [D.n.calls+D.n.af+r]))):kp D x w/\kp D y u:=by
 refine⟨⟨hd,λv U=>cZ λhn=>?_⟩,⟨hu,λv U=>cZ λhn=>?_⟩⟩
 .have h1:=h.2 _ (.ak x c y r v u V c1 r0 r1 U hu)
  have h2:aP v w<0:=by have:=dE.gg v w;omega
  have h3:=Rp (t:=c::(u ++ [D.n.calls+D.n.af+r])) h2;have:=dE.gg (v++c::(u ++ [D.n.calls+D.n.af+r])) (w++c::(u ++ [D.n.calls+D.n.af+r]));omega
 .have h1:=h.2 _ (.ak x c y r w v V c1 r0 r1 hd U)
  have h2:aP v u<0:=by have:=dE.gg v u;omega
  have h3:=ake (w:=w ++ [c]) (Bw (a:=D.n.calls+D.n.af+r) (b:=D.n.calls+D.n.af+r) h2);rw[iw,iw]at h3;have h3:aP (w++c::(v ++ [D.n.calls+D.n.af+r])) (w++c::(u ++ [D.n.calls+D.n.af+r]))<0:=h3;have:=dE.gg (w++c::(v ++ [D.n.calls+D.n.af+r])) (w++c::(u ++ [D.n.calls+D.n.af+r]));omega
variable{z:Int}
theorem kp.made{t:List Int}(h:kp D z t):(z=0/\t=[])\/(∃x i w,0<=i/\i<D.n.af/\kp D x w/\z=D.im x i/\t=w ++ [D.n.calls+i])\/(∃x c y r w u,0<=c/\c<D.n.calls/\0<=r/\r<D.n.aj/\kp D x w/\kp D y u/\z=D.bk x c y r/\t=w++c::(u ++ [D.n.calls+D.n.af+r])):=by
 cases h.1 with
 |nil=>exact .inl ⟨rfl,rfl⟩
 |aH x i w U i1 hd=>exact .inr (.inl ⟨x,i,w,U,i1,kp.aH U i1 hd h,rfl,rfl⟩)
 |ak x c y r w u V c1 r0 r1 hd hu=>
  have:=kp.ak V c1 r0 r1 hd hu h;exact .inr (.inr ⟨x,c,y,r,w,u,V,c1,r0,r1,this.1,this.2,rfl,rfl⟩)
theorem kp.pO{t s:List Int}(h:kp D z t) (g:kp D z s):t=s:=by
 have h1:=h.2 _ g.1;have h2:=g.2 _ h.1;have:=dE.gg t s;exact dE.eq t s (by omega)
theorem Dv.sym(h:jr D){x:Int}(hd:Dv D x w):∀a∈w,0<=a/\a<D.n.calls+D.n.af+D.n.aj:=by
 have hc:=h.c;have hn:=h.n;have hr:=h.r
 induction hd with
 |nil=>simp
 |aH x i w i0 i1 _ ih=>
  intro a U;rcases dQ.1 U with U|U
  .exact ih a U
  .simp at U;omega
 |ak x c y r w u c0 c1 r0 r1 _ _ V te=>
  intro a U;simp only[dQ,b5,List.not_mem_nil,or_false]at U;rcases U with U|rfl|U|rfl
  .exact V a U
  .omega
  .exact te a U
  .omega
def pQ (S:Fd) (z:Int) (t:List Int):Prop:=1024<t.length\/ix S.F z=true\/∃v,ix S.W z=some v/\aP v t<=0
structure Mo (D:Vd) (S T:Fd):Prop where
 k:Kp S T
 o:∀z t,0<=z->z<(S.W.length:Int)->pQ S z t->pQ T z t
 dv:(∀z w,0<=z->z<(S.W.length:Int)->ix S.W z=some w->Dv D z w)->∀z w,0<=z->z<(S.W.length:Int)->ix T.W z=some w->Dv D z w
 bk:(∀z w,0<=z->z<(S.W.length:Int)->ix S.F z=false->ix S.W z=some w->z∈S.dG w.length)->∀z w,0<=z->z<(S.W.length:Int)->ix T.F z=false->ix T.W z=some w->z∈T.dG w.length
theorem Mo.refl(h:lJ S):Mo D S S:=⟨Kp.refl h,λ_ _ _ _ h=>h,λh=>h,λh=>h⟩
theorem Mo.trans(h:Mo D S T) (g:Mo D T U):Mo D S U:=by
 have e:=h.k.l;exact⟨h.k.trans g.k,λz t V z1 a=>g.o z t V (by rw[e];exact z1) (h.o z t V z1 a),λa z w V z1=>g.dv (λz w V z1=>h.dv a z w V (by rw[<-e];exact z1)) z w V (by rw[e];exact z1),λa z w V z1=>g.bk (λz w V z1=>h.bk a z w V (by rw[<-e];exact z1)) z w V (by rw[e];exact z1)⟩
theorem Rq(h:lJ S)(i:c.length<=1024) (j:ix S.F (x:Int)=false) (d:∀w,ix S.W (x:Int)=some w->0<aP w c):(S.off x c).W=S.W.set x (some c)/\∀m,(S.off x c).dG m=if sD (ix S.W (x:Int)) c=true/\m=c.length then S.dG m ++ [(x:Int)]else S.dG m:=by
 have e:=Il rfl d i j;have g:c.length<S.R.length:=by rw[h.r];omega
 by_cases b:sD (ix S.W (x:Int)) c=true
 .rw[ab b]at e
  rw[e];refine⟨rfl,λm=>?_⟩;have:=yB (S:={S with W:=S.W.set x (some c)}) (l:=S.dG c.length ++ [(x:Int)]) g m
  rw[show Fd.dG (Fd.oy {S with W:=S.W.set x (some c)} c.length x) m=if m=c.length then S.dG c.length ++ [(x:Int)]else S.dG m from this]
  by_cases em:m=c.length
  .rw[ab em,ab ⟨b,em⟩,em]
  .rw[aa em,aa λa=>em a.2]
 .rw[aa b]at e
  rw[e];exact⟨rfl,λm=>by rw[aa λa=>b a.1];rfl⟩
theorem Mo.off(h:lJ S)(hx:x<S.W.length)(hd:Dv D x c):Mo D S (S.off x c)/\pQ (S.off x c) x c:=by
 by_cases h1:1024<c.length\/ix S.F (x:Int)=true
 .have e:S.off x c=S:=ab h1
  rw[e];exact⟨Mo.refl h,h1.imp id λa=>.inl a⟩
 have hc:c.length<=1024:=by omega
 have hf:ix S.F (x:Int)=false:=by
  cases e:ix S.F (x:Int)with
  |false=>rfl
  |true=>exact absurd (.inr e) h1
 by_cases h2:∃w,ix S.W (x:Int)=some w/\aP w c<=0
 .have e:S.off x c=S:=by
   obtain⟨w,U,hle⟩:=h2;unfold Fd.off;rw[aa h1,U];exact ab hle
  rw[e];exact⟨Mo.refl h,.inr (.inr h2)⟩
 have Eo:∀w,ix S.W (x:Int)=some w->0<aP w c:=λw U=>cZ λhn=>h2 ⟨w,U,by omega⟩
 obtain⟨eW,eB⟩:=Rq h hc hf Eo;have eF:=(Ip (S:=S) (x:=x) (c:=c)).2.1;have k:=Kp.off h hx c;have UJ:∀z:Int,0<=z->ix (S.off x c).W z=if z=x then some c else ix S.W z:=λz V=>by rw[eW,qB hx V]
 refine⟨⟨k,λz t V z1 a=>?_,λa z w V z1 U=>?_,λa z w V z1 hfz U=>?_⟩,.inr (.inr ⟨c,by rw[UJ _ (by omega),ab rfl],Int.le_of_eq (dE.refl _)⟩)⟩
 .rcases a with a|a|⟨v,a,b⟩
  .exact .inl a
  .exact .inr (.inl (by rw[eF];exact a))
  .refine .inr (.inr ?_)
   rw[UJ z V]
   by_cases e:z=x
   .subst e
    rw[ab rfl];have h3:=Eo v a;have h4:=dE.gg c v;exact⟨c,rfl,dE.trans c v t (by omega) b⟩
   .rw[aa e]
    exact⟨v,a,b⟩
 .rw[UJ z V]at U
  split at U
  .rename_i e
   injection U with U
   rw[e,<-U];exact hd
  .exact a z w V z1 U
 .rw[eF]at hfz
  rw[UJ z V]at U;rw[eB];split at U
  .rename_i e
   injection U with U
   subst U
   by_cases hn:sD (ix S.W (x:Int)) c=true
   .rw[ab ⟨hn,rfl⟩,e];simp
   .rw[aa λa=>hn a.1]
    cases ho:ix S.W (x:Int)with
    |none=>rw[ho]at hn;exact absurd rfl hn
    |some o=>
     have h3:=Eo o ho;rw[ho]at hn;have h4:¬c.length<o.length:=by simpa[sD]using hn
     have h5:¬o.length<c.length:=λcL=>by unfold aP at h3;rw[ab cL]at h3;omega
     have:=a z o V z1 hfz (by rw[e];exact ho)
     rw[show c.length=o.length by omega];exact this
  .have:=a z w V z1 hfz U
   split
   .simp[this]
   .exact this
theorem Mo.enc{D:Vd}(hD:jr D){S:Fd}(h:lJ S) (hk:S.W.length=D.K.length){x c y:Nat}(hx:x<D.K.length) (hy:y<D.K.length) (hc:c<D.n.calls.toNat){wx wy:List Int}(d1:Dv D x wx) (d2:Dv D y wy):∀r:Nat,(r:Int)<=D.n.aj->Mo D S (Fd.enc D x c y wx wy S r)/\∀j:Nat,j<r->pQ (Fd.enc D x c y wx wy S r) (D.bk x c y j) (wx++(c:Int)::(wy ++ [D.n.calls+D.n.af+j]))
 |0,_=>⟨Mo.refl h,λj hj=>by omega⟩
 |r+1,hr=>by
  obtain⟨h1,h2⟩:=Mo.enc hD h hk hx hy hc d1 d2 r (by omega)
  have U:∀j:Nat,(j:Int)<D.n.aj->Dv D (D.bk x c y j) (wx++(c:Int)::(wy ++ [D.n.calls+D.n.af+j])):=λj hj=>.ak x c y j wx wy (by omega) (by omega) (by omega) hj d1 d2
  have hd:=U r (by omega)
  have hb:=hd.fb hD;obtain⟨g1,g2⟩:=Mo.off (D:=D) h1.k.w (x:=(D.bk x c y r).toNat) (by rw[h1.k.l,hk];omega) (c:=wx++(c:Int)::(wy ++ [D.n.calls+D.n.af+r])) (by rw[show(((D.bk x c y r).toNat:Nat):Int)=D.bk x c y r by omega];exact hd)
  rw[show(((D.bk x c y r).toNat:Nat):Int)=D.bk x c y r by omega]at g2
  refine⟨h1.trans g1,λj hj=>?_⟩
  by_cases e:j=r
  .subst e;exact g2
  .have V:=(U j (by omega)).fb hD
   exact g1.o _ _ V.1 (by rw[h1.k.l,hk];exact V.2) (h2 j (by omega))
theorem Mo.ei{D:Vd}(hD:jr D){S:Fd}(h:lJ S) (hk:S.W.length=D.K.length){x:Nat}{wx:List Int}(d1:Dv D x wx):∀i:Nat,(i:Int)<=D.n.af->Mo D S (Fd.ei D x wx S i)/\∀j:Nat,j<i->pQ (Fd.ei D x wx S i) (D.im x j) (wx ++ [D.n.calls+j])
 |0,_=>⟨Mo.refl h,λj hj=>by omega⟩
 |i+1,hi=>by
  obtain⟨h1,h2⟩:=Mo.ei hD h hk d1 i (by omega)
  have U:∀j:Nat,(j:Int)<D.n.af->Dv D (D.im x j) (wx ++ [D.n.calls+j]):=λj hj=>.aH x j wx (by omega) hj d1
  have hd:=U i (by omega)
  have hb:=hd.fb hD;obtain⟨g1,g2⟩:=Mo.off (D:=D) h1.k.w (x:=(D.im x i).toNat) (by rw[h1.k.l,hk];omega) (c:=wx ++ [D.n.calls+i]) (by rw[show(((D.im x i).toNat:Nat):Int)=D.im x i by omega];exact hd)
  rw[show(((D.im x i).toNat:Nat):Int)=D.im x i by omega]at g2
  refine⟨h1.trans g1,λj hj=>?_⟩
  by_cases e:j=i
  .subst e;exact g2
  .have V:=(U j (by omega)).fb hD
   exact g1.o _ _ V.1 (by rw[h1.k.l,hk];exact V.2) (h2 j (by omega))
theorem Mo.ec{D:Vd}(V:jr D){S:Fd}(h:lJ S) (U:S.W.length=D.K.length){x y:Nat}(hx:x<D.K.length) (hy:y<D.K.length){wx wy:List Int}(d1:Dv D x wx) (d2:Dv D y wy):∀c:Nat,c<=D.n.calls.toNat->Mo D S (Fd.ec D x y wx wy S c)/\∀j:Nat,j<c->∀r:Nat,(r:Int)<D.n.aj->pQ (Fd.ec D x y wx wy S c) (D.bk x j y r) (wx++(j:Int)::(wy ++ [D.n.calls+D.n.af+r]))/\pQ (Fd.ec D x y wx wy S c) (D.bk y j x r) (wy++(j:Int)::(wx ++ [D.n.calls+D.n.af+r]))
 |0,_=>⟨Mo.refl h,λj hj=>by omega⟩
 |c+1,hc=>by
  obtain⟨h1,h2⟩:=Mo.ec V h U hx hy d1 d2 c (by omega)
  have UD:=V.r;obtain⟨g1,g2⟩:=Mo.enc V h1.k.w (by rw[h1.k.l,U]) hx hy (show c<D.n.calls.toNat by omega) d1 d2 D.n.aj.toNat (by omega)
  have m1:=h1.trans g1;obtain⟨g3,g4⟩:=Mo.enc V m1.k.w (by rw[m1.k.l,U]) hy hx (show c<D.n.calls.toNat by omega) d2 d1 D.n.aj.toNat (by omega)
  refine⟨m1.trans g3,λj hj r hr=>?_⟩;have b1:=(Dv.ak x j y r wx wy (by omega) (by omega) (by omega) hr d1 d2).fb V
  have b2:=(Dv.ak y j x r wy wx (by omega) (by omega) (by omega) hr d2 d1).fb V
  by_cases e:j=c
  .subst e
   exact⟨g3.o _ _ b1.1 (by rw[m1.k.l,U];exact b1.2) (g2 r (by omega)),g4 r (by omega)⟩
  .obtain⟨q1,q2⟩:=h2 j (by omega) r hr
   exact⟨g3.o _ _ b1.1 (by rw[m1.k.l,U];exact b1.2) (g1.o _ _ b1.1 (by rw[h1.k.l,U];exact b1.2) q1),g3.o _ _ b2.1 (by rw[m1.k.l,U];exact b2.2) (g1.o _ _ b2.1 (by rw[h1.k.l,U];exact b2.2) q2)⟩
theorem Mo.ed{D:Vd}(U:jr D){S:Fd}(h:lJ S) (V:S.W.length=D.K.length){x:Nat}(hx:x<D.K.length){wx:List Int}(d1:Dv D x wx){wd:Int->List Int}{l:List Int}(hl:∀y∈l,(0<=y/\y<(D.K.length:Int))/\Dv D y (wd y)):∀k:Nat,k<=l.length->Mo D S (Fd.ed D x wx wd S l k)/\∀i:Nat,i<k->∀j:Nat,(j:Int)<D.n.calls->∀r:Nat,(r:Int)<D.n.aj->pQ (Fd.ed D x wx wd S l k) (D.bk x j (ix l (i:Int)) r) (wx++(j:Int)::(wd (ix l (i:Int)) ++ [D.n.calls+D.n.af+r]))/\pQ (Fd.ed D x wx wd S l k) (D.bk (ix l (i:Int)) j x r) (wd (ix l (i:Int))++(j:Int)::(wx ++ [D.n.calls+D.n.af+r]))
 |0,_=>⟨Mo.refl h,λj hj=>by omega⟩
 |k+1,wR=>by
  obtain⟨h1,h2⟩:=Mo.ed U h V hx d1 hl k (by omega)
  have Cz:=U.c;obtain⟨hy,dy⟩:=hl _ (aO (l:=l) (n:=(k:Int)) (by omega) (by omega))
  have ey:((((ix l (k:Int)).toNat):Nat):Int)=ix l (k:Int):=by omega
  obtain⟨g1,g2⟩:=Mo.ec U h1.k.w (by rw[h1.k.l,V]) hx (y:=(ix l (k:Int)).toNat) (by omega) d1 (wy:=wd (ix l (k:Int))) (by rw[ey];exact dy) D.n.calls.toNat (aT _)
  rw[ey]at g2;refine⟨h1.trans g1,λi hi j hj r hr=>?_⟩
  by_cases e:i=k
  .subst e
   exact g2 j (by omega) r hr
  .obtain⟨q1,q2⟩:=h2 i (by omega) j hj r hr
   have di:=(hl _ (aO (l:=l) (n:=(i:Int)) (by omega) (by omega))).2
   have b1:=(Dv.ak x j (ix l (i:Int)) r wx _ (by omega) hj (by omega) hr d1 di).fb U
   have b2:=(Dv.ak (ix l (i:Int)) j x r _ wx (by omega) hj (by omega) hr di d1).fb U
   exact⟨g1.o _ _ b1.1 (by rw[h1.k.l,V];exact b1.2) q1,g1.o _ _ b2.1 (by rw[h1.k.l,V];exact b2.2) q2⟩
theorem Mo.ext(hD:jr D)(h:lJ S) (hk:S.W.length=D.K.length)(hx:x<D.K.length)(yD:ix S.W (x:Int)=some wx) (d1:Dv D x wx) (hN:∀y∈S.N,(0<=y/\y<(D.K.length:Int))/\ix S.F y=true/\∃w,ix S.W y=some w/\Dv D y w) :
  Mo D S (Fd.ext D x S)/\(∀i:Int,0<=i->i<D.n.af->pQ (Fd.ext D x S) (D.im x i) (wx ++ [D.n.calls+i]))/\∀y∈S.N,∀wy,ix S.W y=some wy->∀c r:Int,0<=c->c<D.n.calls->0<=r->r<D.n.aj->pQ (Fd.ext D x S) (D.bk x c y r) (wx++c::(wy ++ [D.n.calls+D.n.af+r]))/\pQ (Fd.ext D x S) (D.bk y c x r) (wy++c::(wx ++ [D.n.calls+D.n.af+r])):=by
 have U:Fd.ext D x S=Fd.ed D x wx (λy=>(ix S.W y).getD []) (Fd.ei D x wx S D.n.af.toNat) S.N S.N.length:=by unfold Fd.ext;rw[yD];rfl
 rw[U];have Af:=hD.n;obtain⟨h1,h2⟩:=Mo.ei hD h hk d1 D.n.af.toNat (by omega)
 obtain⟨g1,g2⟩:=Mo.ed hD h1.k.w (by rw[h1.k.l,hk]) hx d1 (wd:=λy=>(ix S.W y).getD []) (l:=S.N) (λy hy=>by
  obtain⟨a,_,w,b,d⟩:=hN y hy;exact⟨a,by show Dv D y ((ix S.W y).getD []);rw[b];exact d⟩) S.N.length (aT _)
 refine⟨h1.trans g1,λi i0 i1=>?_,λy hy wy UK c r c0 c1 r0 r1=>?_⟩
 .have b:=(Dv.aH x i wx i0 i1 d1).fb hD
  have:=h2 i.toNat (by omega)
  rw[show((i.toNat:Nat):Int)=i by omega]at this
  exact g1.o _ _ b.1 (by rw[h1.k.l,hk];exact b.2) this
 .obtain⟨k,V,rfl⟩:=fu.1 hy
  have e:=aG V;have:=g2 k V c.toNat (by omega) r.toNat (by omega)
  rw[show((c.toNat:Nat):Int)=c by omega,show((r.toNat:Nat):Int)=r by omega,e]at this
  rw[UK]at this;exact this
end Ab
