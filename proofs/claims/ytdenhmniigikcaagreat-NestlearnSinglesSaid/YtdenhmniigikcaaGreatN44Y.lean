/- slices.Concat of words that are given in some way; and what it leans on. Condition: none. -/
import Derived.Test.YtdenhmniigikcaaGreatBfsOrd
import Derived.Test.YtdenhmniigikcaaGreatN44P
set_option linter.all false
set_option maxRecDepth 100000
set_option maxHeartbeats 4000000
namespace Ab
def fT{a:Type}(g:a->List Int) (ps:List a):List Int:=ps.flatMap g
variable{α:Type}{i:Int}
def Ky [Inhabited α]{g:α->List Int}{ps:List α}(a:0<=i) (b:i<ps.length):fT g (ps.take (i+1).toNat)=fT g (ps.take i.toNat)++g (ix ps i):=by
 have e:ps.take (i+1).toNat=ps.take i.toNat ++ [ix ps i]:=by
  rw[show(i+1).toNat=i.toNat+1 by omega,nh,mw a b]
  rfl
 rw[e];simp[fT]
def Af{g:α->List Int}{ps:List α}(i:Nat):(fT g (ps.take i)).length<=(fT g ps).length:=by
 have:fT g ps=fT g (ps.take i)++fT g (ps.drop i):=by
  unfold fT;rw[<-List.flatMap_append,nm]
 rw[this];simp
def am0 [Inhabited α]{f:α->AV}{g:α->List Int}(w:∀p,f p = .ag/\g p=[]\/∃b,f p = .aF b ((g p).map .int)) (ps:List α) (A:(ps.length:Int)<=1000000) (h:((fT g ps).length:Int)<=1000000):PC w6 [.aF false (ps.map f)]=some (iL (fT g ps)):=by
 refine bZ (Rp rfl ?_);simp;refine aK (λi:Int=>[(1,.int i),(4,.int ((fT g (ps.take i.toNat)).length:Int))]) (λ_=>[]) (λi=>0<=i/\i<=ps.length) (λi=>(ps.length-i).toNat) 0 rfl ab λi ⟨x,i1⟩=>?_
 by_cases r:i<ps.length
 .have e:=Ky (g:=g) x r
  have C:=Af (g:=g) (ps:=ps) i.toNat;have m:=Af (g:=g) (ps:=ps) (i+1).toNat;rw[e]at m;simp at m;rcases w (ix ps i)with⟨d,s⟩|⟨q,d⟩
  .simp[-aj,r,x,d]
   refine⟨aa,aa,aD (i+1) (by simp[e,s]) rfl ⟨aa,aa⟩ aa⟩
  .simp[-aj,r,x,d]
   refine⟨aa,aa,λ_=>⟨aa,aD (i+1) ft rfl ⟨aa,aa⟩ aa⟩⟩
 .have C9:ps.take i.toNat=ps:=eZ aa
  rw[C9]
  by_cases D:(fT g ps).length=0
  .have B:fT g ps=[]:=dY D
   simp[-aj,r,B,S6,js];refine aK (λi:Int=>[(6,.int i)]) (λ_=>[]) (λi=>0<=i/\i<=ps.length) (λi=>(ps.length-i).toNat) 0 rfl ab λj ⟨o,E⟩=>?_
   by_cases l:j<ps.length
   .have y:g (ix ps j)=[]:=by
     have:=Ky (g:=g) o l;have m:=Af (g:=g) (ps:=ps) (j+1).toNat;rw[this]at m;simp at m;exact dY aa
    rcases w (ix ps j)with⟨d,s⟩|⟨q,d⟩
    .simp[l,o,d];omega
    .rw[y]at d
     simp[l,o,d];omega
   .simp[l]
  .have F:=S5 (fT g ps).length aa aa
   simp[-aj,-List.map_replicate,r,F,js,gH,S4];refine aK (λi:Int=>[(6,.int i),(9,.sl 0 (fT g ps).length 0 (fT g (ps.take i.toNat)).length)]) (λi=>[⟨none,(fT g (ps.take i.toNat)).map .int++List.replicate ((fT g ps).length-(fT g (ps.take i.toNat)).length) (.int 0),.live⟩]) (λi=>0<=i/\i<=ps.length) (λi=>(ps.length-i).toNat) 0 (by simp[du,fT]) ab λj ⟨o,E⟩=>?_
   by_cases l:j<ps.length
   .have e:=Ky (g:=g) o l
    have C:=Af (g:=g) (ps:=ps) j.toNat;have m:=Af (g:=g) (ps:=ps) (j+1).toNat;rw[e]at m;simp at m;have A:=S7 (a:=fT g (ps.take j.toNat)) (b:=g (ix ps j)) (n:=(fT g ps).length) m;have done:g (ix ps j)=[]->fT g (ps.take (j+1).toNat)=fT g (ps.take j.toNat):=λh=>by rw[e,h];simp
    rcases w (ix ps j)with⟨d,s⟩|⟨q,d⟩
    .simp[-aj,-List.map_replicate,l,o,d]
     refine⟨aa,aa,aa,aD (j+1) (by simp[done s]) (by simp only[done s]) ⟨aa,aa⟩ aa⟩
    .by_cases u:g (ix ps j)=[]
     .rw[u]at d
      simp[-aj,-List.map_replicate,l,o,d];refine⟨aa,aa,aa,aD (j+1) (by simp[done u]) (by simp only[done u]) ⟨aa,aa⟩ aa⟩
     .have G:0<(g (ix ps j)).length:=mR.2 u
      simp[-aj,-List.map_replicate,l,o,d,u];refine⟨aa,aa,λB=>aa,λ_=>⟨aa,aa,aD (j+1) ft (by simp only[e,aU];rw[<-A]) ⟨aa,aa⟩ aa⟩⟩
   .have z:ps.take j.toNat=ps:=eZ aa
    rw[z];have H:=nU (σ:=[⟨none,(fT g ps).map .int,.live⟩]) (fr:=false) (b:=0) (xs:=fT g ps) (st:=.live) rfl ab rfl
    simp[l,H]
inductive Tf where
 |f|wo|fd|rd|dn
 |bk (n:Nat)
 deriving DecidableEq
def oP:Option (List Int)->AV
 |none=>.ag
 |some w=>.aF true (w.map .int)
structure Fd where
 W:List (Option (List Int))
 F:List Bool
 R:List (List Int)
 N:List Int
def Fd.dR (S:Fd) (n:Nat):List Int:=ix S.R (n:Int)
def Fd.cont (S:Fd) (va:AV) (p:Tf->Nat):Tf->Option al
 |.f=>some ⟨some 5,[va,.sl (p .wo) S.W.length 0 S.W.length,.sl (p .fd) S.F.length 0 S.F.length,.sl (p .rd) S.R.length 0 S.R.length,cu (p .dn) S.N.length],.live⟩
 |.wo=>some ⟨none,S.W.map oP,.live⟩
 |.fd=>some ⟨none,S.F.map .bool,.live⟩
 |.rd=>some ⟨none,(List.range S.R.length).map λn=>cu (p (.bk n)) (S.dR n).length,.live⟩
 |.dn=>if S.N=[]then none else some (Zb S.N)
 |.bk n=>if n<S.R.length/\S.dR n ≠ []then some (Zb (S.dR n))else none
structure FS (S:Fd) (va:AV) (p:Tf->Nat) (σ:List al):Prop where
 has:∀t B,S.cont va p t=some B->aq σ (p t)=some B
 inj:∀t u A B,S.cont va p t=some A->S.cont va p u=some B->p t=p u->t=u
variable{S:Fd}{va:AV}{p:Tf->Nat}{σ:List al}{t:Tf}{A B:al}
def FS.ne(h:FS S va p σ){u:Tf}(ht:S.cont va p t=some A) (hu:S.cont va p u=some B) (hn:t ≠ u):p t ≠ p u:=λe=>hn (h.inj t u A B ht hu e)
def FS.lt(h:FS S va p σ)(ht:S.cont va p t=some A):p t<σ.length:=cU (h.has t A ht)
variable{p': Tf->Nat}{τ:List al}
def FS.step{D D' : Fd}{p: Tf->Nat}(h:FS D va p σ) (Ch:Tf->Prop)
  (h1:∀t,¬Ch t->D'.cont va p' t=D.cont va p t/\p' t=p t)
  (h2:∀t B,Ch t->D'.cont va p' t=some B->aq τ (p' t)=some B)
  (h3:∀t B,¬Ch t->D.cont va p t=some B->aq τ (p t)=some B)
  (h4:∀t B,Ch t->D'.cont va p' t=some B->((∃A,D.cont va p t=some A)/\p' t=p t)\/σ.length<=p' t)
  (h5:∀t u,Ch t->Ch u->σ.length<=p' t->p' t=p' u->t=u):FS D' va p' τ:=by
 have key:∀t B,D'.cont va p' t=some B->((∃A,D.cont va p t=some A)/\p' t=p t)\/(Ch t/\σ.length<=p' t):=λt B hB=>by
  by_cases hc:Ch t
  .exact(h4 t B hc hB).imp id λq=>⟨hc,q⟩
  .obtain⟨e1,e2⟩:=h1 t hc
   rw[e1]at hB;exact .inl ⟨⟨B,hB⟩,e2⟩
 refine⟨λt B hB=>?_,λt u A B hA hB e=>?_⟩
 .by_cases hc:Ch t
  .exact h2 t B hc hB
  .obtain⟨e1,e2⟩:=h1 t hc
   rw[e1]at hB;rw[e2];exact h3 t B hc hB
 .rcases key t A hA with⟨⟨A', uY⟩,e1⟩|⟨c1,e1⟩
  .rcases key u B hB with⟨⟨B', xY⟩,e2⟩|⟨c2,e2⟩
   .exact h.inj t u A' B' uY xY (by rw[<-e1,<-e2];exact e)
   .have:=h.lt uY; omega
  .rcases key u B hB with⟨⟨B', xY⟩,e2⟩|⟨c2,e2⟩
   .have:=h.lt xY; omega
   .exact h5 t u c1 c2 e1 e
def PE (p p' : Tf->Nat):Prop:=p' .f=p .f/\p' .dn=p .dn
def FS.more(h:FS S va p σ) (hb:∀b,b<σ.length->aq τ b=aq σ b):FS S va p τ:=
 ⟨λt B hB=>by rw[hb _ (h.lt hB)];exact h.has t B hB,h.inj⟩
def xp:Bool×Option (List Int)->AV
 |(_,none)=>.ag
 |(b,some w)=>.aF b (w.map .int)
def ct (ps:List (Bool×Option (List Int))):List Int:=ps.flatMap λo=>o.2.getD []
variable{ps:List (Bool×Option (List Int))}
def am1{o:Bool×Option (List Int)}:ct (ps ++ [o])=ct ps++o.2.getD []:=by simp[ct]
def Kz:IC:=(.seq (.cF Sf)
 (.cond 76 (.cF JU) .skip))
def KA:IC:=(.seq (.cF Se) Kz)
def KB:IC:=(.seq (.seq (.cF Sd)
 (.cond 61 .ret .skip)) KA)
def am2:IC:=(.seq (.seq (.cF JT) (.ji 9)) KB)
def XO:IC:=(.seq (.seq (.cF Sc)
 (.cond 49 .ret .skip)) am2)
structure KC (S:Fd):Prop where
 f:S.F.length=S.W.length
 r:S.R.length=1025
 n:S.W.length<=512
 b:∀n,(S.dR n).length<=100000
variable{x:Nat}{b:Bool}
def am3 (S:Fd)(h:FS S va p σ) (z:KC S)(l:x<S.W.length) (ps:List (Bool×Option (List Int))) (m:(ct ps).length<=5000) (n:ps.length<=10){K:AV->List al->Prop}
  (r:WK L XO [.ptr (p .f) 5 0,.int x,.aF b (ps.map xp),.aO,.aO,.aO,.int (ct ps).length,.aO,oP (ix S.W (x:Int)),.aO] none σ (ie tt K)):LX L uT [.ptr (p .f) 5 0,.int x,.aF b (ps.map xp)] σ K:=by
 refine ajv rfl ?_;have s:=h.has .f _ rfl;have g:=h.has .wo _ rfl;show WK L (.seq (.cF R8)
 (.seq (.seq (.cF R9)
 (.block 0 (.loop Sa)))
 (.seq (.cF Sb) XO))) _ none σ _
 simp[-aj];refine aK (λk:Nat=>[(3,.int k),(6,.int (ct (ps.take k)).length)]) (λ_=>σ) (λk=>k<=ps.length) (λk=>ps.length-k) 0 (by simp[du,ct]) aa ?_
 intro k A
 by_cases i:k<ps.length
 .have tk:ps.take (k+1)=ps.take k ++ [ix ps (k:Int)]:=gx i
  have a:=am1 (ps:=ps.take k) (o:=ix ps (k:Int));have hle:(ct (ps.take (k+1))).length<=(ct ps).length:=by
   have e:ct ps=ct (ps.take (k+1))++ct (ps.drop (k+1)):=by unfold ct;rw[<-List.flatMap_append,nm]
   rw[e];simp
  rw[tk,a,aU]at hle;have u:=az (show(k:Int)<(ps.length:Int)by omega)
  rcases d:ix ps (k:Int)with⟨q,_|w⟩
  .rw[d]at a hle
   have j:ix (ps.map xp) (k:Int) = .ag:=by rw[iR aa aa,d];rfl
   simp[-aj,i,j,d,xp];exact⟨aa,aa,aD (k+1) (by rw[tk,d,a];simp) rfl aa aa⟩
  .rw[d]at a hle
   simp at hle;simp[-aj,i,d,xp];exact⟨aa,aa,aD (k+1) (by rw[tk,d,a];simp) rfl aa aa⟩
 .have y:k=ps.length:=by omega
  subst y;simp[-aj,s,g,l];exact r
def Fd.off (S:Fd) (x:Nat) (c:List Int):Fd:=
 if 1024<c.length\/ix S.F (x:Int)=true then S
 else match ix S.W (x:Int)with
  |none=>{S with W:=S.W.set x (some c),R:=S.R.set c.length (S.dR c.length ++ [(x:Int)])}
  |some o=>if aI o c<=0 then S else {S with W:=S.W.set x (some c),R:=if c.length<o.length then S.R.set c.length (S.dR c.length ++ [(x:Int)])else S.R}
theorem am4:ct ps=fT (λo=>o.2.getD []) ps:=rfl
def am5 (ps:List (Bool×Option (List Int))) (a:ps.length<=10) (h:(ct ps).length<=5000):PC w6 [.aF false (ps.map xp)]=some (iL (ct ps)):=
 am0 (f:=xp) (g:=λo=>o.2.getD []) (λo=>by
  rcases o with⟨q,_|w⟩
  .exact .inl ⟨rfl,rfl⟩
  .exact .inr ⟨q,rfl⟩) ps aa (by rw[<-am4];omega)
def Ui{b:Nat}(i:ps.length<=10) (d:(ct ps).length<=5000){q:Bool}{o:AV}{R:IC}{Q:Ex->St->Prop}
  (h:∀τ,(∀c,c<σ.length->aq τ c=aq σ c)->WK L R [.ptr b 5 0,.int x,.aO,.aO,.aO,.aO,.int (ct ps).length,.aO,o,.aF true ((ct ps).map .int)] none τ Q) :
  WK L (.seq (.seq (.cF JT) (.ji 9)) R) [.ptr b 5 0,.int x,.aF q (ps.map xp),.aO,.aO,.aO,.int (ct ps).length,.aO,o,.aO] none σ Q:=by
 have e:=am5 ps i d
 by_cases a:ct ps=[]
 .rw[a]at e h ⊢
  simp[-aj,e];refine⟨0,.eQ,_,rfl,?_⟩;have:=h (bG (λb=>([]:List Nat).contains b) 0 σ) λc _=>by rw[lL];cases aq σ c<;>rfl
  exact this
 .simp[-aj,e,a]
  refine⟨aa,?_⟩
  refine qD (b:=σ.length) (l:=ct ps) ?_ rfl rfl ?_
  .have:=gU (Q:=σ) (r:=[]) (B:=bp (ct ps))
   unfold bp at this;rw[ad a]at this;unfold bp;rw[ad a];exact this
  have:=h (ar (σ ++ [⟨none,(ct ps).map .int,.live⟩]) σ.length ⟨none,(ct ps).map .int,.dead⟩) λc g=>by
   rw[aA aa]
   rw[bE,bE,eJ g]
  rw[show decide (ct ps ≠ [])=true from mf a];exact this
def am6 (S:Fd)(h:FS S va p σ) (D:KC S)(E:x<S.W.length) (ps:List (Bool×Option (List Int))) (s:(ct ps).length<=5000) (u:ps.length<=10) (G:∀o,ix S.W (x:Int)=some o->o.length<=1024)
  (C:∀τ o,FS S va p τ->ix S.W (x:Int)=o->(∀w,o=some w->0<aI w (ct ps))->(ct ps).length<=1024->ix S.F (x:Int)=false->WK L KA [.ptr (p .f) 5 0,.int x,.aO,.aO,.aO,.aO,.int (ct ps).length,.aO,oP o,.aF true ((ct ps).map .int)] none τ (ie tt λr τ=>r = .bM []/\∃p', PE p p' /\FS (S.off x (ct ps)) va p' τ)) :
  WK L XO [.ptr (p .f) 5 0,.int x,.aF b (ps.map xp),.aO,.aO,.aO,.int (ct ps).length,.aO,oP (ix S.W (x:Int)),.aO] none σ (ie tt λr τ=>r = .bM []/\∃p', PE p p' /\FS (S.off x (ct ps)) va p' τ):=by
 have m:=h.has .f _ rfl;have H:=h.has .wo _ rfl;have d:=h.has .fd _ rfl;have g:=az (show x<S.F.length by rw[D.f];exact E)
 unfold XO
 by_cases I:1024<(ct ps).length
 .have a :=az (show(1024:Int)<((ct ps).length:Int)by omega)
  have e:S.off x (ct ps)=S:=ae (.inl I);rw[e];cases n:ix S.W (x:Int)with
  |none=>
   simp[-aj,a, m,d,g,oP];exact⟨p,⟨rfl,rfl⟩,h⟩
  |some o=>
   simp[-aj,a, m,d,g,oP];exact⟨p,⟨rfl,rfl⟩,h⟩
 have a :=bX (show ¬(1024:Int)<((ct ps).length:Int)by omega)
 by_cases A:ix S.F (x:Int)=true
 .have e:S.off x (ct ps)=S:=ae (.inr A)
  rw[e];cases n:ix S.W (x:Int)with
  |none=>
   simp[-aj,a, m,d,g,oP,A];exact⟨p,⟨rfl,rfl⟩,h⟩
  |some o=>
   simp[-aj,a, m,d,g,oP,A];exact⟨p,⟨rfl,rfl⟩,h⟩
 have i : ix S.F (x:Int)=false:=by simpa using A
 cases n:ix S.W (x:Int)with
 |none=>
  simp[-aj,a, m,d,g,oP,i];refine Ui u s λτ q=>?_;have B:=h.more q;unfold KB;simp[-aj];exact C τ none B n (λw h=>eX) aa i
 |some o=>
  have J:=G o n;have y:PC pB [.aF false (o.map .int),.aF false ((ct ps).map .int)]=some (.int (aI o (ct ps))):=Dl o (ct ps) aa aa
  by_cases z:o.length<(ct ps).length
  .have j :=az z
   have e:S.off x (ct ps)=S:=by
    unfold Fd.off;rw[ad (by simp[i];omega),n]
    simp only;rw[ae];unfold aI;rw[ae aa]
    omega
   rw[e];simp[-aj,a, m,d,g,oP,i, j];exact⟨p,⟨rfl,rfl⟩,h⟩
  .have j :=bX z
   simp[-aj,a, m,d,g,oP,i, j];refine Ui u s λτ q=>?_;have B:=h.more q;unfold KB
   by_cases hle:aI o (ct ps)<=0
   .have e:S.off x (ct ps)=S:=by
     unfold Fd.off;rw[ad (by simp[i];omega),n]
     exact ae hle
    rw[e];have l :=az hle;simp[-aj,y,l];exact⟨p,⟨rfl,rfl⟩,B⟩
   .have l :=bX hle
    simp[-aj,y,l];exact C τ (some o) B n (λw h=>by injection h with h;subst h;omega) aa i
variable{o:Option (List Int)}
def FS.word(h:FS S va p σ):FS {S with W:=S.W.set x o} va p (ar σ (p .wo) ⟨none,(S.W.map oP).set x (oP o),.live⟩):=by
 refine h.step (λt=>t = .wo) (λt ht=>⟨?_,rfl⟩) (λt B ht hB=>?_) (λt B ht hB=>?_) (λt B ht hB=>.inl ⟨⟨_,by subst ht;rfl⟩,rfl⟩) λt u ht hu _ _=>by rw[ht,hu]
 .cases t with
  |wo=>exact absurd rfl ht
  |f=>simp[Fd.cont]
  |_=>rfl
 .subst ht
  have:Fd.cont {S with W:=S.W.set x o} va p .wo=some ⟨none,(S.W.map oP).set x (oP o),.live⟩:=by simp[Fd.cont,o8]
  rw[this]at hB;rw[bU (h.lt (t:=.wo) rfl)];exact hB
 .rw[aA (h.ne (t:=.wo) rfl hB (Ne.symm ht))]
  exact h.has t B hB
variable{n:Nat}{l:List Int}
def Ag(a:n<S.R.length) (m:Nat):Fd.dR {S with R:=S.R.set n l} m=if m=n then l else S.dR m:=jm a m
def FS.push{p: Tf->Nat}(h:FS S va p σ)(hn:n<S.R.length) (hl:l ≠ []) (hp:∀t,t ≠ .bk n->p' t=p t)
  (h2:aq τ (p' (.bk n))=some (Zb l)) (yz : aq τ (p .rd)=some ⟨none,((List.range S.R.length).map λm=>cu (p (.bk m)) (S.dR m).length).set n (.sl (p' (.bk n)) l.length 0 l.length),.live⟩)
  (h3:∀t B,t ≠ .rd->t ≠ .bk n->S.cont va p t=some B->aq τ (p t)=some B)
  (h4:(S.dR n ≠ []/\p' (.bk n)=p (.bk n))\/σ.length<=p' (.bk n)):FS {S with R:=S.R.set n l} va p' τ:=by
 have hlen:(S.R.set n l).length=S.R.length:=ab
 have J8:Fd.cont {S with R:=S.R.set n l} va p' .rd=some ⟨none,((List.range S.R.length).map λm=>cu (p (.bk m)) (S.dR m).length).set n (.sl (p' (.bk n)) l.length 0 l.length),.live⟩:=by
  show some (⟨none,(List.range (S.R.set n l).length).map λm=>cu (p' (.bk m)) (Fd.dR {S with R:=S.R.set n l} m).length,.live⟩:al)=_
  rw[hlen]
  congr 2
  apply me ab
  intro i h1 _;simp at h1;rw[qn];simp only[lI,List.getElem_range,Ag hn]
  by_cases e:n=i
  .subst e
   rw[ae rfl,ae rfl];exact ad λe=>hl (dY e)
  .rw[ad e,ad (Ne.symm e),hp _ (by simp;exact λe' =>e e'.symm)]
 have vV:Fd.cont {S with R:=S.R.set n l} va p' (.bk n)=some (Zb l):=by
  show(if n<(S.R.set n l).length/\Fd.dR {S with R:=S.R.set n l} n ≠ []then some (Zb (Fd.dR {S with R:=S.R.set n l} n))else none)=_
  rw[Ag hn,ae rfl,hlen,ae ⟨hn,hl⟩]
 refine h.step (λt=>t = .rd\/t = .bk n) (λt ht=>?_) (λt B ht hB=>?_) (λt B ht hB=>h3 t B (λe=>ht (.inl e)) (λe=>ht (.inr e)) hB) (λt B ht hB=>?_) λt u ht hu cm e=>?_
 .have t1:t ≠ .rd:=λe=>ht (.inl e)
  have t2:t ≠ .bk n:=λe=>ht (.inr e);refine⟨?_,hp t t2⟩;cases t with
  |rd=>exact absurd rfl t1
  |f=>simp[Fd.cont,hp]
  |bk m=>
   have hm:m ≠ n:=λe=>t2 eD
   show(if m<(S.R.set n l).length/\Fd.dR {S with R:=S.R.set n l} m ≠ []then some (Zb (Fd.dR {S with R:=S.R.set n l} m))else none)=if m<S.R.length/\S.dR m ≠ []then some (Zb (S.dR m))else none
   rw[hlen,Ag hn,ad hm]
  |_=>rfl
 .rcases ht with rfl|rfl
  .rw[J8]at hB;rw[hp _ ab,yz];exact hB
  .rw[vV]at hB;rw[h2];exact hB
 .rcases ht with rfl|rfl
  .exact .inl ⟨⟨_,rfl⟩,hp _ ab⟩
  .exact h4.imp (λq=>⟨⟨_,ae ⟨hn,q.1⟩⟩,q.2⟩) id
 .have q:=h.lt (t:=.rd) rfl
  rcases ht with rfl|rfl
  .rw[hp _ ab]at cm;omega
  .rcases hu with rfl|rfl
   .rw[hp .rd ab]at e;omega
   .rfl
def uf (o:Option (List Int)) (c:List Int):Bool:=match o with
 |none=>true
 |some w=>decide (c.length<w.length)
def Fd.pI (S:Fd) (n x:Nat):Fd:={S with R:=S.R.set n (S.dR n ++ [(x:Int)])}
variable{w:List Int}
def am7 (S:Fd)(h:FS S va p σ) (I:KC S)(o:Option (List Int))(O:n=w.length) (P:n<=1024) (s:Fd) (g:s=if uf o w=true then S.pI n x else S) :
  WK L Kz [.ptr (p .f) 5 0,.int x,.aO,.aO,.aO,.aO,.int n,.aO,oP o,.aO] none σ (ie tt λr τ=>r = .bM []/\∃p', PE p p' /\FS s va p' τ):=by
 unfold Kz;have y:=h.has .f _ rfl;have l:=h.has .rd _ rfl;subst O;have a:w.length<S.R.length:=by have:=I.r;omega
 have go:uf o w=true->WK L (.cF JU) [.ptr (p .f) 5 0,.int x,.aO,.aO,.aO,.aO,.int w.length,.aO,.aO,.aO] none σ (ie tt λr τ=>r = .bM []/\∃p', PE p p' /\FS s va p' τ):=λT=>by
  rw[ae T]at g;subst g;have W:=I.b w.length;have z:ix (List.range S.R.length) (w.length:Int)=w.length:=by rw[aB iJ];simp
  have J:ix (List.range S.R.length) (0+(w.length:Int)*1)=w.length:=by rw[<-z];congr 1;omega
  have K:S.dR w.length ++ [(x:Int)] ≠ []:=ab
  have U:=h.lt (t:=.rd) rfl;have X:=h.lt (t:=.f) rfl
  by_cases i:S.dR w.length=[]
  .have A:cu (p (.bk w.length)) (S.dR w.length).length = .ag:=by rw[i];rfl
   have C:∀B:al,aq (σ ++ [B]) (p .f)=_:=λB=>gz (r:=[B]) y;have D:∀B:al,aq (σ ++ [B]) (p .rd)=_:=λB=>gz (r:=[B]) l;simp[-aj,y,l,z,J,A,a,C,D];refine⟨aa,λt=>if t = .bk w.length then σ.length else p t,⟨ab,ab⟩,?_⟩
   have E:∀t,t ≠ Tf.bk w.length->(λt=>if t=Tf.bk w.length then σ.length else p t) t=p t:=λt V=>ad V
   have q:(λt=>if t=Tf.bk w.length then σ.length else p t) (.bk w.length)=σ.length:=ae rfl
   generalize (λt=>if t=Tf.bk w.length then σ.length else p t)=p' at *
   have F:p .rd<(σ ++ [(⟨none,[AV.int x],.live⟩:al)]).length:=ax
   refine h.push a K E ?_ ?_ (λt B G M m=>?_) (.inr aa)
   .rw[q,aA aa,gU,i];rfl
   .rw[bU F,q,show(AV.sl σ.length 1 0 1).cells=[AV.sl σ.length 1 0 1]from rfl,lP,i];rfl
   .rw[aA (h.ne (t:=.rd) rfl m (Ne.symm G))];exact gz (h.has t B m)
  .have A:cu (p (.bk w.length)) (S.dR w.length).length = .sl (p (.bk w.length)) (S.dR w.length).length 0 (S.dR w.length).length:=ad λe=>i (dY e)
   have H:=h.has (.bk w.length) _ (ae ⟨a,i⟩);have N:p (.bk w.length) ≠ p .rd:=h.ne (t:=.bk w.length) (u:=.rd) (ae ⟨a,i⟩) rfl ab
   have b1:∀(Q:List al) B,aq (ar Q (p (.bk w.length)) B) (p .rd)=aq Q (p .rd):=λQ B=>aA N;simp[-aj,y,l,z,J,A,a,H,b1];refine⟨aa,aa,p,⟨rfl,rfl⟩,?_⟩
   have F:=h.lt (t:=.bk w.length) (ae ⟨a,i⟩);refine h.push a K (λ_ _=>rfl) ?_ ?_ (λt B G M m=>?_) (.inl ⟨i,rfl⟩)
   .rw[aA N.symm,bU F];simp
   .rw[bU (by rw[aY];exact U),show(AV.sl (p (.bk w.length)) ((S.dR w.length).length+1) 0 ((S.dR w.length).length+1)).cells=[AV.sl (p (.bk w.length)) ((S.dR w.length).length+1) 0 ((S.dR w.length).length+1)]from rfl,lP]
    simp
   .rw[aA (h.ne (t:=.rd) rfl m (Ne.symm G)),aA (h.ne (t:=.bk w.length) (ae ⟨a,i⟩) m (Ne.symm M))];exact h.has t B m
 cases o with
 |none=>
  have:=go rfl;simp[-aj,oP]at this ⊢;exact this
 |some u=>
  by_cases j:w.length<u.length
  .have d :=az j
   have:=go (by simpa[uf]using j)
   simp[-aj,oP,d]at this ⊢;exact this
  .have d :=bX j
   rw[ad (by simpa[uf]using j)]at g
   subst g;simp[-aj,oP,d];exact⟨p,⟨rfl,rfl⟩,h⟩
def iq:List Int->List Bool->List Int×List Bool
 | [],F=>([],F)
 |x::l,F=>if ix F x=true then iq l F else((x::(iq l (F.set x.toNat true)).1),(iq l (F.set x.toNat true)).2)
def KD:∀(l:List Int) (x:Int) (F:List Bool),iq (l ++ [x]) F=if ix (iq l F).2 x=true then iq l F else((iq l F).1 ++ [x],(iq l F).2.set x.toNat true)
 | [],x,F=>by
  show(if ix F x=true then([],F)else([x],F.set x.toNat true))=_
  by_cases e:ix F x=true<;>simp[e,iq]
 |a::l,x,F=>by
  simp only[jD,iq];split
  .exact KD l x F
  .rw[KD l x _]
   split
   .rfl
   .rfl
def Ah:∀(l:List Int) (F:List Bool),(iq l F).2.length=F.length/\(iq l F).1.length<=l.length
 | [],F=>⟨rfl,bd _⟩
 |a::l,F=>by
  simp only[iq];split
  .have:=Ah l F;exact⟨this.1,ax⟩
  .have:=Ah l (F.set a.toNat true);exact⟨by simpa using this.1,ax⟩
variable{F:List Bool}
def FS.found(h:FS S va p σ)(hl:F.length=S.F.length):FS {S with F:=F} va p (ar σ (p .fd) ⟨none,F.map .bool,.live⟩):=by
 refine h.step (λt=>t = .fd) (λt ht=>⟨?_,rfl⟩) (λt B ht hB=>?_) (λt B ht hB=>?_) (λt B ht hB=>.inl ⟨⟨_,by subst ht;rfl⟩,rfl⟩) λt u ht hu _ _=>by rw[ht,hu]
 .cases t with
  |fd=>exact absurd rfl ht
  |f=>simp[Fd.cont,hl]
  |_=>rfl
 .subst ht
  have:Fd.cont {S with F:=F} va p .fd=some ⟨none,F.map .bool,.live⟩:=rfl
  rw[this]at hB;rw[bU (h.lt (t:=.fd) rfl)];exact hB
 .rw[aA (h.ne (t:=.fd) rfl hB (Ne.symm ht))]
  exact h.has t B hB
def FS.Ai(h:FS S va p σ){b:Nat}(hb:∀t A,S.cont va p t=some A->p t ≠ b):FS S va p (ar σ b B):=
 ⟨λt A hA=>by rw[aA (Ne.symm (hb t A hA))];exact h.has t A hA,h.inj⟩
def Uj(h:Fd.cont {S with F:=F} va p t=some A):∃B,S.cont va p t=some B:=by
 cases t with
 |f=>exact⟨_,rfl⟩
 |wo=>exact⟨_,rfl⟩
 |fd=>exact⟨_,rfl⟩
 |rd=>exact⟨_,rfl⟩
 |dn=>exact⟨A,h⟩
 |bk n=>exact⟨A,h⟩
def am8 (S:Fd)(h:FS S va p σ) (H:KC S)(hn:n<=1024) (X:∀y∈S.dR n,0<=y/\y<(S.W.length:Int)) :
  LX L JC [.ptr (p .f) 5 0,.int n] σ (λr τ=>r = .sl σ.length (iq (S.dR n) S.F).1.length 0 (iq (S.dR n) S.F).1.length/\FS {S with F:=(iq (S.dR n) S.F).2} va p τ/\aq τ σ.length=some (bp (iq (S.dR n) S.F).1)/\σ.length<τ.length):=by
 refine ajw rfl ?_;have Y:=h.has .f _ rfl;have I:=h.has .rd _ rfl;have g:n<S.R.length:=by have:=H.r;omega
 have D:=H.b n;have u:∀B:al,aq (σ ++ [B]) (p .f)=_:=λB=>gz (r:=[B]) Y;have w:∀B:al,aq (σ ++ [B]) (p .rd)=_:=λB=>gz (r:=[B]) I;have J:ix (List.range S.R.length) (n:Int)=n:=by rw[aB (by simpa using g)];simp
 have V:ix (List.range S.R.length) (0+(n:Int)*1)=n:=by rw[<-J];congr 1;omega
 by_cases E:S.dR n=[]
 .have K:cu (p (.bk n)) (S.dR n).length = .ag:=by rw[E];rfl
  have Z:iq (S.dR n) S.F=([],S.F):=by rw[E];rfl
  rw[Z];simp[-aj,u,w,J,V,K,g];refine aK (λ_:Unit=>[]) (λ_=>σ ++ [bp []]) (λ_=>True) (λ_=>0) () aX trivial ?_
  rintro⟨⟩ _;simp[-aj];exact⟨h.more λb D=>by rw[bE,bE,eJ D],gU⟩
 .have K:cu (p (.bk n)) (S.dR n).length = .sl (p (.bk n)) (S.dR n).length 0 (S.dR n).length:=ad λe=>E (dY e)
  simp[-aj,u,w,J,V,K,g];generalize hl:S.dR n=l at *;refine aK (λq:Nat×List al=>[(2,.int q.1),(6,.sl σ.length (iq (l.take q.1) S.F).1.length 0 (iq (l.take q.1) S.F).1.length)]) (λq=>q.2) (λq=>q.1<=l.length/\FS {S with F:=(iq (l.take q.1) S.F).2} va p q.2/\aq q.2 σ.length=some (bp (iq (l.take q.1) S.F).1)/\σ.length<q.2.length) (λq=>l.length-q.1) (0,σ ++ [bp []]) (by simp[du,iq]) ⟨ab,h.more λb D=>by rw[bE,bE,eJ D],gU,ab⟩ ?_
  rintro⟨k,x⟩ ⟨k0,s,i,d⟩;dsimp only at k0 s i d ⊢;have z:=s.has .f _ rfl;have j:=s.has .fd _ rfl;have m:=s.has (.bk n) (Zb l) (by
   show(if n<S.R.length/\S.dR n ≠ []then some (Zb (S.dR n))else none)=_
   rw[hl,ae ⟨g,E⟩])
  have M:=(Ah (l.take k) S.F).1;have hol:=(Ah (l.take k) S.F).2;have hml:(l.take k).length<=l.length:=ax
  by_cases N:k<l.length
  .have tk:=gx N
   have a:=KD (l.take k) (ix l (k:Int)) S.F;rw[<-tk]at a;have O:=X _ (aJ (l:=l) (n:=(k:Int)) aa aa)
   have P:ix l (k:Int)<((iq (l.take k) S.F).2.length:Int):=by rw[M,H.f];exact O.2
   have nf:p .fd ≠ σ.length:=by have:=h.lt (t:=.fd) rfl;omega
   have C:=s.found (F:=(iq (l.take k) S.F).2.set (ix l (k:Int)).toNat true) ab
   generalize iq (l.take k) S.F=T at *;obtain⟨out,F⟩:=T;dsimp only at *;have o :=eq_true P
   by_cases G:ix F (ix l (k:Int))=true
   .rw[ae G]at a
    simp[-aj,N,z,j,m,O.1,o, G];exact⟨aa,aD (k+1,x) fm rfl ⟨au,by dsimp only;rw[a];exact s,by dsimp only;rw[a];exact i,d⟩ au⟩
   .rw[ad G]at a
    have Q : ix F (ix l (k:Int))=false:=by simpa using G
    have U:∀B,aq (ar x (p .fd) B) σ.length=some (bp out):=λB=>by rw[aA nf];exact i
    simp[-aj,N,z,j,m,O.1,o, Q, U];refine⟨dE,aa,aa,aD (k+1,_) fm rfl ⟨au,?_,?_,by dsimp only;rw[aY,aY];exact d⟩ au⟩
    .dsimp only
     rw[a];rw[o8]at C;exact C.Ai λt A hA=>by
      obtain⟨B,hB⟩:=Uj hA;have:=h.lt hB;omega
    .dsimp only
     rw[a,bU (by rw[aY];exact d)]
     simp
  .have ek:k=l.length:=by omega
   subst ek;rw[List.take_length]at *;simp[-aj];exact⟨s,i,d⟩
variable{c:List Int}
def KE(b:ix S.W (x:Int)=o) (a:∀w,o=some w->0<aI w c) (g:c.length<=1024) (d:ix S.F (x:Int)=false):S.off x c=if uf o c=true then Fd.pI {S with W:=S.W.set x (some c)} c.length x else {S with W:=S.W.set x (some c)}:=by
 unfold Fd.off;rw[ad (by simp[d];omega),b]
 cases o with
 |none=>rfl
 |some w=>
  have:=a w rfl;simp only;rw[ad aa]
  by_cases e:c.length<w.length
  .rw[ae e,ae (by simpa[uf]using e)];rfl
  .rw[ad e,ad (by simpa[uf]using e)]
def KF (S:Fd)(h:FS S va p σ) (a:KC S)(j:x<S.W.length) (ps:List (Bool×Option (List Int))) (d:(ct ps).length<=5000) (g:ps.length<=10) (w:∀o,ix S.W (x:Int)=some o->o.length<=1024) (b:Bool) :
  LX L uT [.ptr (p .f) 5 0,.int x,.aF b (ps.map xp)] σ (λr τ=>r = .bM []/\∃p', PE p p' /\FS (S.off x (ct ps)) va p' τ):=by
 refine am3 S h a j ps d g (am6 S h a j ps d g w λτ o i y l s z=>?_);unfold KA;have A:=i.has .f _ rfl;have m:=i.has .wo _ rfl;have C:p .wo ≠ p .f:=i.ne (t:=.wo) (u:=.f) rfl rfl ab
 simp[-aj,A,m,j];have B:=i.word (x:=x) (o:=some (ct ps));have e:(AV.aF true ((ct ps).map .int)).cells=[oP (some (ct ps))]:=rfl;rw[e,lP];have q:KC {S with W:=S.W.set x (some (ct ps))}:=⟨by simp[a.f],a.r,by simp[a.n],a.b⟩
 exact⟨aa,am7 _ B q o rfl s _ (KE y l s z)⟩
structure mC (S:Fd):Prop where
 f:S.F.length=S.W.length
 r:S.R.length=1025
 n:S.W.length<=512
 nd:∀n,(S.dR n).Nodup
 bm:∀n y,y∈S.dR n->(0<=y/\y<(S.W.length:Int))/\∃w,ix S.W y=some w/\w.length<=n
 wl:∀x w,0<=x->x<(S.W.length:Int)->ix S.W x=some w->w.length<=1024
def mC.ok(h:mC S):KC S:=⟨h.f,h.r,h.n,λn=>by
 have:=tB S.W.length (h.nd n) λy hy=>(h.bm n y hy).1;have:=h.n;omega⟩
def r9 [Inhabited α]{l:List α}{k:Nat}{v:α}(a:k<l.length){j:Int}(b:0<=j):ix (l.set k v) j=if j=k then v else ix l j:=by
 have:=jm (v:=v) a j.toNat;rw[show((j.toNat:Nat):Int)=j by omega]at this
 rw[this]
 by_cases e:j=k
 .rw[ae e,ae aa]
 .rw[ad e,ad aa]
def KG (S:Fd) (x:Nat) (c:List Int):S.off x c=S\/(c.length<=1024/\ix S.F (x:Int)=false/\(∀w,ix S.W (x:Int)=some w->0<aI w c)/\((uf (ix S.W (x:Int)) c=true/\S.off x c=Fd.pI {S with W:=S.W.set x (some c)} c.length x)\/(uf (ix S.W (x:Int)) c=false/\S.off x c={S with W:=S.W.set x (some c)}))):=by
 by_cases b:1024<c.length\/ix S.F (x:Int)=true
 .exact .inl (ae b)
 have h:c.length<=1024:=aa
 have i:ix S.F (x:Int)=false:=by
  cases e:ix S.F (x:Int)with
  |false=>rfl
  |true=>exact absurd (.inr e) b
 by_cases j:∃w,ix S.W (x:Int)=some w/\aI w c<=0
 .obtain⟨w,d,hle⟩:=j
  left;unfold Fd.off;rw[ad b,d];exact ae hle
 .right
  have a:∀w,ix S.W (x:Int)=some w->0<aI w c:=λw d=>dF λg=>j ⟨w,d,aa⟩
  refine⟨h,i,a,?_⟩;have:=KE rfl a h i;cases g:uf (ix S.W (x:Int)) c with
  |true=>rw[ae g]at this;exact .inl ⟨rfl,this⟩
  |false=>rw[ad iH]at this;exact .inr ⟨rfl,this⟩
def mC.off(h:mC S)(hx:x<S.W.length) (c:List Int):mC (S.off x c):=by
 rcases KG S x c with e|⟨hc,hf,Gv,⟨hn,e⟩|⟨hn,e⟩⟩
 .rw[e];exact h
 .rw[e]
  have Uk:(x:Int)∉S.dR c.length:=λhm=>by
   obtain⟨_,w,hw,hl⟩:=h.bm _ _ hm;rw[hw]at hn;simp only[uf,eo]at hn;omega
  have qF:c.length<S.R.length:=by rw[h.r];omega
  have vV:∀m,Fd.dR (Fd.pI {S with W:=S.W.set x (some c)} c.length x) m=if m=c.length then S.dR c.length ++ [(x:Int)]else S.dR m:=λm=>Ag (S:={S with W:=S.W.set x (some c)}) qF m
  refine⟨by show S.F.length=(S.W.set x (some c)).length;simp[h.f],by show(S.R.set _ _).length=1025;simp[h.r],by show(S.W.set x (some c)).length<=512;simp[h.n],λm=>?_,λm y hy=>?_,λz w z0 z1 hw=>?_⟩
  .rw[vV]
   split
   .rw[rO]
    exact⟨h.nd _,ab,λa ha b hb=>by simp at hb;subst hb;exact λe=>Uk (e▸ha)⟩
   .exact h.nd m
  .rw[vV]at hy
   show(0<=y/\y<((S.W.set x (some c)).length:Int))/\∃w,ix (S.W.set x (some c)) y=some w/\w.length<=m;rw[ox];have key:y∈S.dR m->(0<=y/\y<(S.W.length:Int))/\∃w,ix (S.W.set x (some c)) y=some w/\w.length<=m:=λhy=>by
    obtain⟨hr,w,hw,hl⟩:=h.bm m y hy;refine⟨hr,?_⟩;rw[r9 hx hr.1]
    by_cases e:y=x
    .subst e
     rw[hw]at hn;simp only[uf,eo]at hn;exact⟨c,ae rfl,aa⟩
    .exact⟨w,by rw[ad e];exact hw,hl⟩
   split at hy
   .rename_i em
    rcases cY.1 hy with hy|hy
    .exact key (by rw[em];exact hy)
    .simp at hy
     subst hy;exact⟨aa,c,by rw[r9 hx aa,ae rfl],aa⟩
   .exact key hy
  .rw[show(Fd.pI {S with W:=S.W.set x (some c)} c.length x).W=S.W.set x (some c)from rfl]at hw z1
   rw[r9 hx z0]at hw;split at hw
   .injection hw with hw;subst hw;exact hc
   .exact h.wl z w z0 (by simpa using z1) hw
 .rw[e]
  refine⟨by simp[h.f],h.r,by simp[h.n],h.nd,λm y hy=>?_,λz w z0 z1 hw=>?_⟩
  .obtain⟨hr,w,hw,hl⟩:=h.bm m y hy
   show(0<=y/\y<((S.W.set x (some c)).length:Int))/\∃w,ix (S.W.set x (some c)) y=some w/\w.length<=m;rw[ox,r9 hx hr.1];refine⟨hr,?_⟩
   by_cases e:y=x
   .subst e
    have Ul:=Gv w hw;rw[ae rfl];refine⟨c,rfl,?_⟩;have:¬w.length<c.length:=λcm=>by unfold aI at Ul;rw[ae aa]at Ul;omega
    omega
   .exact⟨w,by rw[ad e];exact hw,hl⟩
  .dsimp only at hw z1
   rw[r9 hx z0]at hw;split at hw
   .injection hw with hw;subst hw;exact hc
   .exact h.wl z w z0 (by simpa using z1) hw
def KH:(S.off x c).W.length=S.W.length/\(S.off x c).F=S.F/\(S.off x c).N=S.N:=by
 rcases KG S x c with e|⟨_,_,_,⟨_,e⟩|⟨_,e⟩⟩<;>rw[e]<;>simp[Fd.pI]
variable{y:Int}
def Um(d:x<S.W.length)(g:0<=y) (b:ix S.F y=true):ix (S.off x c).W y=ix S.W y:=by
 rcases KG S x c with e|⟨_,a,_,⟨_,e⟩|⟨_,e⟩⟩
 .rw[e]
 .rw[e]
  show ix (S.W.set x (some c)) y=_;rw[r9 d g,ad λe=>by rw[e,a]at b;simp at b]
 .rw[e]
  show ix (S.W.set x (some c)) y=_;rw[r9 d g,ad λe=>by rw[e,a]at b;simp at b]
def Fd.enc (D:Vd) (x c y:Nat) (wx wy:List Int) (S:Fd):Nat->Fd
 |0=>S
 |r+1=>(Fd.enc D x c y wx wy S r).off (D.bk x c y r).toNat (wx++(c:Int)::(wy ++ [D.n.calls+D.n.ak+r]))
def KI{D:Vd}{x c y:Nat}{wx wy:List Int}{S:Fd}(h:mC S) (a:∀r:Nat,(r:Int)<D.n.ah->0<=D.bk x c y r/\D.bk x c y r<(S.W.length:Int)):∀r:Nat,(r:Int)<=D.n.ah->mC (Fd.enc D x c y wx wy S r)/\(Fd.enc D x c y wx wy S r).W.length=S.W.length/\(Fd.enc D x c y wx wy S r).F=S.F/\(Fd.enc D x c y wx wy S r).N=S.N/\∀z:Int,0<=z->ix S.F z=true->ix (Fd.enc D x c y wx wy S r).W z=ix S.W z
 |0,_=>⟨h,rfl,rfl,rfl,λ_ _ _=>rfl⟩
 |r+1,u=>by
  obtain⟨i,j,b,l,m⟩:=KI (wx:=wx) (wy:=wy) h a r aa
  have o:=a r aa
  have d:(D.bk x c y r).toNat<(Fd.enc D x c y wx wy S r).W.length:=aa
  obtain⟨p,q,s⟩:=KH (S:=Fd.enc D x c y wx wy S r) (x:=(D.bk x c y r).toNat) (c:=wx++(c:Int)::(wy ++ [D.n.calls+D.n.ak+r]));exact⟨i.off d _,by show((Fd.enc D x c y wx wy S r).off _ _).W.length=_;rw[p,j],q.trans b,s.trans l,λz e g=>(Um d e (by rw[b];exact g)).trans (m z e g)⟩
variable{wx:List Int}
def Un (D:Vd) (g:j9 D) (S:Fd)(h:FS S D.vcs.av p σ) (z:mC S) (R:S.W.length=D.K.length){c y:Nat}(A:x<D.K.length) (T:y<D.K.length) (G:c<D.n.calls.toNat){wy:List Int}(H:ix S.W (x:Int)=some wx) (I:ix S.W (y:Int)=some wy) (f1:ix S.F (x:Int)=true) (U:ix S.F (y:Int)=true) :
  LX L CK [.ptr (p .f) 5 0,.int x,.int c,.int y] σ (λr τ=>r = .bM []/\∃p', PE p p' /\FS (Fd.enc D x c y wx wy S D.n.ah.toNat) D.vcs.av p' τ):=by
 refine aj2 rfl ?_;have V:=h.has .f _ rfl;have X:=g.f.b;have Y:=g.c;have Z:=g.r;have EA:=g.n;have x1:=az (show(x:Int)<(D.BL.length:Int)by omega)
 have x2:=az (show(c:Int)<((ix D.BL (x:Int)).length:Int)by have:=g.rl x A;unfold Vd.row at this;omega)
 have x3:=az (show(y:Int)<((ix (ix D.BL (x:Int)) (c:Int)).length:Int)by have:=g.f.c x c A G;unfold Vd.bV Vd.row at this;omega)
 have l:=g.r8 x c y A G T;unfold Vd.bV Vd.row at l;have J:∀r:Nat,(r:Int)<D.n.ah->0<=D.bk x c y r/\D.bk x c y r<(S.W.length:Int):=λr hr=>by
  rw[R];exact l.2 _ (aJ aa aa)
 have wl1:=z.wl x wx aa aa H
 have wl2:=z.wl y wy aa aa I
 simp[-aj,V,x1,x2,x3];refine aK (λq:Nat×(Tf->Nat)×List al=>[(5,.int q.1)]) (λq=>q.2.2) (λq=>q.1<=D.n.ah.toNat/\PE p q.2.1/\FS (Fd.enc D x c y wx wy S q.1) D.vcs.av q.2.1 q.2.2) (λq=>D.n.ah.toNat-q.1) (0,p,σ) aX ⟨ab,⟨rfl,rfl⟩,h⟩ ?_
 rintro⟨r,p1,σ1⟩ ⟨r0,a,m⟩;dsimp only at r0 a m ⊢;obtain⟨M,k2,k3,k4,N⟩:=KI (wx:=wx) (wy:=wy) z J r aa
 have s:=m.has .f _ rfl;have u:=m.has .wo _ rfl;rw[a.1]at s
 by_cases hr:r<D.n.ah.toNat
 .have i:=az (show(r:Int)<(((ix (ix (ix D.BL (x:Int)) (c:Int)) (y:Int)).length:Nat):Int)by omega)
  have uL:=J r aa
  have O:=N x aa f1
  have P:=N y aa U
  rw[H]at O;rw[I]at P;have e:ct [(true,some wx),(false,some [(c:Int)]),(true,some wy),(false,some [D.n.calls+D.n.ak+r])]=wx++(c:Int)::(wy ++ [D.n.calls+D.n.ak+r]):=by simp[ct]
  have j:=KF (Fd.enc D x c y wx wy S r) m M.ok (x:=(D.bk x c y r).toNat) aa [(true,some wx),(false,some [(c:Int)]),(true,some wy),(false,some [D.n.calls+D.n.ak+r])] (by rw[e];simp;omega) ab (λo ho=>M.wl _ _ aa aa ho) false
  obtain⟨rv,τ,j,rfl,Q,d,w⟩:=dd j;rw[e]at w;rw[a.1]at j;have d:PE p Q:=⟨d.1.trans a.1,d.2.trans a.2⟩;have B:((D.bk x c y r).toNat:Int)=ix (ix (ix (ix D.BL (x:Int)) (c:Int)) (y:Int)) (r:Int):=by
   have:D.bk x c y r=ix (ix (ix (ix D.BL (x:Int)) (c:Int)) (y:Int)) (r:Int):=rfl;omega
  rw[B]at j;have lx:=az (show(x:Int)<((Fd.enc D x c y wx wy S r).W.length:Int)by omega)
  have ly:=az (show(y:Int)<((Fd.enc D x c y wx wy S r).W.length:Int)by omega)
  have C:=az (show x<(Fd.enc D x c y wx wy S r).W.length by omega)
  have E:=az (show y<(Fd.enc D x c y wx wy S r).W.length by omega)
  simp only[List.map_cons,List.map_nil,xp]at j;simp[-aj,i,s,u,lx,ly,C,E,O,P,oP,j];exact⟨aa,aa,aa,aD (r+1,Q,τ) ab rfl ⟨au,d,w⟩ au⟩
 .have i:=bX (show ¬(r:Int)<(((ix (ix (ix D.BL (x:Int)) (c:Int)) (y:Int)).length:Nat):Int)by omega)
  have er:r=D.n.ah.toNat:=aa
  simp[-aj,i];rw[<-er];exact⟨p1,a,m⟩
structure Kp (S T:Fd):Prop where
 w:mC T
 l:T.W.length=S.W.length
 f:T.F=S.F
 n:T.N=S.N
 k:∀z:Int,0<=z->ix S.F z=true->ix T.W z=ix S.W z
def Kp.refl(h:mC S):Kp S S:=⟨h,rfl,rfl,rfl,λ_ _ _=>rfl⟩
variable{T U:Fd}
def Kp.trans(h:Kp S T) (g:Kp T U):Kp S U:=⟨g.w,g.l.trans h.l,g.f.trans h.f,g.n.trans h.n,λz z0 hz=>(g.k z z0 (by rw[h.f];exact hz)).trans (h.k z z0 hz)⟩
def Kp.off(h:mC S)(hx:x<S.W.length) (c:List Int):Kp S (S.off x c):=by
 obtain⟨o1,o2,o3⟩:=KH (S:=S) (x:=x) (c:=c);exact⟨h.off hx c,o1,o2,o3,λz z0 hz=>Um hx z0 hz⟩
variable{D:Vd}
def Kp.enc(hD:j9 D)(h:mC S) (hk:S.W.length=D.K.length){c y:Nat}(hx:x<D.K.length) (hy:y<D.K.length) (hc:c<D.n.calls.toNat) (wx wy:List Int):Kp S (Fd.enc D x c y wx wy S D.n.ah.toNat):=by
 have Kq:=hD.r8 x c y hx hc hy;unfold Vd.bV Vd.row at Kq;have XL:=hD.r;obtain⟨a,b,c,d,e⟩:=KI (wx:=wx) (wy:=wy) h (λr hr=>by
  rw[hk];exact Kq.2 _ (aJ aa aa)) D.n.ah.toNat aa
 exact⟨a,b,c,d,e⟩
def Fd.ei (D:Vd) (x:Nat) (wx:List Int) (S:Fd):Nat->Fd
 |0=>S
 |i+1=>(Fd.ei D x wx S i).off (D.im x i).toNat (wx ++ [D.n.calls+i])
def Kp.ei{D:Vd}(hD:j9 D){S:Fd}(h:mC S) (hk:S.W.length=D.K.length){x:Nat}(hx:x<D.K.length) (wx:List Int):∀i:Nat,i<=D.n.ak.toNat->Kp S (Fd.ei D x wx S i)
 |0,_=>Kp.refl h
 |i+1,hi=>by
  have ih:=Kp.ei hD h hk hx wx i aa
  have jx:=hD.inl x hx;have EA:=hD.n;have MC:0<=D.im x i/\D.im x i<(D.K.length:Int):=jx.2 _ (aJ aa aa)
  exact ih.trans (Kp.off ih.w (by rw[ih.l,hk];omega) _)
def Fd.ec (D:Vd) (x y:Nat) (wx wy:List Int) (S:Fd):Nat->Fd
 |0=>S
 |c+1=>Fd.enc D y c x wy wx (Fd.enc D x c y wx wy (Fd.ec D x y wx wy S c) D.n.ah.toNat) D.n.ah.toNat
def Kp.ec{D:Vd}(hD:j9 D){S:Fd}(h:mC S) (hk:S.W.length=D.K.length){x y:Nat}(hx:x<D.K.length) (hy:y<D.K.length) (wx wy:List Int):∀c:Nat,c<=D.n.calls.toNat->Kp S (Fd.ec D x y wx wy S c)
 |0,_=>Kp.refl h
 |c+1,hc=>by
  have ih:=Kp.ec hD h hk hx hy wx wy c aa
  have h1:=Kp.enc hD ih.w (by rw[ih.l,hk]) hx hy (show c<D.n.calls.toNat by omega) wx wy
  have h2:=ih.trans h1;exact h2.trans (Kp.enc hD h2.w (by rw[h2.l,hk]) hy hx (show c<D.n.calls.toNat by omega) wy wx)
def Fd.ed (D:Vd) (x:Nat) (wx:List Int) (wd:Int->List Int) (S:Fd) (l:List Int):Nat->Fd
 |0=>S
 |k+1=>Fd.ec D x (ix l (k:Int)).toNat wx (wd (ix l (k:Int))) (Fd.ed D x wx wd S l k) D.n.calls.toNat
def Kp.ed{D:Vd}(hD:j9 D){S:Fd}(h:mC S) (hk:S.W.length=D.K.length){x:Nat}(hx:x<D.K.length) (wx:List Int) (wd:Int->List Int){l:List Int}(hl:∀y∈l,0<=y/\y<(D.K.length:Int)):∀k:Nat,k<=l.length->Kp S (Fd.ed D x wx wd S l k)
 |0,_=>Kp.refl h
 |k+1,pS=>by
  have ih:=Kp.ed hD h hk hx wx wd hl k aa
  have hy:=hl _ (aJ (l:=l) (n:=(k:Int)) aa aa)
  exact ih.trans (Kp.ec hD ih.w (by rw[ih.l,hk]) hx aa wx _ _ (bd _))
def Fd.ext (D:Vd) (x:Nat) (S:Fd):Fd:=
 let wx:=(ix S.W (x:Int)).getD []
 Fd.ed D x wx (λy=>(ix S.W y).getD []) (Fd.ei D x wx S D.n.ak.toNat) S.N S.N.length
def am9 (D:Vd) (s:j9 D) (S:Fd)(h:FS S D.vcs.av p σ) (hF:mC S) (Y:S.W.length=D.K.length)(H:x<D.K.length) (f1:ix S.F (x:Int)=true) (I:S.N ≠ []) (hNl:S.N.length<=1000)
  (SG:∃wx,ix S.W (x:Int)=some wx) (hN:∀y∈S.N,(0<=y/\y<(D.K.length:Int))/\ix S.F y=true/\∃w,ix S.W y=some w) :
  LX L CF [.ptr (p .f) 5 0,.int x] σ (λr τ=>r = .bM []/\∃p', PE p p' /\FS (Fd.ext D x S) D.vcs.av p' τ):=by
 refine ajx rfl ?_;obtain⟨wx,m⟩:=SG;have hv:=h.has .f _ rfl;have jx:=s.inl x H;have Xo:=s.f.i;have sO:=s.c;have EA:=s.n;have x1:=az (show(x:Int)<(D.IN.length:Int)by omega)
 have wl1:=hF.wl x wx aa aa m
 have Z:Fd.ext D x S=Fd.ed D x wx (λy=>(ix S.W y).getD []) (Fd.ei D x wx S D.n.ak.toNat) S.N S.N.length:=by unfold Fd.ext;rw[m];rfl
 rw[Z];simp[-aj,hv,x1];refine aK (λq:Nat×(Tf->Nat)×List al=>[(3,.int q.1)]) (λq=>q.2.2) (λq=>q.1<=D.n.ak.toNat/\PE p q.2.1/\FS (Fd.ei D x wx S q.1) D.vcs.av q.2.1 q.2.2) (λq=>D.n.ak.toNat-q.1) (0,p,σ) aX ⟨ab,⟨rfl,rfl⟩,h⟩ ?_
 rintro⟨i,p1,σ1⟩ ⟨i0,a,U⟩;dsimp only at i0 a U ⊢;have j:=Kp.ei s hF Y H wx i i0;have J:=U.has .f _ rfl;have ana:=U.has .wo _ rfl;rw[a.1]at J
 by_cases hi:i<D.n.ak.toNat
 .have M:=az (show(i:Int)<((ix D.IN (x:Int)).length:Int)by omega)
  have O:=az (show i<(ix D.IN (x:Int)).length by omega)
  have MC:0<=D.im x i/\D.im x i<(D.K.length:Int):=jx.2 _ (aJ aa aa)
  have g1:=j.k x aa f1
  rw[m]at g1;have C:ct [(true,some wx),(false,some [D.n.calls+i])]=wx ++ [D.n.calls+i]:=by simp[ct]
  have V:=KF (Fd.ei D x wx S i) U j.w.ok (x:=(D.im x i).toNat) (by rw[j.l];omega) [(true,some wx),(false,some [D.n.calls+i])] (by rw[C];simp;omega) ab (λo ho=>j.w.wl _ _ aa (by rw[j.l];omega) ho) false
  obtain⟨rv,τ,V,rfl,p2,b,d⟩:=dd V;rw[C]at d;rw[a.1]at V;have b:PE p p2:=⟨b.1.trans a.1,b.2.trans a.2⟩;have vV:((D.im x i).toNat:Int)=ix (ix D.IN (x:Int)) (i:Int):=by
   have:D.im x i=ix (ix D.IN (x:Int)) (i:Int):=rfl;omega
  rw[vV]at V;have lx:=az (show(x:Int)<((Fd.ei D x wx S i).W.length:Int)by rw[j.l];omega)
  have lx2:=az (show x<(Fd.ei D x wx S i).W.length by rw[j.l];omega)
  simp only[List.map_cons,List.map_nil,xp]at V;simp[-aj,M,O,J,ana,lx,lx2,g1,oP,V];exact⟨aa,aa,aD (i+1,p2,τ) ab rfl ⟨au,b,d⟩ au⟩
 .have M:=bX (show ¬(i:Int)<((ix D.IN (x:Int)).length:Int)by omega)
  have O:=bX (show ¬i<(ix D.IN (x:Int)).length by omega)
  have ei:i=D.n.ak.toNat:=aa
  rw[<-ei];have hdn:=U.has .dn _ (ad (by rw[j.n];exact I))
  have e6:cu (p1 .dn) (Fd.ei D x wx S i).N.length = .sl (p1 .dn) S.N.length 0 S.N.length:=by
   rw[j.n];exact ad λe=>I (dY e)
  simp[-aj,M,O,J,e6];have hNr:∀y∈S.N,0<=y/\y<(D.K.length:Int):=λy hy=>(hN y hy).1;have MD:(Fd.ei D x wx S i).W.length=D.K.length:=by rw[j.l,Y]
  refine aK (λq:Nat×(Tf->Nat)×List al=>[(8,.int q.1)]) (λq=>q.2.2) (λq=>q.1<=S.N.length/\PE p1 q.2.1/\FS (Fd.ed D x wx (λy=>(ix S.W y).getD []) (Fd.ei D x wx S i) S.N q.1) D.vcs.av q.2.1 q.2.2) (λq=>S.N.length-q.1) (0,p1,σ1) aX ⟨ab,⟨rfl,rfl⟩,U⟩ ?_
  rintro⟨k,p2,MB⟩ ⟨k0,b,d⟩;dsimp only at k0 b d ⊢;have K2:=j.trans (Kp.ed s j.w MD H wx (λy=>(ix S.W y).getD []) hNr k k0)
  by_cases pS:k<S.N.length
  .have hy:=hN _ (aJ (l:=S.N) (n:=(k:Int)) aa aa)
   obtain⟨⟨y0,y1⟩,yf,wy,u⟩:=hy;have E:=d.has .dn _ (ad (by rw[K2.n];exact I))
   rw[b.2,K2.n]at E;simp[-aj,pS,E];have P:Fd.ed D x wx (λy=>(ix S.W y).getD []) (Fd.ei D x wx S i) S.N (k+1)=Fd.ec D x (ix S.N (k:Int)).toNat wx wy (Fd.ed D x wx (λy=>(ix S.W y).getD []) (Fd.ei D x wx S i) S.N k) D.n.calls.toNat:=by
    show Fd.ec D x (ix S.N (k:Int)).toNat wx ((ix S.W (ix S.N (k:Int))).getD []) _ _=_;rw[u];rfl
   obtain⟨y,hyy⟩:∃y:Nat,ix S.N (k:Int)=y:=⟨(ix S.N (k:Int)).toNat,aa⟩
   rw[hyy]at y0 y1 yf u P;rw[hyy];rw[lA]at P;have z:y<D.K.length:=aa
   generalize hSk:Fd.ed D x wx (λy=>(ix S.W y).getD []) (Fd.ei D x wx S i) S.N k=Sk at *;have sG:Sk.W.length=D.K.length:=by rw[K2.l,Y]
   refine aK (λq:Nat×(Tf->Nat)×List al=>[(11,.int q.1)]) (λq=>q.2.2) (λq=>q.1<=D.n.calls.toNat/\PE p q.2.1/\FS (Fd.ec D x y wx wy Sk q.1) D.vcs.av q.2.1 q.2.2) (λq=>D.n.calls.toNat-q.1) (0,p2,MB) aX ⟨ab,⟨b.1.trans a.1,b.2.trans a.2⟩,d⟩ ?_
   rintro⟨c,p3,Aj⟩ ⟨c0,g,Q⟩;dsimp only at c0 g Q ⊢;have K3:=Kp.ec s K2.w sG H z wx wy c c0;have G:=K2.trans K3
   by_cases hc:c<D.n.calls.toNat
   .have R :=az (show(c:Int)<D.n.calls by omega)
    have A1:(Fd.ec D x y wx wy Sk c).W.length=D.K.length:=by rw[G.l,Y]
    have A:=Un D s (Fd.ec D x y wx wy Sk c) Q G.w A1 H z hc (wx:=wx) (wy:=wy) (by rw[G.k _ aa f1];exact m) (by rw[G.k _ aa yf];exact u) (by rw[G.f];exact f1) (by rw[G.f];exact yf)
    obtain⟨r1,XK,A,rfl,p4,T,hS4⟩:=dd A;have X:=G.trans (Kp.enc s G.w A1 H z hc wx wy);have B:=Un D s _ hS4 X.w (by rw[X.l,Y]) z H hc (wx:=wy) (wy:=wx) (by rw[X.k _ aa yf];exact u) (by rw[X.k _ aa f1];exact m) (by rw[X.f];exact yf) (by rw[X.f];exact f1)
    obtain⟨r2,DD,B,rfl,p5,hp5,hS5⟩:=dd B;rw[g.1]at A;rw[T.1,g.1]at B;simp[-aj,R, A,B];exact⟨aa,aD (c+1,p5,DD) ab rfl ⟨au,⟨hp5.1.trans (T.1.trans g.1),hp5.2.trans (T.2.trans g.2)⟩,hS5⟩ au⟩
   .have R :=bX (show ¬(c:Int)<D.n.calls by omega)
    have ec:c=D.n.calls.toNat:=aa
    simp[-aj,R];refine⟨aa,aD (k+1,p3,Aj) ab rfl ⟨au,⟨g.1.trans a.1.symm,g.2.trans a.2.symm⟩,?_⟩ au⟩
    dsimp only;rw[P,<-ec];exact Q
  .have ek:k=S.N.length:=by omega
   subst ek;simp[-aj];exact⟨p2,⟨b.1.trans a.1,b.2.trans a.2⟩,d⟩
inductive Dv (D:Vd):Int->List Int->Prop
 |nil:Dv D 0 []
 |aQ (x i:Int) (w:List Int):0<=i->i<D.n.ak->Dv D x w->Dv D (D.im x i) (w ++ [D.n.calls+i])
 |aq (x c y r:Int) (w u:List Int):0<=c->c<D.n.calls->0<=r->r<D.n.ah->Dv D x w->Dv D y u->Dv D (D.bk x c y r) (w++c::(u ++ [D.n.calls+D.n.ak+r]))
def Dv.eV(h:j9 D){x:Int}(hd:Dv D x w):0<=x/\x<(D.K.length:Int):=by
 induction hd with
 |nil=>have:=h.k;omega
 |aQ x i w i0 i1 _ ih=>
  have:=h.inl x.toNat aa
  rw[show((x.toNat:Nat):Int)=x by omega]at this
  have hn:=h.n;exact this.2 _ (aJ i0 aa)
 |aq x c y r w u c0 c1 r0 r1 _ _ nw oz=>
  have:=h.r8 x.toNat c.toNat y.toNat aa aa aa
  unfold Vd.bV Vd.row at this;rw[show((x.toNat:Nat):Int)=x by omega,show((c.toNat:Nat):Int)=c by omega,show((y.toNat:Nat):Int)=y by omega]at this
  have hr:=h.r;exact this.2 _ (aJ r0 aa)
def lh (D:Vd) (x:Int) (w:List Int):Prop:=Dv D x w/\∀v,Dv D x v->aI w v<=0
structure aqE (D:Vd) (n:Nat) (S:Fd):Prop where
 w:mC S
 l:S.W.length=D.K.length
 dv:∀x w,0<=x->x<(D.K.length:Int)->ix S.W x=some w->Dv D x w
 fd:∀x,0<=x->x<(D.K.length:Int)->(ix S.F x=true↔∃w,lh D x w/\w.length<n)
 lw:∀x w,lh D x w->w.length<n->w.length<=1024->ix S.W x=some w
def Uo:∀{t u v:List Int},aI u v<0->aI (u++t) (v++t)<0
 | [],u,v,h=>by simpa using h
 |a::t,u,v,h=>by
  have:=Uo (t:=t) (Db (a:=a) (b:=a) h);simpa using this
variable{u:List Int}
def anb{v:List Int}(h:aI u v<0):aI (w++u) (w++v)<0:=by
 unfold aI at h ⊢;simp only[aU]
 by_cases b:u.length<v.length
 .rw[ae aa];omega
 .rw[ad b]at h
  by_cases a:v.length<u.length
  .rw[ae a]at h;omega
  .rw[ad a]at h
   rw[ad aa,ad aa,Da rfl,yH,ae rfl]
   exact h
def lh.aQ{x:Int}(i0:0<=i) (i1:i<D.n.ak) (hd:Dv D x w) (h:lh D (D.im x i) (w ++ [D.n.calls+i])):lh D x w:=
 ⟨hd,λv hv=>dF λhn=>by
  have h1:=h.2 _ (.aQ x i v i0 i1 hv);have h2:aI v w<0:=by have:=cC.fL v w;omega
  have h3:=Db (a:=D.n.calls+i) (b:=D.n.calls+i) h2;have:=cC.fL (v ++ [D.n.calls+i]) (w ++ [D.n.calls+i]);omega⟩
def lh.aq{x c r:Int}(c0:0<=c) (c1:c<D.n.calls) (r0:0<=r) (r1:r<D.n.ah) (hd:Dv D x w) (hu:Dv D y u) (h:lh D (D.bk x c y r) (w++c::(u ++ [D.n.calls+D.n.ak+r]))):lh D x w/\lh D y u:=by
 refine⟨⟨hd,λv hv=>dF λhn=>?_⟩,⟨hu,λv hv=>dF λhn=>?_⟩⟩
 .have h1:=h.2 _ (.aq x c y r v u c0 c1 r0 r1 hv hu)
  have h2:aI v w<0:=by have:=cC.fL v w;omega
  have h3:=Uo (t:=c::(u ++ [D.n.calls+D.n.ak+r])) h2;have:=cC.fL (v++c::(u ++ [D.n.calls+D.n.ak+r])) (w++c::(u ++ [D.n.calls+D.n.ak+r]));omega
 .have h1:=h.2 _ (.aq x c y r w v c0 c1 r0 r1 hd hv)
  have h2:aI v u<0:=by have:=cC.fL v u;omega
  have h3:=anb (w:=w ++ [c]) (Db (a:=D.n.calls+D.n.ak+r) (b:=D.n.calls+D.n.ak+r) h2);rw[gZ,gZ]at h3;have h3:aI (w++c::(v ++ [D.n.calls+D.n.ak+r])) (w++c::(u ++ [D.n.calls+D.n.ak+r]))<0:=h3;have:=cC.fL (w++c::(v ++ [D.n.calls+D.n.ak+r])) (w++c::(u ++ [D.n.calls+D.n.ak+r]));omega
variable{z:Int}
def lh.made{t:List Int}(h:lh D z t):(z=0/\t=[])\/(∃x i w,0<=i/\i<D.n.ak/\lh D x w/\z=D.im x i/\t=w ++ [D.n.calls+i])\/(∃x c y r w u,0<=c/\c<D.n.calls/\0<=r/\r<D.n.ah/\lh D x w/\lh D y u/\z=D.bk x c y r/\t=w++c::(u ++ [D.n.calls+D.n.ak+r])):=by
 cases h.1 with
 |nil=>exact .inl ⟨rfl,rfl⟩
 |aQ x i w i0 i1 hd=>exact .inr (.inl ⟨x,i,w,i0,i1,lh.aQ i0 i1 hd h,rfl,rfl⟩)
 |aq x c y r w u c0 c1 r0 r1 hd hu=>
  have:=lh.aq c0 c1 r0 r1 hd hu h;exact .inr (.inr ⟨x,c,y,r,w,u,c0,c1,r0,r1,this.1,this.2,rfl,rfl⟩)
def lh.oN{t s:List Int}(h:lh D z t) (g:lh D z s):t=s:=by
 have h1:=h.2 _ g.1;have h2:=g.2 _ h.1;have:=cC.fL t s;exact cC.eq t s aa
def Dv.sym(h:j9 D){x:Int}(hd:Dv D x w):∀a∈w,0<=a/\a<D.n.calls+D.n.ak+D.n.ah:=by
 have hc:=h.c;have hn:=h.n;have hr:=h.r
 induction hd with
 |nil=>simp
 |aQ x i w i0 i1 _ ih=>
  intro a ha;rcases cY.1 ha with ha|ha
  .exact ih a ha
  .simp at ha;omega
 |aq x c y r w u c0 c1 r0 r1 _ _ nw oz=>
  intro a ha;simp only[cY,b5,List.not_mem_nil,or_false]at ha;rcases ha with ha|rfl|ha|rfl
  .exact nw a ha
  .omega
  .exact oz a ha
  .omega
def re (S:Fd) (z:Int) (t:List Int):Prop:=1024<t.length\/ix S.F z=true\/∃v,ix S.W z=some v/\aI v t<=0
structure Mo (D:Vd) (S T:Fd):Prop where
 k:Kp S T
 o:∀z t,0<=z->z<(S.W.length:Int)->re S z t->re T z t
 dv:(∀z w,0<=z->z<(S.W.length:Int)->ix S.W z=some w->Dv D z w)->∀z w,0<=z->z<(S.W.length:Int)->ix T.W z=some w->Dv D z w
 bk:(∀z w,0<=z->z<(S.W.length:Int)->ix S.F z=false->ix S.W z=some w->z∈S.dR w.length)->∀z w,0<=z->z<(S.W.length:Int)->ix T.F z=false->ix T.W z=some w->z∈T.dR w.length
def Mo.refl(h:mC S):Mo D S S:=⟨Kp.refl h,λ_ _ _ _ h=>h,λh=>h,λh=>h⟩
def Mo.trans(h:Mo D S T) (g:Mo D T U):Mo D S U:=by
 have e:=h.k.l;exact⟨h.k.trans g.k,λz t z0 z1 a=>g.o z t z0 (by rw[e];exact z1) (h.o z t z0 z1 a),λa z w z0 z1=>g.dv (λz w z0 z1=>h.dv a z w z0 (by rw[<-e];exact z1)) z w z0 (by rw[e];exact z1),λa z w z0 z1=>g.bk (λz w z0 z1=>h.bk a z w z0 (by rw[<-e];exact z1)) z w z0 (by rw[e];exact z1)⟩
def Up(h:mC S)(i:c.length<=1024) (j:ix S.F (x:Int)=false) (d:∀w,ix S.W (x:Int)=some w->0<aI w c):(S.off x c).W=S.W.set x (some c)/\∀m,(S.off x c).dR m=if uf (ix S.W (x:Int)) c=true/\m=c.length then S.dR m ++ [(x:Int)]else S.dR m:=by
 have e:=KE rfl d i j;have g:c.length<S.R.length:=by rw[h.r];omega
 by_cases b:uf (ix S.W (x:Int)) c=true
 .rw[ae b]at e
  rw[e];refine⟨rfl,λm=>?_⟩;have:=Ag (S:={S with W:=S.W.set x (some c)}) (l:=S.dR c.length ++ [(x:Int)]) g m
  rw[show Fd.dR (Fd.pI {S with W:=S.W.set x (some c)} c.length x) m=if m=c.length then S.dR c.length ++ [(x:Int)]else S.dR m from this]
  by_cases em:m=c.length
  .rw[ae em,ae ⟨b,em⟩,em]
  .rw[ad em,ad λa=>em a.2]
 .rw[ad b]at e
  rw[e];exact⟨rfl,λm=>by rw[ad λa=>b a.1];rfl⟩
def Mo.off(h:mC S)(hx:x<S.W.length)(hd:Dv D x c):Mo D S (S.off x c)/\re (S.off x c) x c:=by
 by_cases h1:1024<c.length\/ix S.F (x:Int)=true
 .have e:S.off x c=S:=ae h1
  rw[e];exact⟨Mo.refl h,h1.imp id λa=>.inl a⟩
 have hc:c.length<=1024:=aa
 have hf:ix S.F (x:Int)=false:=by
  cases e:ix S.F (x:Int)with
  |false=>rfl
  |true=>exact absurd (.inr e) h1
 by_cases h2:∃w,ix S.W (x:Int)=some w/\aI w c<=0
 .have e:S.off x c=S:=by
   obtain⟨w,hw,hle⟩:=h2;unfold Fd.off;rw[ad h1,hw];exact ae hle
  rw[e];exact⟨Mo.refl h,.inr (.inr h2)⟩
 have Gv:∀w,ix S.W (x:Int)=some w->0<aI w c:=λw hw=>dF λhn=>h2 ⟨w,hw,aa⟩
 obtain⟨eW,eB⟩:=Up h hc hf Gv;have eF:=(KH (S:=S) (x:=x) (c:=c)).2.1;have k:=Kp.off h hx c;have XP:∀z:Int,0<=z->ix (S.off x c).W z=if z=x then some c else ix S.W z:=λz z0=>by rw[eW,r9 hx z0]
 refine⟨⟨k,λz t z0 z1 a=>?_,λa z w z0 z1 hw=>?_,λa z w z0 z1 hfz hw=>?_⟩,.inr (.inr ⟨c,by rw[XP _ aa,ae rfl],Int.le_of_eq (cC.refl _)⟩)⟩
 .rcases a with a|a|⟨v,a,b⟩
  .exact .inl a
  .exact .inr (.inl (by rw[eF];exact a))
  .refine .inr (.inr ?_)
   rw[XP z z0]
   by_cases e:z=x
   .subst e
    rw[ae rfl];have h3:=Gv v a;have h4:=cC.fL c v;exact⟨c,rfl,cC.trans c v t aa b⟩
   .rw[ad e]
    exact⟨v,a,b⟩
 .rw[XP z z0]at hw
  split at hw
  .rename_i e
   injection hw with hw
   rw[e,<-hw];exact hd
  .exact a z w z0 z1 hw
 .rw[eF]at hfz
  rw[XP z z0]at hw;rw[eB];split at hw
  .rename_i e
   injection hw with hw
   subst hw
   by_cases hn:uf (ix S.W (x:Int)) c=true
   .rw[ae ⟨hn,rfl⟩,e];simp
   .rw[ad λa=>hn a.1]
    cases ho:ix S.W (x:Int)with
    |none=>rw[ho]at hn;exact absurd rfl hn
    |some o=>
     have h3:=Gv o ho;rw[ho]at hn;have h4:¬c.length<o.length:=by simpa[uf]using hn
     have h5:¬o.length<c.length:=λcm=>by unfold aI at h3;rw[ae cm]at h3;omega
     have:=a z o z0 z1 hfz (by rw[e];exact ho)
     rw[show c.length=o.length by omega];exact this
  .have:=a z w z0 z1 hfz hw
   split
   .simp[this]
   .exact this
def Mo.enc{D:Vd}(hD:j9 D){S:Fd}(h:mC S) (hk:S.W.length=D.K.length){x c y:Nat}(hx:x<D.K.length) (hy:y<D.K.length) (hc:c<D.n.calls.toNat){wx wy:List Int}(d1:Dv D x wx) (d2:Dv D y wy):∀r:Nat,(r:Int)<=D.n.ah->Mo D S (Fd.enc D x c y wx wy S r)/\∀j:Nat,j<r->re (Fd.enc D x c y wx wy S r) (D.bk x c y j) (wx++(c:Int)::(wy ++ [D.n.calls+D.n.ak+j]))
 |0,_=>⟨Mo.refl h,λj hj=>aa⟩
 |r+1,hr=>by
  obtain⟨h1,h2⟩:=Mo.enc hD h hk hx hy hc d1 d2 r aa
  have A6:∀j:Nat,(j:Int)<D.n.ah->Dv D (D.bk x c y j) (wx++(c:Int)::(wy ++ [D.n.calls+D.n.ak+j])):=λj hj=>.aq x c y j wx wy aa aa aa hj d1 d2
  have hd:=A6 r aa
  have hb:=hd.eV hD;obtain⟨g1,g2⟩:=Mo.off (D:=D) h1.k.w (x:=(D.bk x c y r).toNat) (by rw[h1.k.l,hk];omega) (c:=wx++(c:Int)::(wy ++ [D.n.calls+D.n.ak+r])) (by rw[show(((D.bk x c y r).toNat:Nat):Int)=D.bk x c y r by omega];exact hd)
  rw[show(((D.bk x c y r).toNat:Nat):Int)=D.bk x c y r by omega]at g2
  refine⟨h1.trans g1,λj hj=>?_⟩
  by_cases e:j=r
  .subst e;exact g2
  .have KJ:=(A6 j aa).eV hD
   exact g1.o _ _ KJ.1 (by rw[h1.k.l,hk];exact KJ.2) (h2 j aa)
def Mo.ei{D:Vd}(hD:j9 D){S:Fd}(h:mC S) (hk:S.W.length=D.K.length){x:Nat}{wx:List Int}(d1:Dv D x wx):∀i:Nat,(i:Int)<=D.n.ak->Mo D S (Fd.ei D x wx S i)/\∀j:Nat,j<i->re (Fd.ei D x wx S i) (D.im x j) (wx ++ [D.n.calls+j])
 |0,_=>⟨Mo.refl h,λj hj=>aa⟩
 |i+1,hi=>by
  obtain⟨h1,h2⟩:=Mo.ei hD h hk d1 i aa
  have A6:∀j:Nat,(j:Int)<D.n.ak->Dv D (D.im x j) (wx ++ [D.n.calls+j]):=λj hj=>.aQ x j wx aa hj d1
  have hd:=A6 i aa
  have hb:=hd.eV hD;obtain⟨g1,g2⟩:=Mo.off (D:=D) h1.k.w (x:=(D.im x i).toNat) (by rw[h1.k.l,hk];omega) (c:=wx ++ [D.n.calls+i]) (by rw[show(((D.im x i).toNat:Nat):Int)=D.im x i by omega];exact hd)
  rw[show(((D.im x i).toNat:Nat):Int)=D.im x i by omega]at g2
  refine⟨h1.trans g1,λj hj=>?_⟩
  by_cases e:j=i
  .subst e;exact g2
  .have KJ:=(A6 j aa).eV hD
   exact g1.o _ _ KJ.1 (by rw[h1.k.l,hk];exact KJ.2) (h2 j aa)
def Mo.ec{D:Vd}(hD:j9 D){S:Fd}(h:mC S) (hk:S.W.length=D.K.length){x y:Nat}(hx:x<D.K.length) (hy:y<D.K.length){wx wy:List Int}(d1:Dv D x wx) (d2:Dv D y wy):∀c:Nat,c<=D.n.calls.toNat->Mo D S (Fd.ec D x y wx wy S c)/\∀j:Nat,j<c->∀r:Nat,(r:Int)<D.n.ah->re (Fd.ec D x y wx wy S c) (D.bk x j y r) (wx++(j:Int)::(wy ++ [D.n.calls+D.n.ak+r]))/\re (Fd.ec D x y wx wy S c) (D.bk y j x r) (wy++(j:Int)::(wx ++ [D.n.calls+D.n.ak+r]))
 |0,_=>⟨Mo.refl h,λj hj=>aa⟩
 |c+1,hc=>by
  obtain⟨h1,h2⟩:=Mo.ec hD h hk hx hy d1 d2 c aa
  have XL:=hD.r;obtain⟨g1,g2⟩:=Mo.enc hD h1.k.w (by rw[h1.k.l,hk]) hx hy (show c<D.n.calls.toNat by omega) d1 d2 D.n.ah.toNat aa
  have m1:=h1.trans g1;obtain⟨g3,g4⟩:=Mo.enc hD m1.k.w (by rw[m1.k.l,hk]) hy hx (show c<D.n.calls.toNat by omega) d2 d1 D.n.ah.toNat aa
  refine⟨m1.trans g3,λj hj r hr=>?_⟩;have b1:=(Dv.aq x j y r wx wy aa aa aa hr d1 d2).eV hD
  have b2:=(Dv.aq y j x r wy wx aa aa aa hr d2 d1).eV hD
  by_cases e:j=c
  .subst e
   exact⟨g3.o _ _ b1.1 (by rw[m1.k.l,hk];exact b1.2) (g2 r aa),g4 r aa⟩
  .obtain⟨q1,q2⟩:=h2 j aa r hr
   exact⟨g3.o _ _ b1.1 (by rw[m1.k.l,hk];exact b1.2) (g1.o _ _ b1.1 (by rw[h1.k.l,hk];exact b1.2) q1),g3.o _ _ b2.1 (by rw[m1.k.l,hk];exact b2.2) (g1.o _ _ b2.1 (by rw[h1.k.l,hk];exact b2.2) q2)⟩
def Mo.ed{D:Vd}(hD:j9 D){S:Fd}(h:mC S) (hk:S.W.length=D.K.length){x:Nat}(hx:x<D.K.length){wx:List Int}(d1:Dv D x wx){wd:Int->List Int}{l:List Int}(hl:∀y∈l,(0<=y/\y<(D.K.length:Int))/\Dv D y (wd y)):∀k:Nat,k<=l.length->Mo D S (Fd.ed D x wx wd S l k)/\∀i:Nat,i<k->∀j:Nat,(j:Int)<D.n.calls->∀r:Nat,(r:Int)<D.n.ah->re (Fd.ed D x wx wd S l k) (D.bk x j (ix l (i:Int)) r) (wx++(j:Int)::(wd (ix l (i:Int)) ++ [D.n.calls+D.n.ak+r]))/\re (Fd.ed D x wx wd S l k) (D.bk (ix l (i:Int)) j x r) (wd (ix l (i:Int))++(j:Int)::(wx ++ [D.n.calls+D.n.ak+r]))
 |0,_=>⟨Mo.refl h,λj hj=>aa⟩
 |k+1,pS=>by
  obtain⟨h1,h2⟩:=Mo.ed hD h hk hx d1 hl k aa
  have sO:=hD.c;obtain⟨hy,dy⟩:=hl _ (aJ (l:=l) (n:=(k:Int)) aa aa)
  have ey:((((ix l (k:Int)).toNat):Nat):Int)=ix l (k:Int):=aa
  obtain⟨g1,g2⟩:=Mo.ec hD h1.k.w (by rw[h1.k.l,hk]) hx (y:=(ix l (k:Int)).toNat) aa d1 (wy:=wd (ix l (k:Int))) (by rw[ey];exact dy) D.n.calls.toNat (bd _)
  rw[ey]at g2;refine⟨h1.trans g1,λi hi j hj r hr=>?_⟩
  by_cases e:i=k
  .subst e
   exact g2 j aa r hr
  .obtain⟨q1,q2⟩:=h2 i aa j hj r hr
   have di:=(hl _ (aJ (l:=l) (n:=(i:Int)) aa aa)).2
   have b1:=(Dv.aq x j (ix l (i:Int)) r wx _ aa hj aa hr d1 di).eV hD
   have b2:=(Dv.aq (ix l (i:Int)) j x r _ wx aa hj aa hr di d1).eV hD
   exact⟨g1.o _ _ b1.1 (by rw[h1.k.l,hk];exact b1.2) q1,g1.o _ _ b2.1 (by rw[h1.k.l,hk];exact b2.2) q2⟩
def Mo.ext(hD:j9 D)(h:mC S) (hk:S.W.length=D.K.length)(hx:x<D.K.length)(vW:ix S.W (x:Int)=some wx) (d1:Dv D x wx) (hN:∀y∈S.N,(0<=y/\y<(D.K.length:Int))/\ix S.F y=true/\∃w,ix S.W y=some w/\Dv D y w) :
  Mo D S (Fd.ext D x S)/\(∀i:Int,0<=i->i<D.n.ak->re (Fd.ext D x S) (D.im x i) (wx ++ [D.n.calls+i]))/\∀y∈S.N,∀wy,ix S.W y=some wy->∀c r:Int,0<=c->c<D.n.calls->0<=r->r<D.n.ah->re (Fd.ext D x S) (D.bk x c y r) (wx++c::(wy ++ [D.n.calls+D.n.ak+r]))/\re (Fd.ext D x S) (D.bk y c x r) (wy++c::(wx ++ [D.n.calls+D.n.ak+r])):=by
 have anc:Fd.ext D x S=Fd.ed D x wx (λy=>(ix S.W y).getD []) (Fd.ei D x wx S D.n.ak.toNat) S.N S.N.length:=by unfold Fd.ext;rw[vW];rfl
 rw[anc];have EA:=hD.n;obtain⟨h1,h2⟩:=Mo.ei hD h hk d1 D.n.ak.toNat aa
 obtain⟨g1,g2⟩:=Mo.ed hD h1.k.w (by rw[h1.k.l,hk]) hx d1 (wd:=λy=>(ix S.W y).getD []) (l:=S.N) (λy hy=>by
  obtain⟨a,_,w,b,d⟩:=hN y hy;exact⟨a,by show Dv D y ((ix S.W y).getD []);rw[b];exact d⟩) S.N.length (bd _)
 refine⟨h1.trans g1,λi i0 i1=>?_,λy hy wy xq c r c0 c1 r0 r1=>?_⟩
 .have b:=(Dv.aQ x i wx i0 i1 d1).eV hD
  have:=h2 i.toNat aa
  rw[show((i.toNat:Nat):Int)=i by omega]at this
  exact g1.o _ _ b.1 (by rw[h1.k.l,hk];exact b.2) this
 .obtain⟨k,pS,rfl⟩:=eL.1 hy
  have e:=aB pS;have:=g2 k pS c.toNat aa r.toNat aa
  rw[show((c.toNat:Nat):Int)=c by omega,show((r.toNat:Nat):Int)=r by omega,e]at this
  rw[xq]at this;exact this
end Ab
