/- slices.Concat of words that are given in some way; and what it leans on. Condition: none. -/
import Derived.Test.YtdenhmniigikcaaGreatBfsOrd
import Derived.Test.YtdenhmniigikcaaGreatN44P
set_option linter.all false
set_option maxRecDepth 100000
set_option maxHeartbeats 4000000
open Option renaming some->aa,none->ab
open Bool renaming true->ad,false->ae
open List renaming range->af,replicate->ag,length->ah
open Int renaming toNat->aj
namespace Ab
def gG{a:Type}(g:a->ak) (ps:List a):ak:=ps.flatMap g
variable{α:Type}{i:Int}
def Ma [Inhabited α]{g:α->ak}{ps:List α}(a:0<=i) (b:i<ah ps):gG g (ps.take (aj (i+1)))=gG g (ps.take (aj i))++g (ix ps i):=by
 have e:ps.take (aj (i+1))=ps.take (aj i) ++ [ix ps i]:=by
  rw[show(aj (i+1))=aj i+1 by omega,pE,mf a b]
  rfl
 rw[e];simp[gG]
def Cs{g:α->ak}{ps:List α}(i:Nat):ah (gG g (ps.take i))<=ah (gG g ps):=by
 have:gG g ps=gG g (ps.take i)++gG g (ps.drop i):=by
  unfold gG;rw[<-List.flatMap_append,qw]
 rw[this];simp
def anW [Inhabited α]{f:α->AV}{g:α->ak}(w:∀p,f p = .aJ/\g p=[]\/∃b,f p = .aX b ((g p).map .int)) (ps:List α) (A:(ah ps:Int)<=1000000) (h:(ah (gG g ps):Int)<=1000000):PC zm [.aX ae (ps.map f)]=aa (iL (gG g ps)):=by
 refine cB (S6 rfl ?_);simp;refine bB (λi:Int=>[(1,.int i),(4,.int (ah (gG g (ps.take (aj i))):Int))]) (λ_=>[]) (λi=>0<=i/\i<=ah ps) (λi=>aj (ah ps-i)) 0 rfl aA λi ⟨x,i1⟩=>?_
 by_cases r:i<ah ps
 .have e:=Ma (g:=g) x r
  have C:=Cs (g:=g) (ps:=ps) (aj i);have m:=Cs (g:=g) (ps:=ps) (aj (i+1));rw[e]at m;simp at m;rcases w (ix ps i)with⟨d,s⟩|⟨q,d⟩
  .simp[-aK,r,x,d]
   refine⟨ax,ax,a8 (i+1) (by simp[e,s]) rfl ⟨ax,ax⟩ ax⟩
  .simp[-aK,r,x,d]
   refine⟨ax,ax,λ_=>⟨ax,a8 (i+1) fX rfl ⟨ax,ax⟩ ax⟩⟩
 .have wS:ps.take (aj i)=ps:=gN ax
  rw[wS]
  by_cases D:ah (gG g ps)=0
  .have B:gG g ps=[]:=eK D
   simp[-aK,r,B,Uz,iz];refine bB (λi:Int=>[(6,.int i)]) (λ_=>[]) (λi=>0<=i/\i<=ah ps) (λi=>aj (ah ps-i)) 0 rfl aA λj ⟨o,E⟩=>?_
   by_cases l:j<ah ps
   .have y:g (ix ps j)=[]:=by
     have:=Ma (g:=g) o l;have m:=Cs (g:=g) (ps:=ps) (aj (j+1));rw[this]at m;simp at m;exact eK ax
    rcases w (ix ps j)with⟨d,s⟩|⟨q,d⟩
    .simp[l,o,d];omega
    .rw[y]at d
     simp[l,o,d];omega
   .simp[l]
  .have F:=Uy (ah (gG g ps)) ax ax
   simp[-aK,-List.map_replicate,r,F,iz,gl,Ux];refine bB (λi:Int=>[(6,.int i),(9,.sl 0 (ah (gG g ps)) 0 (ah (gG g (ps.take (aj i)))))]) (λi=>[⟨ab,(gG g (ps.take (aj i))).map .int++ag (ah (gG g ps)-ah (gG g (ps.take (aj i)))) (.int 0),.live⟩]) (λi=>0<=i/\i<=ah ps) (λi=>aj (ah ps-i)) 0 (by simp[fj,gG]) aA λj ⟨o,E⟩=>?_
   by_cases l:j<ah ps
   .have e:=Ma (g:=g) o l
    have C:=Cs (g:=g) (ps:=ps) (aj j);have m:=Cs (g:=g) (ps:=ps) (aj (j+1));rw[e]at m;simp at m;have A:=UA (a:=gG g (ps.take (aj j))) (b:=g (ix ps j)) (n:=ah (gG g ps)) m;have done:g (ix ps j)=[]->gG g (ps.take (aj (j+1)))=gG g (ps.take (aj j)):=λh=>by rw[e,h];simp
    rcases w (ix ps j)with⟨d,s⟩|⟨q,d⟩
    .simp[-aK,-List.map_replicate,l,o,d]
     refine⟨ax,ax,ax,a8 (j+1) (by simp[done s]) (by simp only[done s]) ⟨ax,ax⟩ ax⟩
    .by_cases u:g (ix ps j)=[]
     .rw[u]at d
      simp[-aK,-List.map_replicate,l,o,d];refine⟨ax,ax,ax,a8 (j+1) (by simp[done u]) (by simp only[done u]) ⟨ax,ax⟩ ax⟩
     .have G:0<ah (g (ix ps j)):=nc.2 u
      simp[-aK,-List.map_replicate,l,o,d,u];refine⟨ax,ax,λB=>ax,λ_=>⟨ax,ax,a8 (j+1) fX (by simp only[e,bM];rw[<-A]) ⟨ax,ax⟩ ax⟩⟩
   .have z:ps.take (aj j)=ps:=gN ax
    rw[z];have H:=sw (σ:=[⟨ab,(gG g ps).map .int,.live⟩]) (fr:=ae) (b:=0) (xs:=gG g ps) (st:=.live) rfl aA rfl
    simp[l,H]
inductive Tf where
 |f|wo|fd|rd|dn
 |bk (n:Nat)
 deriving DecidableEq
def qb:Option ak->AV
 |none=>.aJ
 |some w=>.aX ad (w.map .int)
structure Fd where
 W:List (Option ak)
 F:List Bool
 R:al
 N:ak
def Fd.eM (S:Fd) (n:Nat):ak:=ix S.R (n:Int)
def Fd.cont (S:Fd) (va:AV) (p:Tf->Nat):Tf->Option aO
 |.f=>aa ⟨aa 5,[va,.sl (p .wo) (ah S.W) 0 (ah S.W),.sl (p .fd) (ah S.F) 0 (ah S.F),.sl (p .rd) (ah S.R) 0 (ah S.R),dh (p .dn) (ah S.N)],.live⟩
 |.wo=>aa ⟨ab,S.W.map qb,.live⟩
 |.fd=>aa ⟨ab,S.F.map .bool,.live⟩
 |.rd=>aa ⟨ab,(af (ah S.R)).map λn=>dh (p (.bk n)) (ah (S.eM n)),.live⟩
 |.dn=>if S.N=[]then ab else aa (Zb S.N)
 |.bk n=>if n<ah S.R/\S.eM n ≠ []then aa (Zb (S.eM n))else ab
structure FS (S:Fd) (va:AV) (p:Tf->Nat) (σ:aq):Prop where
 has:∀t B,S.cont va p t=aa B->aQ σ (p t)=aa B
 inj:∀t u A B,S.cont va p t=aa A->S.cont va p u=aa B->p t=p u->t=u
variable{S:Fd}{va:AV}{p:Tf->Nat}{σ:aq}{t:Tf}{A B:aO}
def FS.ne(h:FS S va p σ){u:Tf}(ht:S.cont va p t=aa A) (hu:S.cont va p u=aa B) (hn:t ≠ u):p t ≠ p u:=λe=>hn (h.inj t u A B ht hu e)
def FS.lt(h:FS S va p σ)(ht:S.cont va p t=aa A):p t<ah σ:=cX (h.has t A ht)
variable{p': Tf->Nat}{τ:aq}
def FS.step{D D' : Fd}{p: Tf->Nat}(h:FS D va p σ) (Ch:Tf->Prop)
  (h1:∀t,¬Ch t->D'.cont va p' t=D.cont va p t/\p' t=p t)
  (h2:∀t B,Ch t->D'.cont va p' t=aa B->aQ τ (p' t)=aa B)
  (h3:∀t B,¬Ch t->D.cont va p t=aa B->aQ τ (p t)=aa B)
  (h4:∀t B,Ch t->D'.cont va p' t=aa B->((∃A,D.cont va p t=aa A)/\p' t=p t)\/ah σ<=p' t)
  (h5:∀t u,Ch t->Ch u->ah σ<=p' t->p' t=p' u->t=u):FS D' va p' τ:=by
 have key:∀t B,D'.cont va p' t=aa B->((∃A,D.cont va p t=aa A)/\p' t=p t)\/(Ch t/\ah σ<=p' t):=λt B hB=>by
  by_cases hc:Ch t
  .exact(h4 t B hc hB).imp id λq=>⟨hc,q⟩
  .obtain⟨e1,e2⟩:=h1 t hc
   rw[e1]at hB;exact .inl ⟨⟨B,hB⟩,e2⟩
 refine⟨λt B hB=>?_,λt u A B hA hB e=>?_⟩
 .by_cases hc:Ch t
  .exact h2 t B hc hB
  .obtain⟨e1,e2⟩:=h1 t hc
   rw[e1]at hB;rw[e2];exact h3 t B hc hB
 .rcases key t A hA with⟨⟨A', wU⟩,e1⟩|⟨c1,e1⟩
  .rcases key u B hB with⟨⟨B', Ai⟩,e2⟩|⟨c2,e2⟩
   .exact h.inj t u A' B' wU Ai (by rw[<-e1,<-e2];exact e)
   .have:=h.lt wU; omega
  .rcases key u B hB with⟨⟨B', Ai⟩,e2⟩|⟨c2,e2⟩
   .have:=h.lt Ai; omega
   .exact h5 t u c1 c2 e1 e
def PE (p p' : Tf->Nat):Prop:=p' .f=p .f/\p' .dn=p .dn
def FS.more(h:FS S va p σ) (hb:∀b,b<ah σ->aQ τ b=aQ σ b):FS S va p τ:=
 ⟨λt B hB=>by rw[hb _ (h.lt hB)];exact h.has t B hB,h.inj⟩
def zE:Bool×Option ak->AV
 |(_,ab)=>.aJ
 |(b,aa w)=>.aX b (w.map .int)
def cL (ps:List (Bool×Option ak)):ak:=ps.flatMap λo=>o.2.getD []
variable{ps:List (Bool×Option ak)}
def anX{o:Bool×Option ak}:cL (ps ++ [o])=cL ps++o.2.getD []:=by simp[cL]
def Mb:IC:=(.seq (.cM T1)
 (.cond 76 (.cM Lj) .skip))
def Mc:IC:=(.seq (.cM TZ) Mb)
def Md:IC:=(.seq (.seq (.cM TY)
 (.cond 61 .ret .skip)) Mc)
def anY:IC:=(.seq (.seq (.cM Li) (.km 9)) Md)
def ZK:IC:=(.seq (.seq (.cM TX)
 (.cond 49 .ret .skip)) anY)
structure Me (S:Fd):Prop where
 f:ah S.F=ah S.W
 r:ah S.R=1025
 n:ah S.W<=512
 b:∀n,ah (S.eM n)<=100000
variable{x:Nat}{b:Bool}
def anZ (S:Fd)(h:FS S va p σ) (z:Me S)(l:x<ah S.W) (ps:List (Bool×Option ak)) (m:ah (cL ps)<=5000) (n:ah ps<=10){K:AV->aq->Prop}
  (r:WK L ZK [.ptr (p .f) 5 0,.int x,.aX b (ps.map zE),.aW,.aW,.aW,.int (ah (cL ps)),.aW,qb (ix S.W (x:Int)),.aW] ab σ (iq uW K)):LX L wM [.ptr (p .f) 5 0,.int x,.aX b (ps.map zE)] σ K:=by
 refine akm rfl ?_;have s:=h.has .f _ rfl;have g:=h.has .wo _ rfl;show WK L (.seq (.cM TT)
 (.seq (.seq (.cM TU)
 (.block 0 (.loop TV)))
 (.seq (.cM TW) ZK))) _ ab σ _
 simp[-aK];refine bB (λk:Nat=>[(3,.int k),(6,.int (ah (cL (ps.take k))))]) (λ_=>σ) (λk=>k<=ah ps) (λk=>ah ps-k) 0 (by simp[fj,cL]) ax ?_
 intro k A
 by_cases i:k<ah ps
 .have tk:ps.take (k+1)=ps.take k ++ [ix ps (k:Int)]:=lZ i
  have a:=anX (ps:=ps.take k) (o:=ix ps (k:Int));have hle:ah (cL (ps.take (k+1)))<=ah (cL ps):=by
   have e:cL ps=cL (ps.take (k+1))++cL (ps.drop (k+1)):=by unfold cL;rw[<-List.flatMap_append,qw]
   rw[e];simp
  rw[tk,a,bM]at hle;have u:=bz (show(k:Int)<(ah ps:Int)by omega)
  rcases d:ix ps (k:Int)with⟨q,_|w⟩
  .rw[d]at a hle
   have j:ix (ps.map zE) (k:Int) = .aJ:=by rw[kv ax ax,d];rfl
   simp[-aK,i,j,d,zE];exact⟨ax,ax,a8 (k+1) (by rw[tk,d,a];simp) rfl ax ax⟩
  .rw[d]at a hle
   simp at hle;simp[-aK,i,d,zE];exact⟨ax,ax,a8 (k+1) (by rw[tk,d,a];simp) rfl ax ax⟩
 .have y:k=ah ps:=by omega
  subst y;simp[-aK,s,g,l];exact r
def Fd.off (S:Fd) (x:Nat) (c:ak):Fd:=
 if 1024<ah c\/ix S.F (x:Int)=ad then S
 else match ix S.W (x:Int)with
  |none=>{S with W:=S.W.set x (aa c),R:=S.R.set (ah c) (S.eM (ah c) ++ [(x:Int)])}
  |some o=>if bD o c<=0 then S else {S with W:=S.W.set x (aa c),R:=if (ah c)<ah o then S.R.set (ah c) (S.eM (ah c) ++ [(x:Int)])else S.R}
theorem an0:cL ps=gG (λo=>o.2.getD []) ps:=rfl
def an1 (ps:List (Bool×Option ak)) (a:ah ps<=10) (h:ah (cL ps)<=5000):PC zm [.aX ae (ps.map zE)]=aa (iL (cL ps)):=
 anW (f:=zE) (g:=λo=>o.2.getD []) (λo=>by
  rcases o with⟨q,_|w⟩
  .exact .inl ⟨rfl,rfl⟩
  .exact .inr ⟨q,rfl⟩) ps ax (by rw[<-an0];omega)
def VF{b:Nat}(i:ah ps<=10) (d:ah (cL ps)<=5000){q:Bool}{o:AV}{R:IC}{Q:Ex->St->Prop}
  (h:∀τ,(∀c,c<ah σ->aQ τ c=aQ σ c)->WK L R [.ptr b 5 0,.int x,.aW,.aW,.aW,.aW,.int (ah (cL ps)),.aW,o,.aX ad ((cL ps).map .int)] ab τ Q) :
  WK L (.seq (.seq (.cM Li) (.km 9)) R) [.ptr b 5 0,.int x,.aX q (ps.map zE),.aW,.aW,.aW,.int (ah (cL ps)),.aW,o,.aW] ab σ Q:=by
 have e:=an1 ps i d
 by_cases a:cL ps=[]
 .rw[a]at e h ⊢
  simp[-aK,e];refine⟨0,.fe,_,rfl,?_⟩;have:=h (bR (λb=>([]:List Nat).contains b) 0 σ) λc _=>by rw[nK];cases aQ σ c<;>rfl
  exact this
 .simp[-aK,e,a]
  refine⟨ax,?_⟩
  refine Cf (b:=ah σ) (l:=cL ps) ?_ rfl rfl ?_
  .have:=gZ (Q:=σ) (r:=[]) (B:=gr (cL ps))
   unfold gr at this;rw[aC a]at this;unfold gr;rw[aC a];exact this
  have:=h (aV (σ ++ [⟨ab,(cL ps).map .int,.live⟩]) (ah σ) ⟨ab,(cL ps).map .int,.dead⟩) λc g=>by
   rw[bu ax]
   rw[bE,bE,dq g]
  rw[show decide (cL ps ≠ [])=ad from qv a];exact this
def an2 (S:Fd)(h:FS S va p σ) (D:Me S)(E:x<ah S.W) (ps:List (Bool×Option ak)) (s:ah (cL ps)<=5000) (u:ah ps<=10) (G:∀o,ix S.W (x:Int)=aa o->ah o<=1024)
  (C:∀τ o,FS S va p τ->ix S.W (x:Int)=o->(∀w,o=aa w->0<bD w (cL ps))->ah (cL ps)<=1024->ix S.F (x:Int)=ae->WK L Mc [.ptr (p .f) 5 0,.int x,.aW,.aW,.aW,.aW,.int (ah (cL ps)),.aW,qb o,.aX ad ((cL ps).map .int)] ab τ (iq uW λr τ=>r = .bY []/\∃p', PE p p' /\FS (S.off x (cL ps)) va p' τ)) :
  WK L ZK [.ptr (p .f) 5 0,.int x,.aX b (ps.map zE),.aW,.aW,.aW,.int (ah (cL ps)),.aW,qb (ix S.W (x:Int)),.aW] ab σ (iq uW λr τ=>r = .bY []/\∃p', PE p p' /\FS (S.off x (cL ps)) va p' τ):=by
 have m:=h.has .f _ rfl;have H:=h.has .wo _ rfl;have d:=h.has .fd _ rfl;have g:=bz (show x<ah S.F by rw[D.f];exact E)
 unfold ZK
 by_cases I:1024<ah (cL ps)
 .have a :=bz (show(1024:Int)<(ah (cL ps):Int)by omega)
  have e:S.off x (cL ps)=S:=aD (.inl I);rw[e];cases n:ix S.W (x:Int)with
  |none=>
   simp[-aK,a, m,d,g,qb];exact⟨p,⟨rfl,rfl⟩,h⟩
  |some o=>
   simp[-aK,a, m,d,g,qb];exact⟨p,⟨rfl,rfl⟩,h⟩
 have a :=eG (show ¬(1024:Int)<(ah (cL ps):Int)by omega)
 by_cases A:ix S.F (x:Int)=ad
 .have e:S.off x (cL ps)=S:=aD (.inr A)
  rw[e];cases n:ix S.W (x:Int)with
  |none=>
   simp[-aK,a, m,d,g,qb,A];exact⟨p,⟨rfl,rfl⟩,h⟩
  |some o=>
   simp[-aK,a, m,d,g,qb,A];exact⟨p,⟨rfl,rfl⟩,h⟩
 have i : ix S.F (x:Int)=ae:=by simpa using A
 cases n:ix S.W (x:Int)with
 |none=>
  simp[-aK,a, m,d,g,qb,i];refine VF u s λτ q=>?_;have B:=h.more q;unfold Md;simp[-aK];exact C τ ab B n (λw h=>fE) ax i
 |some o=>
  have J:=G o n;have y:PC oP [.aX ae (o.map .int),.aX ae ((cL ps).map .int)]=aa (.int (bD o (cL ps))):=zz o (cL ps) ax ax
  by_cases z:ah o<ah (cL ps)
  .have j :=bz z
   have e:S.off x (cL ps)=S:=by
    unfold Fd.off;rw[aC (by simp[i];omega),n]
    simp only;rw[aD];unfold bD;rw[aD ax]
    omega
   rw[e];simp[-aK,a, m,d,g,qb,i, j];exact⟨p,⟨rfl,rfl⟩,h⟩
  .have j :=eG z
   simp[-aK,a, m,d,g,qb,i, j];refine VF u s λτ q=>?_;have B:=h.more q;unfold Md
   by_cases hle:bD o (cL ps)<=0
   .have e:S.off x (cL ps)=S:=by
     unfold Fd.off;rw[aC (by simp[i];omega),n]
     exact aD hle
    rw[e];have l :=bz hle;simp[-aK,y,l];exact⟨p,⟨rfl,rfl⟩,B⟩
   .have l :=eG hle
    simp[-aK,y,l];exact C τ (aa o) B n (λw h=>by injection h with h;subst h;omega) ax i
variable{o:Option ak}
def FS.word(h:FS S va p σ):FS {S with W:=S.W.set x o} va p (aV σ (p .wo) ⟨ab,(S.W.map qb).set x (qb o),.live⟩):=by
 refine h.step (λt=>t = .wo) (λt ht=>⟨?_,rfl⟩) (λt B ht hB=>?_) (λt B ht hB=>?_) (λt B ht hB=>.inl ⟨⟨_,by subst ht;rfl⟩,rfl⟩) λt u ht hu _ _=>by rw[ht,hu]
 .cases t with
  |wo=>exact absurd rfl ht
  |f=>simp[Fd.cont]
  |_=>rfl
 .subst ht
  have:Fd.cont {S with W:=S.W.set x o} va p .wo=aa ⟨ab,(S.W.map qb).set x (qb o),.live⟩:=by simp[Fd.cont,List.map_set]
  rw[this]at hB;rw[cQ (h.lt (t:=.wo) rfl)];exact hB
 .rw[bu (h.ne (t:=.wo) rfl hB (Ne.symm ht))]
  exact h.has t B hB
variable{n:Nat}{l:ak}
def Ct(a:n<ah S.R) (m:Nat):Fd.eM {S with R:=S.R.set n l} m=if m=n then l else S.eM m:=jZ a m
def FS.push{p: Tf->Nat}(h:FS S va p σ)(hn:n<ah S.R) (hl:l ≠ []) (hp:∀t,t ≠ .bk n->p' t=p t)
  (h2:aQ τ (p' (.bk n))=aa (Zb l)) (AG : aQ τ (p .rd)=aa ⟨ab,((af (ah S.R)).map λm=>dh (p (.bk m)) (ah (S.eM m))).set n (.sl (p' (.bk n)) (ah l) 0 (ah l)),.live⟩)
  (h3:∀t B,t ≠ .rd->t ≠ .bk n->S.cont va p t=aa B->aQ τ (p t)=aa B)
  (h4:(S.eM n ≠ []/\p' (.bk n)=p (.bk n))\/ah σ<=p' (.bk n)):FS {S with R:=S.R.set n l} va p' τ:=by
 have hlen:ah (S.R.set n l)=ah S.R:=aA
 have LJ:Fd.cont {S with R:=S.R.set n l} va p' .rd=aa ⟨ab,((af (ah S.R)).map λm=>dh (p (.bk m)) (ah (S.eM m))).set n (.sl (p' (.bk n)) (ah l) 0 (ah l)),.live⟩:=by
  show aa (⟨ab,(af (ah (S.R.set n l))).map λm=>dh (p' (.bk m)) (ah (Fd.eM {S with R:=S.R.set n l} m)),.live⟩:aO)=_
  rw[hlen]
  congr 2
  apply gF aA
  intro i h1 _;simp at h1;rw[jm];simp only[gq,jn,Ct hn]
  by_cases e:n=i
  .subst e
   rw[aD rfl,aD rfl];exact aC λe=>hl (eK e)
  .rw[aC e,aC (Ne.symm e),hp _ (by simp;exact λe' =>e e'.symm)]
 have yc:Fd.cont {S with R:=S.R.set n l} va p' (.bk n)=aa (Zb l):=by
  show(if n<ah (S.R.set n l)/\Fd.eM {S with R:=S.R.set n l} n ≠ []then aa (Zb (Fd.eM {S with R:=S.R.set n l} n))else ab)=_
  rw[Ct hn,aD rfl,hlen,aD ⟨hn,hl⟩]
 refine h.step (λt=>t = .rd\/t = .bk n) (λt ht=>?_) (λt B ht hB=>?_) (λt B ht hB=>h3 t B (λe=>ht (.inl e)) (λe=>ht (.inr e)) hB) (λt B ht hB=>?_) λt u ht hu cw e=>?_
 .have t1:t ≠ .rd:=λe=>ht (.inl e)
  have t2:t ≠ .bk n:=λe=>ht (.inr e);refine⟨?_,hp t t2⟩;cases t with
  |rd=>exact absurd rfl t1
  |f=>simp[Fd.cont,hp]
  |bk m=>
   have hm:m ≠ n:=λe=>t2 fk
   show(if m<ah (S.R.set n l)/\Fd.eM {S with R:=S.R.set n l} m ≠ []then aa (Zb (Fd.eM {S with R:=S.R.set n l} m))else ab)=if m<ah S.R/\S.eM m ≠ []then aa (Zb (S.eM m))else ab
   rw[hlen,Ct hn,aC hm]
  |_=>rfl
 .rcases ht with rfl|rfl
  .rw[LJ]at hB;rw[hp _ aA,AG];exact hB
  .rw[yc]at hB;rw[h2];exact hB
 .rcases ht with rfl|rfl
  .exact .inl ⟨⟨_,rfl⟩,hp _ aA⟩
  .exact h4.imp (λq=>⟨⟨_,aD ⟨hn,q.1⟩⟩,q.2⟩) id
 .have q:=h.lt (t:=.rd) rfl
  rcases ht with rfl|rfl
  .rw[hp _ aA]at cw;omega
  .rcases hu with rfl|rfl
   .rw[hp .rd aA]at e;omega
   .rfl
def vK (o:Option ak) (c:ak):Bool:=match o with
 |none=>ad
 |some w=>decide (ah c<ah w)
def Fd.qS (S:Fd) (n x:Nat):Fd:={S with R:=S.R.set n (S.eM n ++ [(x:Int)])}
variable{w:ak}
def an3 (S:Fd)(h:FS S va p σ) (I:Me S)(o:Option ak)(O:n=ah w) (P:n<=1024) (s:Fd) (g:s=if vK o w=ad then S.qS n x else S) :
  WK L Mb [.ptr (p .f) 5 0,.int x,.aW,.aW,.aW,.aW,.int n,.aW,qb o,.aW] ab σ (iq uW λr τ=>r = .bY []/\∃p', PE p p' /\FS s va p' τ):=by
 unfold Mb;have y:=h.has .f _ rfl;have l:=h.has .rd _ rfl;subst O;have a:ah w<ah S.R:=by have:=I.r;omega
 have go:vK o w=ad->WK L (.cM Lj) [.ptr (p .f) 5 0,.int x,.aW,.aW,.aW,.aW,.int (ah w),.aW,.aW,.aW] ab σ (iq uW λr τ=>r = .bY []/\∃p', PE p p' /\FS s va p' τ):=λT=>by
  rw[aD T]at g;subst g;have W:=I.b (ah w);have z:ix (af (ah S.R)) (ah w:Int)=ah w:=by rw[bt iQ];simp
  have J:ix (af (ah S.R)) (0+(ah w:Int)*1)=ah w:=by rw[<-z];congr 1;omega
  have K:S.eM (ah w) ++ [(x:Int)] ≠ []:=aA
  have U:=h.lt (t:=.rd) rfl;have X:=h.lt (t:=.f) rfl
  by_cases i:S.eM (ah w)=[]
  .have A:dh (p (.bk (ah w))) (ah (S.eM (ah w))) = .aJ:=by rw[i];rfl
   have C:∀B:aO,aQ (σ ++ [B]) (p .f)=_:=λB=>iu (r:=[B]) y;have D:∀B:aO,aQ (σ ++ [B]) (p .rd)=_:=λB=>iu (r:=[B]) l;simp[-aK,y,l,z,J,A,a,C,D];refine⟨ax,λt=>if t = .bk (ah w) then (ah σ) else p t,⟨aA,aA⟩,?_⟩
   have E:∀t,t ≠ Tf.bk (ah w)->(λt=>if t=Tf.bk (ah w) then (ah σ) else p t) t=p t:=λt V=>aC V
   have q:(λt=>if t=Tf.bk (ah w) then (ah σ) else p t) (.bk (ah w))=ah σ:=aD rfl
   generalize (λt=>if t=Tf.bk (ah w) then (ah σ) else p t)=p' at *
   have F:p .rd<ah (σ ++ [(⟨ab,[AV.int x],.live⟩:aO)]):=aT
   refine h.push a K E ?_ ?_ (λt B G M m=>?_) (.inr ax)
   .rw[q,bu ax,gZ,i];rfl
   .rw[cQ F,q,show(AV.sl (ah σ) 1 0 1).cells=[AV.sl (ah σ) 1 0 1]from rfl,tD,i];rfl
   .rw[bu (h.ne (t:=.rd) rfl m (Ne.symm G))];exact iu (h.has t B m)
  .have A:dh (p (.bk (ah w))) (ah (S.eM (ah w))) = .sl (p (.bk (ah w))) (ah (S.eM (ah w))) 0 (ah (S.eM (ah w))):=aC λe=>i (eK e)
   have H:=h.has (.bk (ah w)) _ (aD ⟨a,i⟩);have N:p (.bk (ah w)) ≠ p .rd:=h.ne (t:=.bk (ah w)) (u:=.rd) (aD ⟨a,i⟩) rfl aA
   have b1:∀(Q:aq) B,aQ (aV Q (p (.bk (ah w))) B) (p .rd)=aQ Q (p .rd):=λQ B=>bu N;simp[-aK,y,l,z,J,A,a,H,b1];refine⟨ax,ax,p,⟨rfl,rfl⟩,?_⟩
   have F:=h.lt (t:=.bk (ah w)) (aD ⟨a,i⟩);refine h.push a K (λ_ _=>rfl) ?_ ?_ (λt B G M m=>?_) (.inl ⟨i,rfl⟩)
   .rw[bu N.symm,cQ F];simp
   .rw[cQ (by rw[cV];exact U),show(AV.sl (p (.bk (ah w))) (ah (S.eM (ah w))+1) 0 (ah (S.eM (ah w))+1)).cells=[AV.sl (p (.bk (ah w))) (ah (S.eM (ah w))+1) 0 (ah (S.eM (ah w))+1)]from rfl,tD]
    simp
   .rw[bu (h.ne (t:=.rd) rfl m (Ne.symm G)),bu (h.ne (t:=.bk (ah w)) (aD ⟨a,i⟩) m (Ne.symm M))];exact h.has t B m
 cases o with
 |none=>
  have:=go rfl;simp[-aK,qb]at this ⊢;exact this
 |some u=>
  by_cases j:ah w<ah u
  .have d :=bz j
   have:=go (by simpa[vK]using j)
   simp[-aK,qb,d]at this ⊢;exact this
  .have d :=eG j
   rw[aC (by simpa[vK]using j)]at g
   subst g;simp[-aK,qb,d];exact⟨p,⟨rfl,rfl⟩,h⟩
def jc:ak->List Bool->ak×List Bool
 | [],F=>([],F)
 |x::l,F=>if ix F x=ad then jc l F else((x::(jc l (F.set (aj x) ad)).1),(jc l (F.set (aj x) ad)).2)
def Mf:∀(l:ak) (x:Int) (F:List Bool),jc (l ++ [x]) F=if ix (jc l F).2 x=ad then jc l F else((jc l F).1 ++ [x],(jc l F).2.set (aj x) ad)
 | [],x,F=>by
  show(if ix F x=ad then([],F)else([x],F.set (aj x) ad))=_
  by_cases e:ix F x=ad<;>simp[e,jc]
 |a::l,x,F=>by
  simp only[kK,jc];split
  .exact Mf l x F
  .rw[Mf l x _]
   split
   .rfl
   .rfl
def Cu:∀(l:ak) (F:List Bool),ah (jc l F).2=ah F/\ah (jc l F).1<=ah l
 | [],F=>⟨rfl,bG _⟩
 |a::l,F=>by
  simp only[jc];split
  .have:=Cu l F;exact⟨this.1,aT⟩
  .have:=Cu l (F.set (aj a) ad);exact⟨by simpa using this.1,aT⟩
variable{F:List Bool}
def FS.found(h:FS S va p σ)(hl:ah F=ah S.F):FS {S with F:=F} va p (aV σ (p .fd) ⟨ab,F.map .bool,.live⟩):=by
 refine h.step (λt=>t = .fd) (λt ht=>⟨?_,rfl⟩) (λt B ht hB=>?_) (λt B ht hB=>?_) (λt B ht hB=>.inl ⟨⟨_,by subst ht;rfl⟩,rfl⟩) λt u ht hu _ _=>by rw[ht,hu]
 .cases t with
  |fd=>exact absurd rfl ht
  |f=>simp[Fd.cont,hl]
  |_=>rfl
 .subst ht
  have:Fd.cont {S with F:=F} va p .fd=aa ⟨ab,F.map .bool,.live⟩:=rfl
  rw[this]at hB;rw[cQ (h.lt (t:=.fd) rfl)];exact hB
 .rw[bu (h.ne (t:=.fd) rfl hB (Ne.symm ht))]
  exact h.has t B hB
def FS.Cv(h:FS S va p σ){b:Nat}(hb:∀t A,S.cont va p t=aa A->p t ≠ b):FS S va p (aV σ b B):=
 ⟨λt A hA=>by rw[bu (Ne.symm (hb t A hA))];exact h.has t A hA,h.inj⟩
def VG(h:Fd.cont {S with F:=F} va p t=aa A):∃B,S.cont va p t=aa B:=by
 cases t with
 |f=>exact⟨_,rfl⟩
 |wo=>exact⟨_,rfl⟩
 |fd=>exact⟨_,rfl⟩
 |rd=>exact⟨_,rfl⟩
 |dn=>exact⟨A,h⟩
 |bk n=>exact⟨A,h⟩
def an4 (S:Fd)(h:FS S va p σ) (H:Me S)(hn:n<=1024) (X:∀y∈S.eM n,0<=y/\y<(ah S.W:Int)) :
  LX L KU [.ptr (p .f) 5 0,.int n] σ (λr τ=>r = .sl (ah σ) (ah (jc (S.eM n) S.F).1) 0 (ah (jc (S.eM n) S.F).1)/\FS {S with F:=(jc (S.eM n) S.F).2} va p τ/\aQ τ (ah σ)=aa (gr (jc (S.eM n) S.F).1)/\ah σ<ah τ):=by
 refine akn rfl ?_;have Y:=h.has .f _ rfl;have I:=h.has .rd _ rfl;have g:n<ah S.R:=by have:=H.r;omega
 have D:=H.b n;have u:∀B:aO,aQ (σ ++ [B]) (p .f)=_:=λB=>iu (r:=[B]) Y;have w:∀B:aO,aQ (σ ++ [B]) (p .rd)=_:=λB=>iu (r:=[B]) I;have J:ix (af (ah S.R)) (n:Int)=n:=by rw[bt (by simpa using g)];simp
 have V:ix (af (ah S.R)) (0+(n:Int)*1)=n:=by rw[<-J];congr 1;omega
 by_cases E:S.eM n=[]
 .have K:dh (p (.bk n)) (ah (S.eM n)) = .aJ:=by rw[E];rfl
  have Z:jc (S.eM n) S.F=([],S.F):=by rw[E];rfl
  rw[Z];simp[-aK,u,w,J,V,K,g];refine bB (λ_:Unit=>[]) (λ_=>σ ++ [gr []]) (λ_=>True) (λ_=>0) () bS trivial ?_
  rintro⟨⟩ _;simp[-aK];exact⟨h.more λb D=>by rw[bE,bE,dq D],gZ⟩
 .have K:dh (p (.bk n)) (ah (S.eM n)) = .sl (p (.bk n)) (ah (S.eM n)) 0 (ah (S.eM n)):=aC λe=>E (eK e)
  simp[-aK,u,w,J,V,K,g];generalize hl:S.eM n=l at *;refine bB (λq:Nat×aq=>[(2,.int q.1),(6,.sl (ah σ) (ah (jc (l.take q.1) S.F).1) 0 (ah (jc (l.take q.1) S.F).1))]) (λq=>q.2) (λq=>q.1<=ah l/\FS {S with F:=(jc (l.take q.1) S.F).2} va p q.2/\aQ q.2 (ah σ)=aa (gr (jc (l.take q.1) S.F).1)/\ah σ<ah q.2) (λq=>ah l-q.1) (0,σ ++ [gr []]) (by simp[fj,jc]) ⟨aA,h.more λb D=>by rw[bE,bE,dq D],gZ,aA⟩ ?_
  rintro⟨k,x⟩ ⟨k0,s,i,d⟩;dsimp only at k0 s i d ⊢;have z:=s.has .f _ rfl;have j:=s.has .fd _ rfl;have m:=s.has (.bk n) (Zb l) (by
   show(if n<ah S.R/\S.eM n ≠ []then aa (Zb (S.eM n))else ab)=_
   rw[hl,aD ⟨g,E⟩])
  have M:=(Cu (l.take k) S.F).1;have VH:=(Cu (l.take k) S.F).2;have hml:ah (l.take k)<=ah l:=aT
  by_cases N:k<ah l
  .have tk:=lZ N
   have a:=Mf (l.take k) (ix l (k:Int)) S.F;rw[<-tk]at a;have O:=X _ (bh (l:=l) (n:=(k:Int)) ax ax)
   have P:ix l (k:Int)<(ah (jc (l.take k) S.F).2:Int):=by rw[M,H.f];exact O.2
   have nf:p .fd ≠ ah σ:=by have:=h.lt (t:=.fd) rfl;omega
   have C:=s.found (F:=(jc (l.take k) S.F).2.set (aj (ix l (k:Int))) ad) aA
   generalize jc (l.take k) S.F=T at *;obtain⟨out,F⟩:=T;dsimp only at *;have o :=eq_true P
   by_cases G:ix F (ix l (k:Int))=ad
   .rw[aD G]at a
    simp[-aK,N,z,j,m,O.1,o, G];exact⟨ax,a8 (k+1,x) gf rfl ⟨aR,by dsimp only;rw[a];exact s,by dsimp only;rw[a];exact i,d⟩ aR⟩
   .rw[aC G]at a
    have Q : ix F (ix l (k:Int))=ae:=by simpa using G
    have U:∀B,aQ (aV x (p .fd) B) (ah σ)=aa (gr out):=λB=>by rw[bu nf];exact i
    simp[-aK,N,z,j,m,O.1,o, Q, U];refine⟨iB,ax,ax,a8 (k+1,_) gf rfl ⟨aR,?_,?_,by dsimp only;rw[cV,cV];exact d⟩ aR⟩
    .dsimp only
     rw[a];rw[List.map_set]at C;exact C.Cv λt A hA=>by
      obtain⟨B,hB⟩:=VG hA;have:=h.lt hB;omega
    .dsimp only
     rw[a,cQ (by rw[cV];exact d)]
     simp
  .have ek:k=ah l:=by omega
   subst ek;rw[List.take_length]at *;simp[-aK];exact⟨s,i,d⟩
variable{c:ak}
def Mg(b:ix S.W (x:Int)=o) (a:∀w,o=aa w->0<bD w c) (g:ah c<=1024) (d:ix S.F (x:Int)=ae):S.off x c=if vK o c=ad then Fd.qS {S with W:=S.W.set x (aa c)} (ah c) x else {S with W:=S.W.set x (aa c)}:=by
 unfold Fd.off;rw[aC (by simp[d];omega),b]
 cases o with
 |none=>rfl
 |some w=>
  have:=a w rfl;simp only;rw[aC ax]
  by_cases e:ah c<ah w
  .rw[aD e,aD (by simpa[vK]using e)];rfl
  .rw[aC e,aC (by simpa[vK]using e)]
def Mh (S:Fd)(h:FS S va p σ) (a:Me S)(j:x<ah S.W) (ps:List (Bool×Option ak)) (d:ah (cL ps)<=5000) (g:ah ps<=10) (w:∀o,ix S.W (x:Int)=aa o->ah o<=1024) (b:Bool) :
  LX L wM [.ptr (p .f) 5 0,.int x,.aX b (ps.map zE)] σ (λr τ=>r = .bY []/\∃p', PE p p' /\FS (S.off x (cL ps)) va p' τ):=by
 refine anZ S h a j ps d g (an2 S h a j ps d g w λτ o i y l s z=>?_);unfold Mc;have A:=i.has .f _ rfl;have m:=i.has .wo _ rfl;have C:p .wo ≠ p .f:=i.ne (t:=.wo) (u:=.f) rfl rfl aA
 simp[-aK,A,m,j];have B:=i.word (x:=x) (o:=aa (cL ps));have e:(AV.aX ad ((cL ps).map .int)).cells=[qb (aa (cL ps))]:=rfl;rw[e,tD];have q:Me {S with W:=S.W.set x (aa (cL ps))}:=⟨by simp[a.f],a.r,by simp[a.n],a.b⟩
 exact⟨ax,an3 _ B q o rfl s _ (Mg y l s z)⟩
structure nU (S:Fd):Prop where
 f:ah S.F=ah S.W
 r:ah S.R=1025
 n:ah S.W<=512
 nd:∀n,(S.eM n).Nodup
 bm:∀n y,y∈S.eM n->(0<=y/\y<(ah S.W:Int))/\∃w,ix S.W y=aa w/\ah w<=n
 wl:∀x w,0<=x->x<(ah S.W:Int)->ix S.W x=aa w->ah w<=1024
def nU.ok(h:nU S):Me S:=⟨h.f,h.r,h.n,λn=>by
 have:=tB (ah S.W) (h.nd n) λy hy=>(h.bm n y hy).1;have:=h.n;omega⟩
def tG [Inhabited α]{l:List α}{k:Nat}{v:α}(a:k<ah l){j:Int}(b:0<=j):ix (l.set k v) j=if j=k then v else ix l j:=by
 have:=jZ (v:=v) a (aj j);rw[show((aj j:Nat):Int)=j by omega]at this
 rw[this]
 by_cases e:j=k
 .rw[aD e,aD ax]
 .rw[aC e,aC ax]
def Mi (S:Fd) (x:Nat) (c:ak):S.off x c=S\/(ah c<=1024/\ix S.F (x:Int)=ae/\(∀w,ix S.W (x:Int)=aa w->0<bD w c)/\((vK (ix S.W (x:Int)) c=ad/\S.off x c=Fd.qS {S with W:=S.W.set x (aa c)} (ah c) x)\/(vK (ix S.W (x:Int)) c=ae/\S.off x c={S with W:=S.W.set x (aa c)}))):=by
 by_cases b:1024<ah c\/ix S.F (x:Int)=ad
 .exact .inl (aD b)
 have h:ah c<=1024:=ax
 have i:ix S.F (x:Int)=ae:=by
  cases e:ix S.F (x:Int)with
  |false=>rfl
  |true=>exact absurd (.inr e) b
 by_cases j:∃w,ix S.W (x:Int)=aa w/\bD w c<=0
 .obtain⟨w,d,hle⟩:=j
  left;unfold Fd.off;rw[aC b,d];exact aD hle
 .right
  have a:∀w,ix S.W (x:Int)=aa w->0<bD w c:=λw d=>dP λg=>j ⟨w,d,ax⟩
  refine⟨h,i,a,?_⟩;have:=Mg rfl a h i;cases g:vK (ix S.W (x:Int)) c with
  |true=>rw[aD g]at this;exact .inl ⟨rfl,this⟩
  |false=>rw[aC jC]at this;exact .inr ⟨rfl,this⟩
def nU.off(h:nU S)(hx:x<ah S.W) (c:ak):nU (S.off x c):=by
 rcases Mi S x c with e|⟨hc,hf,Is,⟨hn,e⟩|⟨hn,e⟩⟩
 .rw[e];exact h
 .rw[e]
  have VI:(x:Int)∉S.eM (ah c):=λhm=>by
   obtain⟨_,w,hw,hl⟩:=h.bm _ _ hm;rw[hw]at hn;simp only[vK,fy]at hn;omega
  have qT:ah c<ah S.R:=by rw[h.r];omega
  have yc:∀m,Fd.eM (Fd.qS {S with W:=S.W.set x (aa c)} (ah c) x) m=if m=ah c then S.eM (ah c) ++ [(x:Int)]else S.eM m:=λm=>Ct (S:={S with W:=S.W.set x (aa c)}) qT m
  refine⟨by show (ah S.F)=ah (S.W.set x (aa c));simp[h.f],by show(ah (S.R.set _ _))=1025;simp[h.r],by show(ah (S.W.set x (aa c)))<=512;simp[h.n],λm=>?_,λm y hy=>?_,λz w z0 z1 hw=>?_⟩
  .rw[yc]
   split
   .rw[uy]
    exact⟨h.nd _,aA,λa ha b hb=>by simp at hb;subst hb;exact λe=>VI (e▸ha)⟩
   .exact h.nd m
  .rw[yc]at hy
   show(0<=y/\y<(ah (S.W.set x (aa c)):Int))/\∃w,ix (S.W.set x (aa c)) y=aa w/\ah w<=m;rw[pF];have key:y∈S.eM m->(0<=y/\y<(ah S.W:Int))/\∃w,ix (S.W.set x (aa c)) y=aa w/\ah w<=m:=λhy=>by
    obtain⟨hr,w,hw,hl⟩:=h.bm m y hy;refine⟨hr,?_⟩;rw[tG hx hr.1]
    by_cases e:y=x
    .subst e
     rw[hw]at hn;simp only[vK,fy]at hn;exact⟨c,aD rfl,ax⟩
    .exact⟨w,by rw[aC e];exact hw,hl⟩
   split at hy
   .rename_i em
    rcases dI.1 hy with hy|hy
    .exact key (by rw[em];exact hy)
    .simp at hy
     subst hy;exact⟨ax,c,by rw[tG hx ax,aD rfl],ax⟩
   .exact key hy
  .rw[show(Fd.qS {S with W:=S.W.set x (aa c)} (ah c) x).W=S.W.set x (aa c)from rfl]at hw z1
   rw[tG hx z0]at hw;split at hw
   .injection hw with hw;subst hw;exact hc
   .exact h.wl z w z0 (by simpa using z1) hw
 .rw[e]
  refine⟨by simp[h.f],h.r,by simp[h.n],h.nd,λm y hy=>?_,λz w z0 z1 hw=>?_⟩
  .obtain⟨hr,w,hw,hl⟩:=h.bm m y hy
   show(0<=y/\y<(ah (S.W.set x (aa c)):Int))/\∃w,ix (S.W.set x (aa c)) y=aa w/\ah w<=m;rw[pF,tG hx hr.1];refine⟨hr,?_⟩
   by_cases e:y=x
   .subst e
    have VJ:=Is w hw;rw[aD rfl];refine⟨c,rfl,?_⟩;have:¬ah w<ah c:=λcw=>by unfold bD at VJ;rw[aD ax]at VJ;omega
    omega
   .exact⟨w,by rw[aC e];exact hw,hl⟩
  .dsimp only at hw z1
   rw[tG hx z0]at hw;split at hw
   .injection hw with hw;subst hw;exact hc
   .exact h.wl z w z0 (by simpa using z1) hw
def Mj:ah (S.off x c).W=ah S.W/\(S.off x c).F=S.F/\(S.off x c).N=S.N:=by
 rcases Mi S x c with e|⟨_,_,_,⟨_,e⟩|⟨_,e⟩⟩<;>rw[e]<;>simp[Fd.qS]
variable{y:Int}
def VK(d:x<ah S.W)(g:0<=y) (b:ix S.F y=ad):ix (S.off x c).W y=ix S.W y:=by
 rcases Mi S x c with e|⟨_,a,_,⟨_,e⟩|⟨_,e⟩⟩
 .rw[e]
 .rw[e]
  show ix (S.W.set x (aa c)) y=_;rw[tG d g,aC λe=>by rw[e,a]at b;simp at b]
 .rw[e]
  show ix (S.W.set x (aa c)) y=_;rw[tG d g,aC λe=>by rw[e,a]at b;simp at b]
def Fd.enc (D:Vd) (x c y:Nat) (wx wy:ak) (S:Fd):Nat->Fd
 |0=>S
 |r+1=>(Fd.enc D x c y wx wy S r).off (aj (D.bk x c y r)) (wx++(c:Int)::(wy ++ [D.n.ay+D.n.aG+r]))
def Mk{D:Vd}{x c y:Nat}{wx wy:ak}{S:Fd}(h:nU S) (a:∀r:Nat,(r:Int)<D.n.aM->0<=D.bk x c y r/\D.bk x c y r<(ah S.W:Int)):∀r:Nat,(r:Int)<=D.n.aM->nU (Fd.enc D x c y wx wy S r)/\ah (Fd.enc D x c y wx wy S r).W=ah S.W/\(Fd.enc D x c y wx wy S r).F=S.F/\(Fd.enc D x c y wx wy S r).N=S.N/\∀z:Int,0<=z->ix S.F z=ad->ix (Fd.enc D x c y wx wy S r).W z=ix S.W z
 |0,_=>⟨h,rfl,rfl,rfl,λ_ _ _=>rfl⟩
 |r+1,u=>by
  obtain⟨i,j,b,l,m⟩:=Mk (wx:=wx) (wy:=wy) h a r ax
  have o:=a r ax
  have d:aj (D.bk x c y r)<ah (Fd.enc D x c y wx wy S r).W:=ax
  obtain⟨p,q,s⟩:=Mj (S:=Fd.enc D x c y wx wy S r) (x:=aj (D.bk x c y r)) (c:=wx++(c:Int)::(wy ++ [D.n.ay+D.n.aG+r]));exact⟨i.off d _,by show(ah ((Fd.enc D x c y wx wy S r).off _ _).W)=_;rw[p,j],q.trans b,s.trans l,λz e g=>(VK d e (by rw[b];exact g)).trans (m z e g)⟩
variable{wx:ak}
def VL (D:Vd) (g:kQ D) (S:Fd)(h:FS S D.vcs.av p σ) (z:nU S) (R:ah S.W=ah D.K){c y:Nat}(A:x<ah D.K) (T:y<ah D.K) (G:c<aj D.n.ay){wy:ak}(H:ix S.W (x:Int)=aa wx) (I:ix S.W (y:Int)=aa wy) (f1:ix S.F (x:Int)=ad) (U:ix S.F (y:Int)=ad) :
  LX L EP [.ptr (p .f) 5 0,.int x,.int c,.int y] σ (λr τ=>r = .bY []/\∃p', PE p p' /\FS (Fd.enc D x c y wx wy S (aj D.n.aM)) D.vcs.av p' τ):=by
 refine akN rfl ?_;have V:=h.has .f _ rfl;have X:=g.f.b;have Y:=g.c;have Z:=g.r;have GH:=g.n;have x1:=bz (show(x:Int)<(ah D.BL:Int)by omega)
 have x2:=bz (show(c:Int)<(ah (ix D.BL (x:Int)):Int)by have:=g.rl x A;unfold Vd.row at this;omega)
 have x3:=bz (show(y:Int)<(ah (ix (ix D.BL (x:Int)) (c:Int)):Int)by have:=g.f.c x c A G;unfold Vd.cv Vd.row at this;omega)
 have l:=g.tF x c y A G T;unfold Vd.cv Vd.row at l;have J:∀r:Nat,(r:Int)<D.n.aM->0<=D.bk x c y r/\D.bk x c y r<(ah S.W:Int):=λr hr=>by
  rw[R];exact l.2 _ (bh ax ax)
 have wl1:=z.wl x wx ax ax H
 have wl2:=z.wl y wy ax ax I
 simp[-aK,V,x1,x2,x3];refine bB (λq:Nat×(Tf->Nat)×aq=>[(5,.int q.1)]) (λq=>q.2.2) (λq=>q.1<=aj D.n.aM/\PE p q.2.1/\FS (Fd.enc D x c y wx wy S q.1) D.vcs.av q.2.1 q.2.2) (λq=>aj D.n.aM-q.1) (0,p,σ) bS ⟨aA,⟨rfl,rfl⟩,h⟩ ?_
 rintro⟨r,p1,σ1⟩ ⟨r0,a,m⟩;dsimp only at r0 a m ⊢;obtain⟨M,k2,k3,k4,N⟩:=Mk (wx:=wx) (wy:=wy) z J r ax
 have s:=m.has .f _ rfl;have u:=m.has .wo _ rfl;rw[a.1]at s
 by_cases hr:r<aj D.n.aM
 .have i:=bz (show(r:Int)<((ah (ix (ix (ix D.BL (x:Int)) (c:Int)) (y:Int)):Nat):Int)by omega)
  have yT:=J r ax
  have O:=N x ax f1
  have P:=N y ax U
  rw[H]at O;rw[I]at P;have e:cL [(ad,aa wx),(ae,aa [(c:Int)]),(ad,aa wy),(ae,aa [D.n.ay+D.n.aG+r])]=wx++(c:Int)::(wy ++ [D.n.ay+D.n.aG+r]):=by simp[cL]
  have j:=Mh (Fd.enc D x c y wx wy S r) m M.ok (x:=aj (D.bk x c y r)) ax [(ad,aa wx),(ae,aa [(c:Int)]),(ad,aa wy),(ae,aa [D.n.ay+D.n.aG+r])] (by rw[e];simp;omega) aA (λo ho=>M.wl _ _ ax ax ho) ae
  obtain⟨rv,τ,j,rfl,Q,d,w⟩:=dt j;rw[e]at w;rw[a.1]at j;have d:PE p Q:=⟨d.1.trans a.1,d.2.trans a.2⟩;have B:(aj (D.bk x c y r):Int)=ix (ix (ix (ix D.BL (x:Int)) (c:Int)) (y:Int)) (r:Int):=by
   have:D.bk x c y r=ix (ix (ix (ix D.BL (x:Int)) (c:Int)) (y:Int)) (r:Int):=rfl;omega
  rw[B]at j;have lx:=bz (show(x:Int)<(ah (Fd.enc D x c y wx wy S r).W:Int)by omega)
  have ly:=bz (show(y:Int)<(ah (Fd.enc D x c y wx wy S r).W:Int)by omega)
  have C:=bz (show x<ah (Fd.enc D x c y wx wy S r).W by omega)
  have E:=bz (show y<ah (Fd.enc D x c y wx wy S r).W by omega)
  simp only[List.map_cons,List.map_nil,zE]at j;simp[-aK,i,s,u,lx,ly,C,E,O,P,qb,j];exact⟨ax,ax,ax,a8 (r+1,Q,τ) aA rfl ⟨aR,d,w⟩ aR⟩
 .have i:=eG (show ¬(r:Int)<((ah (ix (ix (ix D.BL (x:Int)) (c:Int)) (y:Int)):Nat):Int)by omega)
  have er:r=aj D.n.aM:=ax
  simp[-aK,i];rw[<-er];exact⟨p1,a,m⟩
structure Kp (S T:Fd):Prop where
 w:nU T
 l:ah T.W=ah S.W
 f:T.F=S.F
 n:T.N=S.N
 k:∀z:Int,0<=z->ix S.F z=ad->ix T.W z=ix S.W z
def Kp.refl(h:nU S):Kp S S:=⟨h,rfl,rfl,rfl,λ_ _ _=>rfl⟩
variable{T U:Fd}
def Kp.trans(h:Kp S T) (g:Kp T U):Kp S U:=⟨g.w,g.l.trans h.l,g.f.trans h.f,g.n.trans h.n,λz z0 hz=>(g.k z z0 (by rw[h.f];exact hz)).trans (h.k z z0 hz)⟩
def Kp.off(h:nU S)(hx:x<ah S.W) (c:ak):Kp S (S.off x c):=by
 obtain⟨o1,o2,o3⟩:=Mj (S:=S) (x:=x) (c:=c);exact⟨h.off hx c,o1,o2,o3,λz z0 hz=>VK hx z0 hz⟩
variable{D:Vd}
def Kp.enc(hD:kQ D)(h:nU S) (hk:ah S.W=ah D.K){c y:Nat}(hx:x<ah D.K) (hy:y<ah D.K) (hc:c<aj D.n.ay) (wx wy:ak):Kp S (Fd.enc D x c y wx wy S (aj D.n.aM)):=by
 have Dp:=hD.tF x c y hx hc hy;unfold Vd.cv Vd.row at Dp;have Vx:=hD.r;obtain⟨a,b,c,d,e⟩:=Mk (wx:=wx) (wy:=wy) h (λr hr=>by
  rw[hk];exact Dp.2 _ (bh ax ax)) (aj D.n.aM) ax
 exact⟨a,b,c,d,e⟩
def Fd.ei (D:Vd) (x:Nat) (wx:ak) (S:Fd):Nat->Fd
 |0=>S
 |i+1=>(Fd.ei D x wx S i).off (aj (D.im x i)) (wx ++ [D.n.ay+i])
def Kp.ei{D:Vd}(hD:kQ D){S:Fd}(h:nU S) (hk:ah S.W=ah D.K){x:Nat}(hx:x<ah D.K) (wx:ak):∀i:Nat,i<=aj D.n.aG->Kp S (Fd.ei D x wx S i)
 |0,_=>Kp.refl h
 |i+1,hi=>by
  have ih:=Kp.ei hD h hk hx wx i ax
  have jl:=hD.inl x hx;have GH:=hD.n;have ZI:0<=D.im x i/\D.im x i<(ah D.K:Int):=jl.2 _ (bh ax ax)
  exact ih.trans (Kp.off ih.w (by rw[ih.l,hk];omega) _)
def Fd.ec (D:Vd) (x y:Nat) (wx wy:ak) (S:Fd):Nat->Fd
 |0=>S
 |c+1=>Fd.enc D y c x wy wx (Fd.enc D x c y wx wy (Fd.ec D x y wx wy S c) (aj D.n.aM)) (aj D.n.aM)
def Kp.ec{D:Vd}(hD:kQ D){S:Fd}(h:nU S) (hk:ah S.W=ah D.K){x y:Nat}(hx:x<ah D.K) (hy:y<ah D.K) (wx wy:ak):∀c:Nat,c<=aj D.n.ay->Kp S (Fd.ec D x y wx wy S c)
 |0,_=>Kp.refl h
 |c+1,hc=>by
  have ih:=Kp.ec hD h hk hx hy wx wy c ax
  have h1:=Kp.enc hD ih.w (by rw[ih.l,hk]) hx hy (show c<aj D.n.ay by omega) wx wy
  have h2:=ih.trans h1;exact h2.trans (Kp.enc hD h2.w (by rw[h2.l,hk]) hy hx (show c<aj D.n.ay by omega) wy wx)
def Fd.ed (D:Vd) (x:Nat) (wx:ak) (wd:Int->ak) (S:Fd) (l:ak):Nat->Fd
 |0=>S
 |k+1=>Fd.ec D x (aj (ix l (k:Int))) wx (wd (ix l (k:Int))) (Fd.ed D x wx wd S l k) (aj D.n.ay)
def Kp.ed{D:Vd}(hD:kQ D){S:Fd}(h:nU S) (hk:ah S.W=ah D.K){x:Nat}(hx:x<ah D.K) (wx:ak) (wd:Int->ak){l:ak}(hl:∀y∈l,0<=y/\y<(ah D.K:Int)):∀k:Nat,k<=ah l->Kp S (Fd.ed D x wx wd S l k)
 |0,_=>Kp.refl h
 |k+1,vF=>by
  have ih:=Kp.ed hD h hk hx wx wd hl k ax
  have hy:=hl _ (bh (l:=l) (n:=(k:Int)) ax ax)
  exact ih.trans (Kp.ec hD ih.w (by rw[ih.l,hk]) hx ax wx _ _ (bG _))
def Fd.ext (D:Vd) (x:Nat) (S:Fd):Fd:=
 let wx:=(ix S.W (x:Int)).getD []
 Fd.ed D x wx (λy=>(ix S.W y).getD []) (Fd.ei D x wx S (aj D.n.aG)) S.N (ah S.N)
def an5 (D:Vd) (s:kQ D) (S:Fd)(h:FS S D.vcs.av p σ) (hF:nU S) (Y:ah S.W=ah D.K)(H:x<ah D.K) (f1:ix S.F (x:Int)=ad) (I:S.N ≠ []) (hNl:ah S.N<=1000)
  (Ue:∃wx,ix S.W (x:Int)=aa wx) (hN:∀y∈S.N,(0<=y/\y<(ah D.K:Int))/\ix S.F y=ad/\∃w,ix S.W y=aa w) :
  LX L EL [.ptr (p .f) 5 0,.int x] σ (λr τ=>r = .bY []/\∃p', PE p p' /\FS (Fd.ext D x S) D.vcs.av p' τ):=by
 refine ako rfl ?_;obtain⟨wx,m⟩:=Ue;have hv:=h.has .f _ rfl;have jl:=s.inl x H;have Dj:=s.f.i;have pD:=s.c;have GH:=s.n;have x1:=bz (show(x:Int)<(ah D.IN:Int)by omega)
 have wl1:=hF.wl x wx ax ax m
 have Z:Fd.ext D x S=Fd.ed D x wx (λy=>(ix S.W y).getD []) (Fd.ei D x wx S (aj D.n.aG)) S.N (ah S.N):=by unfold Fd.ext;rw[m];rfl
 rw[Z];simp[-aK,hv,x1];refine bB (λq:Nat×(Tf->Nat)×aq=>[(3,.int q.1)]) (λq=>q.2.2) (λq=>q.1<=aj D.n.aG/\PE p q.2.1/\FS (Fd.ei D x wx S q.1) D.vcs.av q.2.1 q.2.2) (λq=>aj D.n.aG-q.1) (0,p,σ) bS ⟨aA,⟨rfl,rfl⟩,h⟩ ?_
 rintro⟨i,p1,σ1⟩ ⟨i0,a,U⟩;dsimp only at i0 a U ⊢;have j:=Kp.ei s hF Y H wx i i0;have J:=U.has .f _ rfl;have an6:=U.has .wo _ rfl;rw[a.1]at J
 by_cases hi:i<aj D.n.aG
 .have M:=bz (show(i:Int)<(ah (ix D.IN (x:Int)):Int)by omega)
  have O:=bz (show i<ah (ix D.IN (x:Int)) by omega)
  have ZI:0<=D.im x i/\D.im x i<(ah D.K:Int):=jl.2 _ (bh ax ax)
  have g1:=j.k x ax f1
  rw[m]at g1;have C:cL [(ad,aa wx),(ae,aa [D.n.ay+i])]=wx ++ [D.n.ay+i]:=by simp[cL]
  have V:=Mh (Fd.ei D x wx S i) U j.w.ok (x:=aj (D.im x i)) (by rw[j.l];omega) [(ad,aa wx),(ae,aa [D.n.ay+i])] (by rw[C];simp;omega) aA (λo ho=>j.w.wl _ _ ax (by rw[j.l];omega) ho) ae
  obtain⟨rv,τ,V,rfl,p2,b,d⟩:=dt V;rw[C]at d;rw[a.1]at V;have b:PE p p2:=⟨b.1.trans a.1,b.2.trans a.2⟩;have yc:(aj (D.im x i):Int)=ix (ix D.IN (x:Int)) (i:Int):=by
   have:D.im x i=ix (ix D.IN (x:Int)) (i:Int):=rfl;omega
  rw[yc]at V;have lx:=bz (show(x:Int)<(ah (Fd.ei D x wx S i).W:Int)by rw[j.l];omega)
  have lx2:=bz (show x<ah (Fd.ei D x wx S i).W by rw[j.l];omega)
  simp only[List.map_cons,List.map_nil,zE]at V;simp[-aK,M,O,J,an6,lx,lx2,g1,qb,V];exact⟨ax,ax,a8 (i+1,p2,τ) aA rfl ⟨aR,b,d⟩ aR⟩
 .have M:=eG (show ¬(i:Int)<(ah (ix D.IN (x:Int)):Int)by omega)
  have O:=eG (show ¬i<ah (ix D.IN (x:Int)) by omega)
  have ei:i=aj D.n.aG:=ax
  rw[<-ei];have hdn:=U.has .dn _ (aC (by rw[j.n];exact I))
  have e6:dh (p1 .dn) (ah (Fd.ei D x wx S i).N) = .sl (p1 .dn) (ah S.N) 0 (ah S.N):=by
   rw[j.n];exact aC λe=>I (eK e)
  simp[-aK,M,O,J,e6];have hNr:∀y∈S.N,0<=y/\y<(ah D.K:Int):=λy hy=>(hN y hy).1;have ZL:ah (Fd.ei D x wx S i).W=ah D.K:=by rw[j.l,Y]
  refine bB (λq:Nat×(Tf->Nat)×aq=>[(8,.int q.1)]) (λq=>q.2.2) (λq=>q.1<=ah S.N/\PE p1 q.2.1/\FS (Fd.ed D x wx (λy=>(ix S.W y).getD []) (Fd.ei D x wx S i) S.N q.1) D.vcs.av q.2.1 q.2.2) (λq=>ah S.N-q.1) (0,p1,σ1) bS ⟨aA,⟨rfl,rfl⟩,U⟩ ?_
  rintro⟨k,p2,N8⟩ ⟨k0,b,d⟩;dsimp only at k0 b d ⊢;have K2:=j.trans (Kp.ed s j.w ZL H wx (λy=>(ix S.W y).getD []) hNr k k0)
  by_cases vF:k<ah S.N
  .have hy:=hN _ (bh (l:=S.N) (n:=(k:Int)) ax ax)
   obtain⟨⟨y0,y1⟩,yf,wy,u⟩:=hy;have E:=d.has .dn _ (aC (by rw[K2.n];exact I))
   rw[b.2,K2.n]at E;simp[-aK,vF,E];have P:Fd.ed D x wx (λy=>(ix S.W y).getD []) (Fd.ei D x wx S i) S.N (k+1)=Fd.ec D x (aj (ix S.N (k:Int))) wx wy (Fd.ed D x wx (λy=>(ix S.W y).getD []) (Fd.ei D x wx S i) S.N k) (aj D.n.ay):=by
    show Fd.ec D x (aj (ix S.N (k:Int))) wx ((ix S.W (ix S.N (k:Int))).getD []) _ _=_;rw[u];rfl
   obtain⟨y,hyy⟩:∃y:Nat,ix S.N (k:Int)=y:=⟨aj (ix S.N (k:Int)),ax⟩
   rw[hyy]at y0 y1 yf u P;rw[hyy];rw[jT]at P;have z:y<ah D.K:=ax
   generalize hSk:Fd.ed D x wx (λy=>(ix S.W y).getD []) (Fd.ei D x wx S i) S.N k=Sk at *;have AD:ah Sk.W=ah D.K:=by rw[K2.l,Y]
   refine bB (λq:Nat×(Tf->Nat)×aq=>[(11,.int q.1)]) (λq=>q.2.2) (λq=>q.1<=aj D.n.ay/\PE p q.2.1/\FS (Fd.ec D x y wx wy Sk q.1) D.vcs.av q.2.1 q.2.2) (λq=>aj D.n.ay-q.1) (0,p2,N8) bS ⟨aA,⟨b.1.trans a.1,b.2.trans a.2⟩,d⟩ ?_
   rintro⟨c,p3,ZM⟩ ⟨c0,g,Q⟩;dsimp only at c0 g Q ⊢;have K3:=Kp.ec s K2.w AD H z wx wy c c0;have G:=K2.trans K3
   by_cases hc:c<aj D.n.ay
   .have R :=bz (show(c:Int)<D.n.ay by omega)
    have hk4:ah (Fd.ec D x y wx wy Sk c).W=ah D.K:=by rw[G.l,Y]
    have A:=VL D s (Fd.ec D x y wx wy Sk c) Q G.w hk4 H z hc (wx:=wx) (wy:=wy) (by rw[G.k _ ax f1];exact m) (by rw[G.k _ ax yf];exact u) (by rw[G.f];exact f1) (by rw[G.f];exact yf)
    obtain⟨r1,ZH,A,rfl,p4,T,hS4⟩:=dt A;have X:=G.trans (Kp.enc s G.w hk4 H z hc wx wy);have B:=VL D s _ hS4 X.w (by rw[X.l,Y]) z H hc (wx:=wy) (wy:=wx) (by rw[X.k _ ax yf];exact u) (by rw[X.k _ ax f1];exact m) (by rw[X.f];exact yf) (by rw[X.f];exact f1)
    obtain⟨r2,ZN,B,rfl,p5,hp5,hS5⟩:=dt B;rw[g.1]at A;rw[T.1,g.1]at B;simp[-aK,R, A,B];exact⟨ax,a8 (c+1,p5,ZN) aA rfl ⟨aR,⟨hp5.1.trans (T.1.trans g.1),hp5.2.trans (T.2.trans g.2)⟩,hS5⟩ aR⟩
   .have R :=eG (show ¬(c:Int)<D.n.ay by omega)
    have ec:c=aj D.n.ay:=ax
    simp[-aK,R];refine⟨ax,a8 (k+1,p3,ZM) aA rfl ⟨aR,⟨g.1.trans a.1.symm,g.2.trans a.2.symm⟩,?_⟩ aR⟩
    dsimp only;rw[P,<-ec];exact Q
  .have ek:k=ah S.N:=by omega
   subst ek;simp[-aK];exact⟨p2,⟨b.1.trans a.1,b.2.trans a.2⟩,d⟩
inductive Dv (D:Vd):Int->ak->Prop
 |nil:Dv D 0 []
 |bp (x i:Int) (w:ak):0<=i->i<D.n.aG->Dv D x w->Dv D (D.im x i) (w ++ [D.n.ay+i])
 |aQ (x c y r:Int) (w u:ak):0<=c->c<D.n.ay->0<=r->r<D.n.aM->Dv D x w->Dv D y u->Dv D (D.bk x c y r) (w++c::(u ++ [D.n.ay+D.n.aG+r]))
def Dv.gi(h:kQ D){x:Int}(hd:Dv D x w):0<=x/\x<(ah D.K:Int):=by
 induction hd with
 |nil=>have:=h.k;omega
 |bp x i w i0 i1 _ ih=>
  have:=h.inl (aj x) ax
  rw[show((aj x:Nat):Int)=x by omega]at this
  have hn:=h.n;exact this.2 _ (bh i0 ax)
 |aQ x c y r w u c0 c1 r0 r1 _ _ qG rL=>
  have:=h.tF (aj x) (aj c) (aj y) ax ax ax
  unfold Vd.cv Vd.row at this;rw[show((aj x:Nat):Int)=x by omega,show((aj c:Nat):Int)=c by omega,show((aj y:Nat):Int)=y by omega]at this
  have hr:=h.r;exact this.2 _ (bh r0 ax)
def mg (D:Vd) (x:Int) (w:ak):Prop:=Dv D x w/\∀v,Dv D x v->bD w v<=0
structure arS (D:Vd) (n:Nat) (S:Fd):Prop where
 w:nU S
 l:ah S.W=ah D.K
 dv:∀x w,0<=x->x<(ah D.K:Int)->ix S.W x=aa w->Dv D x w
 fd:∀x,0<=x->x<(ah D.K:Int)->(ix S.F x=ad↔∃w,mg D x w/\ah w<n)
 lw:∀x w,mg D x w->ah w<n->ah w<=1024->ix S.W x=aa w
def VM:∀{t u v:ak},bD u v<0->bD (u++t) (v++t)<0
 | [],u,v,h=>by simpa using h
 |a::t,u,v,h=>by
  have:=VM (t:=t) (Fk (a:=a) (b:=a) h);simpa using this
variable{u:ak}
def an7{v:ak}(h:bD u v<0):bD (w++u) (w++v)<0:=by
 unfold bD at h ⊢;simp only[bM]
 by_cases b:ah u<ah v
 .rw[aD ax];omega
 .rw[aC b]at h
  by_cases a:ah v<ah u
  .rw[aD a]at h;omega
  .rw[aC a]at h
   rw[aC ax,aC ax,Fj rfl,AM,aD rfl]
   exact h
def mg.bp{x:Int}(i0:0<=i) (i1:i<D.n.aG) (hd:Dv D x w) (h:mg D (D.im x i) (w ++ [D.n.ay+i])):mg D x w:=
 ⟨hd,λv hv=>dP λhn=>by
  have h1:=h.2 _ (.bp x i v i0 i1 hv);have h2:bD v w<0:=by have:=dO.gV v w;omega
  have h3:=Fk (a:=D.n.ay+i) (b:=D.n.ay+i) h2;have:=dO.gV (v ++ [D.n.ay+i]) (w ++ [D.n.ay+i]);omega⟩
def mg.aQ{x c r:Int}(c0:0<=c) (c1:c<D.n.ay) (r0:0<=r) (r1:r<D.n.aM) (hd:Dv D x w) (hu:Dv D y u) (h:mg D (D.bk x c y r) (w++c::(u ++ [D.n.ay+D.n.aG+r]))):mg D x w/\mg D y u:=by
 refine⟨⟨hd,λv hv=>dP λhn=>?_⟩,⟨hu,λv hv=>dP λhn=>?_⟩⟩
 .have h1:=h.2 _ (.aQ x c y r v u c0 c1 r0 r1 hv hu)
  have h2:bD v w<0:=by have:=dO.gV v w;omega
  have h3:=VM (t:=c::(u ++ [D.n.ay+D.n.aG+r])) h2;have:=dO.gV (v++c::(u ++ [D.n.ay+D.n.aG+r])) (w++c::(u ++ [D.n.ay+D.n.aG+r]));omega
 .have h1:=h.2 _ (.aQ x c y r w v c0 c1 r0 r1 hd hv)
  have h2:bD v u<0:=by have:=dO.gV v u;omega
  have h3:=an7 (w:=w ++ [c]) (Fk (a:=D.n.ay+D.n.aG+r) (b:=D.n.ay+D.n.aG+r) h2);rw[jg,jg]at h3;have h3:bD (w++c::(v ++ [D.n.ay+D.n.aG+r])) (w++c::(u ++ [D.n.ay+D.n.aG+r]))<0:=h3;have:=dO.gV (w++c::(v ++ [D.n.ay+D.n.aG+r])) (w++c::(u ++ [D.n.ay+D.n.aG+r]));omega
variable{z:Int}
def mg.made{t:ak}(h:mg D z t):(z=0/\t=[])\/(∃x i w,0<=i/\i<D.n.aG/\mg D x w/\z=D.im x i/\t=w ++ [D.n.ay+i])\/(∃x c y r w u,0<=c/\c<D.n.ay/\0<=r/\r<D.n.aM/\mg D x w/\mg D y u/\z=D.bk x c y r/\t=w++c::(u ++ [D.n.ay+D.n.aG+r])):=by
 cases h.1 with
 |nil=>exact .inl ⟨rfl,rfl⟩
 |bp x i w i0 i1 hd=>exact .inr (.inl ⟨x,i,w,i0,i1,mg.bp i0 i1 hd h,rfl,rfl⟩)
 |aQ x c y r w u c0 c1 r0 r1 hd hu=>
  have:=mg.aQ c0 c1 r0 r1 hd hu h;exact .inr (.inr ⟨x,c,y,r,w,u,c0,c1,r0,r1,this.1,this.2,rfl,rfl⟩)
def mg.rq{t s:ak}(h:mg D z t) (g:mg D z s):t=s:=by
 have h1:=h.2 _ g.1;have h2:=g.2 _ h.1;have:=dO.gV t s;exact dO.eq t s ax
def Dv.sym(h:kQ D){x:Int}(hd:Dv D x w):∀a∈w,0<=a/\a<D.n.ay+D.n.aG+D.n.aM:=by
 have hc:=h.c;have hn:=h.n;have hr:=h.r
 induction hd with
 |nil=>simp
 |bp x i w i0 i1 _ ih=>
  intro a ha;rcases dI.1 ha with ha|ha
  .exact ih a ha
  .simp at ha;omega
 |aQ x c y r w u c0 c1 r0 r1 _ _ qG rL=>
  intro a ha;simp only[dI,cC,List.not_mem_nil,or_false]at ha;rcases ha with ha|rfl|ha|rfl
  .exact qG a ha
  .omega
  .exact rL a ha
  .omega
def sz (S:Fd) (z:Int) (t:ak):Prop:=1024<ah t\/ix S.F z=ad\/∃v,ix S.W z=aa v/\bD v t<=0
structure Mo (D:Vd) (S T:Fd):Prop where
 k:Kp S T
 o:∀z t,0<=z->z<(ah S.W:Int)->sz S z t->sz T z t
 dv:(∀z w,0<=z->z<(ah S.W:Int)->ix S.W z=aa w->Dv D z w)->∀z w,0<=z->z<(ah S.W:Int)->ix T.W z=aa w->Dv D z w
 bk:(∀z w,0<=z->z<(ah S.W:Int)->ix S.F z=ae->ix S.W z=aa w->z∈S.eM (ah w))->∀z w,0<=z->z<(ah S.W:Int)->ix T.F z=ae->ix T.W z=aa w->z∈T.eM (ah w)
def Mo.refl(h:nU S):Mo D S S:=⟨Kp.refl h,λ_ _ _ _ h=>h,λh=>h,λh=>h⟩
def Mo.trans(h:Mo D S T) (g:Mo D T U):Mo D S U:=by
 have e:=h.k.l;exact⟨h.k.trans g.k,λz t z0 z1 a=>g.o z t z0 (by rw[e];exact z1) (h.o z t z0 z1 a),λa z w z0 z1=>g.dv (λz w z0 z1=>h.dv a z w z0 (by rw[<-e];exact z1)) z w z0 (by rw[e];exact z1),λa z w z0 z1=>g.bk (λz w z0 z1=>h.bk a z w z0 (by rw[<-e];exact z1)) z w z0 (by rw[e];exact z1)⟩
def VN(h:nU S)(i:ah c<=1024) (j:ix S.F (x:Int)=ae) (d:∀w,ix S.W (x:Int)=aa w->0<bD w c):(S.off x c).W=S.W.set x (aa c)/\∀m,(S.off x c).eM m=if vK (ix S.W (x:Int)) c=ad/\m=ah c then S.eM m ++ [(x:Int)]else S.eM m:=by
 have e:=Mg rfl d i j;have g:ah c<ah S.R:=by rw[h.r];omega
 by_cases b:vK (ix S.W (x:Int)) c=ad
 .rw[aD b]at e
  rw[e];refine⟨rfl,λm=>?_⟩;have:=Ct (S:={S with W:=S.W.set x (aa c)}) (l:=S.eM (ah c) ++ [(x:Int)]) g m
  rw[show Fd.eM (Fd.qS {S with W:=S.W.set x (aa c)} (ah c) x) m=if m=ah c then S.eM (ah c) ++ [(x:Int)]else S.eM m from this]
  by_cases em:m=ah c
  .rw[aD em,aD ⟨b,em⟩,em]
  .rw[aC em,aC λa=>em a.2]
 .rw[aC b]at e
  rw[e];exact⟨rfl,λm=>by rw[aC λa=>b a.1];rfl⟩
def Mo.off(h:nU S)(hx:x<ah S.W)(hd:Dv D x c):Mo D S (S.off x c)/\sz (S.off x c) x c:=by
 by_cases h1:1024<ah c\/ix S.F (x:Int)=ad
 .have e:S.off x c=S:=aD h1
  rw[e];exact⟨Mo.refl h,h1.imp id λa=>.inl a⟩
 have hc:ah c<=1024:=ax
 have hf:ix S.F (x:Int)=ae:=by
  cases e:ix S.F (x:Int)with
  |false=>rfl
  |true=>exact absurd (.inr e) h1
 by_cases h2:∃w,ix S.W (x:Int)=aa w/\bD w c<=0
 .have e:S.off x c=S:=by
   obtain⟨w,hw,hle⟩:=h2;unfold Fd.off;rw[aC h1,hw];exact aD hle
  rw[e];exact⟨Mo.refl h,.inr (.inr h2)⟩
 have Is:∀w,ix S.W (x:Int)=aa w->0<bD w c:=λw hw=>dP λhn=>h2 ⟨w,hw,ax⟩
 obtain⟨eW,eB⟩:=VN h hc hf Is;have eF:=(Mj (S:=S) (x:=x) (c:=c)).2.1;have k:=Kp.off h hx c;have ZO:∀z:Int,0<=z->ix (S.off x c).W z=if z=x then aa c else ix S.W z:=λz z0=>by rw[eW,tG hx z0]
 refine⟨⟨k,λz t z0 z1 a=>?_,λa z w z0 z1 hw=>?_,λa z w z0 z1 hfz hw=>?_⟩,.inr (.inr ⟨c,by rw[ZO _ ax,aD rfl],Int.le_of_eq (dO.refl _)⟩)⟩
 .rcases a with a|a|⟨v,a,b⟩
  .exact .inl a
  .exact .inr (.inl (by rw[eF];exact a))
  .refine .inr (.inr ?_)
   rw[ZO z z0]
   by_cases e:z=x
   .subst e
    rw[aD rfl];have h3:=Is v a;have h4:=dO.gV c v;exact⟨c,rfl,dO.trans c v t ax b⟩
   .rw[aC e]
    exact⟨v,a,b⟩
 .rw[ZO z z0]at hw
  split at hw
  .rename_i e
   injection hw with hw
   rw[e,<-hw];exact hd
  .exact a z w z0 z1 hw
 .rw[eF]at hfz
  rw[ZO z z0]at hw;rw[eB];split at hw
  .rename_i e
   injection hw with hw
   subst hw
   by_cases hn:vK (ix S.W (x:Int)) c=ad
   .rw[aD ⟨hn,rfl⟩,e];simp
   .rw[aC λa=>hn a.1]
    cases ho:ix S.W (x:Int)with
    |none=>rw[ho]at hn;exact absurd rfl hn
    |some o=>
     have h3:=Is o ho;rw[ho]at hn;have h4:¬ah c<ah o:=by simpa[vK]using hn
     have h5:¬ah o<ah c:=λcw=>by unfold bD at h3;rw[aD cw]at h3;omega
     have:=a z o z0 z1 hfz (by rw[e];exact ho)
     rw[show (ah c)=ah o by omega];exact this
  .have:=a z w z0 z1 hfz hw
   split
   .simp[this]
   .exact this
def Mo.enc{D:Vd}(hD:kQ D){S:Fd}(h:nU S) (hk:ah S.W=ah D.K){x c y:Nat}(hx:x<ah D.K) (hy:y<ah D.K) (hc:c<aj D.n.ay){wx wy:ak}(d1:Dv D x wx) (d2:Dv D y wy):∀r:Nat,(r:Int)<=D.n.aM->Mo D S (Fd.enc D x c y wx wy S r)/\∀j:Nat,j<r->sz (Fd.enc D x c y wx wy S r) (D.bk x c y j) (wx++(c:Int)::(wy ++ [D.n.ay+D.n.aG+j]))
 |0,_=>⟨Mo.refl h,λj hj=>ax⟩
 |r+1,hr=>by
  obtain⟨h1,h2⟩:=Mo.enc hD h hk hx hy hc d1 d2 r ax
  have VO:∀j:Nat,(j:Int)<D.n.aM->Dv D (D.bk x c y j) (wx++(c:Int)::(wy ++ [D.n.ay+D.n.aG+j])):=λj hj=>.aQ x c y j wx wy ax ax ax hj d1 d2
  have hd:=VO r ax
  have hb:=hd.gi hD;obtain⟨g1,g2⟩:=Mo.off (D:=D) h1.k.w (x:=aj (D.bk x c y r)) (by rw[h1.k.l,hk];omega) (c:=wx++(c:Int)::(wy ++ [D.n.ay+D.n.aG+r])) (by rw[show((aj (D.bk x c y r):Nat):Int)=D.bk x c y r by omega];exact hd)
  rw[show((aj (D.bk x c y r):Nat):Int)=D.bk x c y r by omega]at g2
  refine⟨h1.trans g1,λj hj=>?_⟩
  by_cases e:j=r
  .subst e;exact g2
  .have VP:=(VO j ax).gi hD
   exact g1.o _ _ VP.1 (by rw[h1.k.l,hk];exact VP.2) (h2 j ax)
def Mo.ei{D:Vd}(hD:kQ D){S:Fd}(h:nU S) (hk:ah S.W=ah D.K){x:Nat}{wx:ak}(d1:Dv D x wx):∀i:Nat,(i:Int)<=D.n.aG->Mo D S (Fd.ei D x wx S i)/\∀j:Nat,j<i->sz (Fd.ei D x wx S i) (D.im x j) (wx ++ [D.n.ay+j])
 |0,_=>⟨Mo.refl h,λj hj=>ax⟩
 |i+1,hi=>by
  obtain⟨h1,h2⟩:=Mo.ei hD h hk d1 i ax
  have VO:∀j:Nat,(j:Int)<D.n.aG->Dv D (D.im x j) (wx ++ [D.n.ay+j]):=λj hj=>.bp x j wx ax hj d1
  have hd:=VO i ax
  have hb:=hd.gi hD;obtain⟨g1,g2⟩:=Mo.off (D:=D) h1.k.w (x:=aj (D.im x i)) (by rw[h1.k.l,hk];omega) (c:=wx ++ [D.n.ay+i]) (by rw[show((aj (D.im x i):Nat):Int)=D.im x i by omega];exact hd)
  rw[show((aj (D.im x i):Nat):Int)=D.im x i by omega]at g2
  refine⟨h1.trans g1,λj hj=>?_⟩
  by_cases e:j=i
  .subst e;exact g2
  .have VP:=(VO j ax).gi hD
   exact g1.o _ _ VP.1 (by rw[h1.k.l,hk];exact VP.2) (h2 j ax)
def Mo.ec{D:Vd}(hD:kQ D){S:Fd}(h:nU S) (hk:ah S.W=ah D.K){x y:Nat}(hx:x<ah D.K) (hy:y<ah D.K){wx wy:ak}(d1:Dv D x wx) (d2:Dv D y wy):∀c:Nat,c<=aj D.n.ay->Mo D S (Fd.ec D x y wx wy S c)/\∀j:Nat,j<c->∀r:Nat,(r:Int)<D.n.aM->sz (Fd.ec D x y wx wy S c) (D.bk x j y r) (wx++(j:Int)::(wy ++ [D.n.ay+D.n.aG+r]))/\sz (Fd.ec D x y wx wy S c) (D.bk y j x r) (wy++(j:Int)::(wx ++ [D.n.ay+D.n.aG+r]))
 |0,_=>⟨Mo.refl h,λj hj=>ax⟩
 |c+1,hc=>by
  obtain⟨h1,h2⟩:=Mo.ec hD h hk hx hy d1 d2 c ax
  have Vx:=hD.r;obtain⟨g1,g2⟩:=Mo.enc hD h1.k.w (by rw[h1.k.l,hk]) hx hy (show c<aj D.n.ay by omega) d1 d2 (aj D.n.aM) ax
  have m1:=h1.trans g1;obtain⟨g3,g4⟩:=Mo.enc hD m1.k.w (by rw[m1.k.l,hk]) hy hx (show c<aj D.n.ay by omega) d2 d1 (aj D.n.aM) ax
  refine⟨m1.trans g3,λj hj r hr=>?_⟩;have b1:=(Dv.aQ x j y r wx wy ax ax ax hr d1 d2).gi hD
  have b2:=(Dv.aQ y j x r wy wx ax ax ax hr d2 d1).gi hD
  by_cases e:j=c
  .subst e
   exact⟨g3.o _ _ b1.1 (by rw[m1.k.l,hk];exact b1.2) (g2 r ax),g4 r ax⟩
  .obtain⟨q1,q2⟩:=h2 j ax r hr
   exact⟨g3.o _ _ b1.1 (by rw[m1.k.l,hk];exact b1.2) (g1.o _ _ b1.1 (by rw[h1.k.l,hk];exact b1.2) q1),g3.o _ _ b2.1 (by rw[m1.k.l,hk];exact b2.2) (g1.o _ _ b2.1 (by rw[h1.k.l,hk];exact b2.2) q2)⟩
def Mo.ed{D:Vd}(hD:kQ D){S:Fd}(h:nU S) (hk:ah S.W=ah D.K){x:Nat}(hx:x<ah D.K){wx:ak}(d1:Dv D x wx){wd:Int->ak}{l:ak}(hl:∀y∈l,(0<=y/\y<(ah D.K:Int))/\Dv D y (wd y)):∀k:Nat,k<=ah l->Mo D S (Fd.ed D x wx wd S l k)/\∀i:Nat,i<k->∀j:Nat,(j:Int)<D.n.ay->∀r:Nat,(r:Int)<D.n.aM->sz (Fd.ed D x wx wd S l k) (D.bk x j (ix l (i:Int)) r) (wx++(j:Int)::(wd (ix l (i:Int)) ++ [D.n.ay+D.n.aG+r]))/\sz (Fd.ed D x wx wd S l k) (D.bk (ix l (i:Int)) j x r) (wd (ix l (i:Int))++(j:Int)::(wx ++ [D.n.ay+D.n.aG+r]))
 |0,_=>⟨Mo.refl h,λj hj=>ax⟩
 |k+1,vF=>by
  obtain⟨h1,h2⟩:=Mo.ed hD h hk hx d1 hl k ax
  have pD:=hD.c;obtain⟨hy,dy⟩:=hl _ (bh (l:=l) (n:=(k:Int)) ax ax)
  have ey:(((aj (ix l (k:Int))):Nat):Int)=ix l (k:Int):=ax
  obtain⟨g1,g2⟩:=Mo.ec hD h1.k.w (by rw[h1.k.l,hk]) hx (y:=aj (ix l (k:Int))) ax d1 (wy:=wd (ix l (k:Int))) (by rw[ey];exact dy) (aj D.n.ay) (bG _)
  rw[ey]at g2;refine⟨h1.trans g1,λi hi j hj r hr=>?_⟩
  by_cases e:i=k
  .subst e
   exact g2 j ax r hr
  .obtain⟨q1,q2⟩:=h2 i ax j hj r hr
   have di:=(hl _ (bh (l:=l) (n:=(i:Int)) ax ax)).2
   have b1:=(Dv.aQ x j (ix l (i:Int)) r wx _ ax hj ax hr d1 di).gi hD
   have b2:=(Dv.aQ (ix l (i:Int)) j x r _ wx ax hj ax hr di d1).gi hD
   exact⟨g1.o _ _ b1.1 (by rw[h1.k.l,hk];exact b1.2) q1,g1.o _ _ b2.1 (by rw[h1.k.l,hk];exact b2.2) q2⟩
def Mo.ext(hD:kQ D)(h:nU S) (hk:ah S.W=ah D.K)(hx:x<ah D.K)(Cw:ix S.W (x:Int)=aa wx) (d1:Dv D x wx) (hN:∀y∈S.N,(0<=y/\y<(ah D.K:Int))/\ix S.F y=ad/\∃w,ix S.W y=aa w/\Dv D y w) :
  Mo D S (Fd.ext D x S)/\(∀i:Int,0<=i->i<D.n.aG->sz (Fd.ext D x S) (D.im x i) (wx ++ [D.n.ay+i]))/\∀y∈S.N,∀wy,ix S.W y=aa wy->∀c r:Int,0<=c->c<D.n.ay->0<=r->r<D.n.aM->sz (Fd.ext D x S) (D.bk x c y r) (wx++c::(wy ++ [D.n.ay+D.n.aG+r]))/\sz (Fd.ext D x S) (D.bk y c x r) (wy++c::(wx ++ [D.n.ay+D.n.aG+r])):=by
 have an8:Fd.ext D x S=Fd.ed D x wx (λy=>(ix S.W y).getD []) (Fd.ei D x wx S (aj D.n.aG)) S.N (ah S.N):=by unfold Fd.ext;rw[Cw];rfl
 rw[an8];have GH:=hD.n;obtain⟨h1,h2⟩:=Mo.ei hD h hk d1 (aj D.n.aG) ax
 obtain⟨g1,g2⟩:=Mo.ed hD h1.k.w (by rw[h1.k.l,hk]) hx d1 (wd:=λy=>(ix S.W y).getD []) (l:=S.N) (λy hy=>by
  obtain⟨a,_,w,b,d⟩:=hN y hy;exact⟨a,by show Dv D y ((ix S.W y).getD []);rw[b];exact d⟩) (ah S.N) (bG _)
 refine⟨h1.trans g1,λi i0 i1=>?_,λy hy wy zF c r c0 c1 r0 r1=>?_⟩
 .have b:=(Dv.bp x i wx i0 i1 d1).gi hD
  have:=h2 (aj i) ax
  rw[show((aj i:Nat):Int)=i by omega]at this
  exact g1.o _ _ b.1 (by rw[h1.k.l,hk];exact b.2) this
 .obtain⟨k,vF,rfl⟩:=fY.1 hy
  have e:=bt vF;have:=g2 k vF (aj c) ax (aj r) ax
  rw[show((aj c:Nat):Int)=c by omega,show((aj r:Nat):Int)=r by omega,e]at this
  rw[zF]at this;exact this
end Ab
