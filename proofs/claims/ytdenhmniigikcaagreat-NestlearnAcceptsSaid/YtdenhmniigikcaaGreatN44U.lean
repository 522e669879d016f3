/- slices.Concat of words that are given in some way. First words in memory: a word is offered. First words in memory: a word is put, offers, takes. First words in memory: the finder stays well formed. First words: enclose and extend. First words: a vector is extended. Condition: none. -/
import Derived.Test.YtdenhmniigikcaaGreatBfsOrd
import Derived.Test.YtdenhmniigikcaaGreatN44P
set_option linter.all false
set_option maxRecDepth 100000
set_option maxHeartbeats 4000000
namespace Ab
def fN{α:Type}(g:α->List Int) (ps:List α):List Int:=ps.flatMap g
theorem Kc{α:Type} [Inhabited α]{g:α->List Int}{ps:List α}{i:Int}(h0:0<=i) (h1:i<ps.length):fN g (ps.take (i+1).toNat)=fN g (ps.take i.toNat)++g (ix ps i):=by
 have e:ps.take (i+1).toNat=ps.take i.toNat ++ [ix ps i]:=by
  rw[show(i+1).toNat=i.toNat+1 by omega,nO,l8 h0 h1]
  rfl
 rw[e];simp[fN]
theorem Ae{α:Type}{g:α->List Int}{ps:List α}(i:Nat):(fN g (ps.take i)).length<=(fN g ps).length:=by
 have:fN g ps=fN g (ps.take i)++fN g (ps.drop i):=by
  unfold fN;rw[<-List.flatMap_append,oR]
 rw[this];simp
theorem am4{α:Type} [Inhabited α]{f:α->AV}{g:α->List Int}(hf:∀p,f p = .ah/\g p=[]\/∃b,f p = .aE b ((g p).map .int)) (ps:List α) (hp:(ps.length:Int)<=1000000) (h:((fN g ps).length:Int)<=1000000):PC wM [.aE false (ps.map f)]=some (iL (fN g ps)):=by
 refine cu (QW rfl ?_);simp;refine bu (λi:Int=>[(1,.int i),(4,.int ((fN g (ps.take i.toNat)).length:Int))]) (λ_=>[]) (λi=>0<=i/\i<=ps.length) (λi=>(ps.length-i).toNat) 0 rfl (by simp) λi ⟨i0,i1⟩=>?_
 by_cases hi:i<ps.length
 ·have e:=Kc (g:=g) i0 hi
  have l1:=Ae (g:=g) (ps:=ps) i.toNat;have l2:=Ae (g:=g) (ps:=ps) (i+1).toNat;rw[e]at l2;simp at l2;rcases hf (ix ps i)with⟨h1,h2⟩|⟨q,h1⟩
  ·simp[-ao,hi,i0,h1]
   refine⟨by omega,by omega,aX (i+1) (by simp[e,h2]) rfl ⟨by omega,by omega⟩ (by omega)⟩
  ·simp[-ao,hi,i0,h1]
   refine⟨by omega,by omega,λ_=>⟨by omega,aX (i+1) (by simp[e]) rfl ⟨by omega,by omega⟩ (by omega)⟩⟩
 ·have E5:ps.take i.toNat=ps:=gu (by omega)
  rw[E5]
  by_cases hz:(fN g ps).length=0
  ·have hc:fN g ps=[]:=dW hz
   simp[-ao,hi,hc,S7,jA];refine bu (λi:Int=>[(6,.int i)]) (λ_=>[]) (λi=>0<=i/\i<=ps.length) (λi=>(ps.length-i).toNat) 0 rfl (by simp) λj ⟨j0,j1⟩=>?_
   by_cases hj:j<ps.length
   ·have ql:g (ix ps j)=[]:=by
     have:=Kc (g:=g) j0 hj;have l2:=Ae (g:=g) (ps:=ps) (j+1).toNat;rw[this]at l2;simp at l2;exact dW (by omega)
    rcases hf (ix ps j)with⟨h1,h2⟩|⟨q,h1⟩
    ·simp[hj,j0,h1];omega
    ·rw[ql]at h1
     simp[hj,j0,h1];omega
   ·simp[hj]
  ·have hg:=S6 (fN g ps).length (by omega) (by omega)
   simp[-ao,-List.map_replicate,hi,hg,jA,gR,S5];refine bu (λi:Int=>[(6,.int i),(9,.sl 0 (fN g ps).length 0 (fN g (ps.take i.toNat)).length)]) (λi=>[⟨none,(fN g (ps.take i.toNat)).map .int++List.replicate ((fN g ps).length-(fN g (ps.take i.toNat)).length) (.int 0),.live⟩]) (λi=>0<=i/\i<=ps.length) (λi=>(ps.length-i).toNat) 0 (by simp[bY,fN]) (by simp) λj ⟨j0,j1⟩=>?_
   by_cases hj:j<ps.length
   ·have e:=Kc (g:=g) j0 hj
    have l1:=Ae (g:=g) (ps:=ps) j.toNat;have l2:=Ae (g:=g) (ps:=ps) (j+1).toNat;rw[e]at l2;simp at l2;have hp:=S8 (a:=fN g (ps.take j.toNat)) (b:=g (ix ps j)) (n:=(fN g ps).length) l2;have done:g (ix ps j)=[]->fN g (ps.take (j+1).toNat)=fN g (ps.take j.toNat):=λh=>by rw[e,h];simp
    rcases hf (ix ps j)with⟨h1,h2⟩|⟨q,h1⟩
    ·simp[-ao,-List.map_replicate,hj,j0,h1]
     refine⟨by omega,by omega,by omega,aX (j+1) (by simp[done h2]) (by simp only[done h2]) ⟨by omega,by omega⟩ (by omega)⟩
    ·by_cases hn:g (ix ps j)=[]
     ·rw[hn]at h1
      simp[-ao,-List.map_replicate,hj,j0,h1];refine⟨by omega,by omega,by omega,aX (j+1) (by simp[done hn]) (by simp only[done hn]) ⟨by omega,by omega⟩ (by omega)⟩
     ·have ss:0<(g (ix ps j)).length:=mC.2 hn
      simp[-ao,-List.map_replicate,hj,j0,h1,hn];refine⟨by omega,by omega,λhc=>by omega,λ_=>⟨by omega,by omega,aX (j+1) (by simp[e]) (by simp only[e,bz];rw[<-hp]) ⟨by omega,by omega⟩ (by omega)⟩⟩
   ·have yQ:ps.take j.toNat=ps:=gu (by omega)
    rw[yQ];have hv:=qP (σ:=[⟨none,(fN g ps).map .int,.live⟩]) (fr:=false) (b:=0) (xs:=fN g ps) (st:=.live) rfl (by simp) rfl
    simp[hj,hv]
inductive Tf where
 |f|wo|fd|rd|dn
 |bk (n:Nat)
 deriving DecidableEq
def oz:Option (List Int)->AV
 |none=>.ah
 |some w=>.aE true (w.map .int)
structure Fd where
 W:List (Option (List Int))
 F:List Bool
 R:List (List Int)
 N:List Int
def Fd.dN (S:Fd) (n:Nat):List Int:=ix S.R (n:Int)
def Fd.cont (S:Fd) (va:AV) (p:Tf->Nat):Tf->Option ag
 |.f=>some ⟨some 5,[va,.sl (p .wo) S.W.length 0 S.W.length,.sl (p .fd) S.F.length 0 S.F.length,.sl (p .rd) S.R.length 0 S.R.length,cT (p .dn) S.N.length],.live⟩
 |.wo=>some ⟨none,S.W.map oz,.live⟩
 |.fd=>some ⟨none,S.F.map .bool,.live⟩
 |.rd=>some ⟨none,(List.range S.R.length).map λn=>cT (p (.bk n)) (S.dN n).length,.live⟩
 |.dn=>if S.N=[]then none else some (Zb S.N)
 |.bk n=>if n<S.R.length/\S.dN n ≠ []then some (Zb (S.dN n))else none
structure FS (S:Fd) (va:AV) (p:Tf->Nat) (σ:List ag):Prop where
 has:∀t B,S.cont va p t=some B->al σ (p t)=some B
 inj:∀t u A B,S.cont va p t=some A->S.cont va p u=some B->p t=p u->t=u
theorem FS.ne{S:Fd}{va:AV}{p:Tf->Nat}{σ:List ag}(h:FS S va p σ){t u:Tf}{A B:ag}(ht:S.cont va p t=some A) (hu:S.cont va p u=some B) (hn:t ≠ u):p t ≠ p u:=λe=>hn (h.inj t u A B ht hu e)
theorem FS.lt{S:Fd}{va:AV}{p:Tf->Nat}{σ:List ag}(h:FS S va p σ){t:Tf}{A:ag}(ht:S.cont va p t=some A):p t<σ.length:=dB (h.has t A ht)
theorem FS.step{D D' : Fd}{va:AV}{p p' : Tf->Nat}{σ τ:List ag}(h:FS D va p σ) (Ch:Tf->Prop)
  (h1:∀t,¬Ch t->D'.cont va p' t=D.cont va p t/\p' t=p t)
  (h2:∀t B,Ch t->D'.cont va p' t=some B->al τ (p' t)=some B)
  (h3:∀t B,¬Ch t->D.cont va p t=some B->al τ (p t)=some B)
  (h4:∀t B,Ch t->D'.cont va p' t=some B->((∃A,D.cont va p t=some A)/\p' t=p t)\/σ.length<=p' t)
  (h5:∀t u,Ch t->Ch u->σ.length<=p' t->p' t=p' u->t=u):FS D' va p' τ:=by
 have key:∀t B,D'.cont va p' t=some B->((∃A,D.cont va p t=some A)/\p' t=p t)\/(Ch t/\σ.length<=p' t):=λt B hB=>by
  by_cases hc:Ch t
  ·exact(h4 t B hc hB).imp id λq=>⟨hc,q⟩
  ·obtain⟨e1,e2⟩:=h1 t hc
   rw[e1]at hB;exact .inl ⟨⟨B,hB⟩,e2⟩
 refine⟨λt B hB=>?_,λt u A B hA hB e=>?_⟩
 ·by_cases hc:Ch t
  ·exact h2 t B hc hB
  ·obtain⟨e1,e2⟩:=h1 t hc
   rw[e1]at hB;rw[e2];exact h3 t B hc hB
 ·rcases key t A hA with⟨⟨A', uT⟩,e1⟩|⟨c1,e1⟩
  ·rcases key u B hB with⟨⟨B', o9⟩,e2⟩|⟨c2,e2⟩
   ·exact h.inj t u A' B' uT o9 (by rw[<-e1,<-e2];exact e)
   ·have:=h.lt uT; omega
  ·rcases key u B hB with⟨⟨B', o9⟩,e2⟩|⟨c2,e2⟩
   ·have:=h.lt o9; omega
   ·exact h5 t u c1 c2 e1 e
def PE (p p' : Tf->Nat):Prop:=p' .f=p .f/\p' .dn=p .dn
theorem FS.more{S:Fd}{va:AV}{p:Tf->Nat}{σ τ:List ag}(h:FS S va p σ) (hb:∀b,b<σ.length->al τ b=al σ b):FS S va p τ:=
 ⟨λt B hB=>by rw[hb _ (h.lt hB)];exact h.has t B hB,h.inj⟩
def xb:Bool×Option (List Int)->AV
 |(_,none)=>.ah
 |(b,some w)=>.aE b (w.map .int)
def cv (ps:List (Bool×Option (List Int))):List Int:=ps.flatMap λo=>o.2.getD []
theorem am5{ps:List (Bool×Option (List Int))}{o:Bool×Option (List Int)}:cv (ps ++ [o])=cv ps++o.2.getD []:=by simp[cv]
def Ke:IC:=(.seq (.aa SA)
 (.cond 76 (.aa JB) .skip))
def Kf:IC:=(.seq (.aa Sz) Ke)
def Kg:IC:=(.seq (.seq (.aa Sy)
 (.cond 61 .ret .skip)) Kf)
def am6:IC:=(.seq (.seq (.aa JA) (.lB 9)) Kg)
def Xj:IC:=(.seq (.seq (.aa Sx)
 (.cond 49 .ret .skip)) am6)
structure Kh (S:Fd):Prop where
 f:S.F.length=S.W.length
 r:S.R.length=1025
 n:S.W.length<=512
 b:∀n,(S.dN n).length<=100000
theorem am7 (S:Fd){va:AV}{p:Tf->Nat}{σ:List ag}(h:FS S va p σ) (hF:Kh S){x:Nat}(hx:x<S.W.length) (ps:List (Bool×Option (List Int))) (Bh:(cv ps).length<=5000) (hZ:ps.length<=10){K:AV->List ag->Prop}{b:Bool}
  (h1:WK L Xj [.ptr (p .f) 5 0,.int x,.aE b (ps.map xb),.aM,.aM,.aM,.int (cv ps).length,.aM,oz (ix S.W (x:Int)),.aM] none σ (ib rL K)):LX L uL [.ptr (p .f) 5 0,.int x,.aE b (ps.map xb)] σ K:=by
 refine ai0 rfl ?_;have hv:=h.has .f _ rfl;have Xk:=h.has .wo _ rfl;show WK L (.seq (.aa Ss)
 (.seq (.seq (.aa Su)
 (.block 0 (.loop Sv)))
 (.seq (.aa Sw) Xj))) _ none σ _
 simp[-ao];refine bu (λk:Nat=>[(3,.int k),(6,.int (cv (ps.take k)).length)]) (λ_=>σ) (λk=>k<=ps.length) (λk=>ps.length-k) 0 (by simp[bY,cv]) (by omega) ?_
 intro k k0
 by_cases hk:k<ps.length
 ·have tk:ps.take (k+1)=ps.take k ++ [ix ps (k:Int)]:=lj hk
  have jO:=am5 (ps:=ps.take k) (o:=ix ps (k:Int));have hle:(cv (ps.take (k+1))).length<=(cv ps).length:=by
   have e:cv ps=cv (ps.take (k+1))++cv (ps.drop (k+1)):=by unfold cv;rw[<-List.flatMap_append,oR]
   rw[e];simp
  rw[tk,jO,bz]at hle;have vj:=bH (show(k:Int)<(ps.length:Int)by omega)
  rcases ho:ix ps (k:Int)with⟨q,_|w⟩
  ·rw[ho]at jO hle
   have sr:ix (ps.map xb) (k:Int) = .ah:=by rw[jx (by omega) (by omega),ho];rfl
   simp[-ao,hk,sr,ho,xb];exact⟨by omega,by omega,aX (k+1) (by rw[tk,ho,jO];simp) rfl (by omega) (by omega)⟩
  ·rw[ho]at jO hle
   simp at hle;simp[-ao,hk,ho,xb];exact⟨by omega,by omega,aX (k+1) (by rw[tk,ho,jO];simp) rfl (by omega) (by omega)⟩
 ·have ek:k=ps.length:=by omega
  subst ek;simp[-ao,hv,Xk,hx];exact h1
def Fd.off (S:Fd) (x:Nat) (c:List Int):Fd:=
 if 1024<c.length\/ix S.F (x:Int)=true then S
 else match ix S.W (x:Int)with
  |none=>{S with W:=S.W.set x (some c),R:=S.R.set c.length (S.dN c.length ++ [(x:Int)])}
  |some o=>if aW o c<=0 then S else {S with W:=S.W.set x (some c),R:=if c.length<o.length then S.R.set c.length (S.dN c.length ++ [(x:Int)])else S.R}
theorem am8{ps:List (Bool×Option (List Int))}:cv ps=fN (λo=>o.2.getD []) ps:=rfl
theorem am9 (ps:List (Bool×Option (List Int))) (hp:ps.length<=10) (h:(cv ps).length<=5000):PC wM [.aE false (ps.map xb)]=some (iL (cv ps)):=
 am4 (f:=xb) (g:=λo=>o.2.getD []) (λo=>by
  rcases o with⟨q,_|w⟩
  ·exact .inl ⟨rfl,rfl⟩
  ·exact .inr ⟨q,rfl⟩) ps (by omega) (by rw[<-am8];omega)
theorem Ui{σ:List ag}{b x:Nat}{ps:List (Bool×Option (List Int))}(hp:ps.length<=10) (Bh:(cv ps).length<=5000){q:Bool}{o:AV}{R:IC}{Q:Ex->St->Prop}
  (h:∀τ,(∀c,c<σ.length->al τ c=al σ c)->WK L R [.ptr b 5 0,.int x,.aM,.aM,.aM,.aM,.int (cv ps).length,.aM,o,.aE true ((cv ps).map .int)] none τ Q) :
  WK L (.seq (.seq (.aa JA) (.lB 9)) R) [.ptr b 5 0,.int x,.aE q (ps.map xb),.aM,.aM,.aM,.int (cv ps).length,.aM,o,.aM] none σ Q:=by
 have hC:=am9 ps hp Bh
 by_cases hc:cv ps=[]
 ·rw[hc]at hC h ⊢
  simp[-ao,hC];refine⟨0,.ft,_,rfl,?_⟩;have:=h (bQ (λb=>([]:List Nat).contains b) 0 σ) λc _=>by rw[nS];cases al σ c<;>rfl
  exact this
 ·simp[-ao,hC,hc]
  refine⟨by omega,?_⟩
  refine zW (b:=σ.length) (l:=cv ps) ?_ rfl rfl ?_
  ·have:=iA (Q:=σ) (r:=[]) (B:=fy (cv ps))
   unfold fy at this;rw[ab hc]at this;unfold fy;rw[ab hc];exact this
  have:=h (az (σ ++ [⟨none,(cv ps).map .int,.live⟩]) σ.length ⟨none,(cv ps).map .int,.dead⟩) λc aK=>by
   rw[aP (by omega)]
   rw[bE,bE,fw aK]
  rw[show decide (cv ps ≠ [])=true from qd hc];exact this
theorem ana (S:Fd){va:AV}{p:Tf->Nat}{σ:List ag}(h:FS S va p σ) (hF:Kh S){x:Nat}(hx:x<S.W.length) (ps:List (Bool×Option (List Int))) (Bh:(cv ps).length<=5000) (hZ:ps.length<=10) (hW:∀o,ix S.W (x:Int)=some o->o.length<=1024){b:Bool}
  (h3:∀τ o,FS S va p τ->ix S.W (x:Int)=o->(∀w,o=some w->0<aW w (cv ps))->(cv ps).length<=1024->ix S.F (x:Int)=false->WK L Kf [.ptr (p .f) 5 0,.int x,.aM,.aM,.aM,.aM,.int (cv ps).length,.aM,oz o,.aE true ((cv ps).map .int)] none τ (ib rL λr τ=>r = .bS []/\∃p', PE p p' /\FS (S.off x (cv ps)) va p' τ)) :
  WK L Xj [.ptr (p .f) 5 0,.int x,.aE b (ps.map xb),.aM,.aM,.aM,.int (cv ps).length,.aM,oz (ix S.W (x:Int)),.aM] none σ (ib rL λr τ=>r = .bS []/\∃p', PE p p' /\FS (S.off x (cv ps)) va p' τ):=by
 have hv:=h.has .f _ rfl;have Xk:=h.has .wo _ rfl;have vZ:=h.has .fd _ rfl;have xS:=bH (show x<S.F.length by rw[hF.f];exact hx)
 unfold Xj
 by_cases hc:1024<(cv ps).length
 ·have ga :=bH (show(1024:Int)<((cv ps).length:Int)by omega)
  have e:S.off x (cv ps)=S:=ae (.inl hc);rw[e];cases ho:ix S.W (x:Int)with
  |none=>
   simp[-ao,ga, hv,vZ,xS,oz];exact⟨p,⟨rfl,rfl⟩,h⟩
  |some o=>
   simp[-ao,ga, hv,vZ,xS,oz];exact⟨p,⟨rfl,rfl⟩,h⟩
 have ga :=gl (show ¬(1024:Int)<((cv ps).length:Int)by omega)
 by_cases hf:ix S.F (x:Int)=true
 ·have e:S.off x (cv ps)=S:=ae (.inr hf)
  rw[e];cases ho:ix S.W (x:Int)with
  |none=>
   simp[-ao,ga, hv,vZ,xS,oz,hf];exact⟨p,⟨rfl,rfl⟩,h⟩
  |some o=>
   simp[-ao,ga, hv,vZ,xS,oz,hf];exact⟨p,⟨rfl,rfl⟩,h⟩
 have xT : ix S.F (x:Int)=false:=by simpa using hf
 cases ho:ix S.W (x:Int)with
 |none=>
  simp[-ao,ga, hv,vZ,xS,oz,xT];refine Ui hZ Bh λτ uV=>?_;have hS:=h.more uV;unfold Kg;simp[-ao];exact h3 τ none hS ho (λw h=>by simp at h) (by omega) xT
 |some o=>
  have hoe:=hW o ho;have zp:PC pj [.aE false (o.map .int),.aE false ((cv ps).map .int)]=some (.int (aW o (cv ps))):=Fj o (cv ps) (by omega) (by omega)
  by_cases aK:o.length<(cv ps).length
  ·have pB :=bH aK
   have e:S.off x (cv ps)=S:=by
    unfold Fd.off;rw[ab (by simp[xT];omega),ho]
    simp only;rw[ae];unfold aW;rw[ae (by omega)]
    omega
   rw[e];simp[-ao,ga, hv,vZ,xS,oz,xT, pB];exact⟨p,⟨rfl,rfl⟩,h⟩
  ·have pB :=gl aK
   simp[-ao,ga, hv,vZ,xS,oz,xT, pB];refine Ui hZ Bh λτ uV=>?_;have hS:=h.more uV;unfold Kg
   by_cases hle:aW o (cv ps)<=0
   ·have e:S.off x (cv ps)=S:=by
     unfold Fd.off;rw[ab (by simp[xT];omega),ho]
     exact ae hle
    rw[e];have Af :=bH hle;simp[-ao,zp,Af];exact⟨p,⟨rfl,rfl⟩,hS⟩
   ·have Af :=gl hle
    simp[-ao,zp,Af];exact h3 τ (some o) hS ho (λw h=>by injection h with h;subst h;omega) (by omega) xT
theorem FS.word{S:Fd}{va:AV}{p:Tf->Nat}{σ:List ag}(h:FS S va p σ){x:Nat}{o:Option (List Int)}:FS {S with W:=S.W.set x o} va p (az σ (p .wo) ⟨none,(S.W.map oz).set x (oz o),.live⟩):=by
 refine h.step (λt=>t = .wo) (λt ht=>⟨?_,rfl⟩) (λt B ht hB=>?_) (λt B ht hB=>?_) (λt B ht hB=>.inl ⟨⟨_,by subst ht;rfl⟩,rfl⟩) λt u ht hu _ _=>by rw[ht,hu]
 ·cases t with
  |wo=>exact absurd rfl ht
  |f=>simp[Fd.cont]
  |_=>rfl
 ·subst ht
  have:Fd.cont {S with W:=S.W.set x o} va p .wo=some ⟨none,(S.W.map oz).set x (oz o),.live⟩:=by simp[Fd.cont,List.map_set]
  rw[this]at hB;rw[cH (h.lt (t:=.wo) rfl)];exact hB
 ·rw[aP (h.ne (t:=.wo) rfl hB (Ne.symm ht))]
  exact h.has t B hB
theorem Ag{S:Fd}{n:Nat}{l:List Int}(hn:n<S.R.length) (m:Nat):Fd.dN {S with R:=S.R.set n l} m=if m=n then l else S.dN m:=jd hn m
theorem FS.push{S:Fd}{va:AV}{p p' : Tf->Nat}{σ τ:List ag}(h:FS S va p σ){n:Nat}{l:List Int}(hn:n<S.R.length) (hl:l ≠ []) (hp:∀t,t ≠ .bk n->p' t=p t)
  (h2:al τ (p' (.bk n))=some (Zb l)) (r8 : al τ (p .rd)=some ⟨none,((List.range S.R.length).map λm=>cT (p (.bk m)) (S.dN m).length).set n (.sl (p' (.bk n)) l.length 0 l.length),.live⟩)
  (h3:∀t B,t ≠ .rd->t ≠ .bk n->S.cont va p t=some B->al τ (p t)=some B)
  (h4:(S.dN n ≠ []/\p' (.bk n)=p (.bk n))\/σ.length<=p' (.bk n)):FS {S with R:=S.R.set n l} va p' τ:=by
 have hlen:(S.R.set n l).length=S.R.length:=by simp
 have wW:Fd.cont {S with R:=S.R.set n l} va p' .rd=some ⟨none,((List.range S.R.length).map λm=>cT (p (.bk m)) (S.dN m).length).set n (.sl (p' (.bk n)) l.length 0 l.length),.live⟩:=by
  show some (⟨none,(List.range (S.R.set n l).length).map λm=>cT (p' (.bk m)) (Fd.dN {S with R:=S.R.set n l} m).length,.live⟩:ag)=_
  rw[hlen]
  congr 2
  apply mG (by simp)
  intro i h1 _;simp at h1;rw[List.getElem_set];simp only[oS,List.getElem_range,Ag hn]
  by_cases e:n=i
  ·subst e
   rw[ae rfl,ae rfl];exact ab λe=>hl (dW e)
  ·rw[ab e,ab (Ne.symm e),hp _ (by simp;exact λe' =>e e'.symm)]
 have qS:Fd.cont {S with R:=S.R.set n l} va p' (.bk n)=some (Zb l):=by
  show(if n<(S.R.set n l).length/\Fd.dN {S with R:=S.R.set n l} n ≠ []then some (Zb (Fd.dN {S with R:=S.R.set n l} n))else none)=_
  rw[Ag hn,ae rfl,hlen,ae ⟨hn,hl⟩]
 refine h.step (λt=>t = .rd\/t = .bk n) (λt ht=>?_) (λt B ht hB=>?_) (λt B ht hB=>h3 t B (λe=>ht (.inl e)) (λe=>ht (.inr e)) hB) (λt B ht hB=>?_) λt u ht hu aK e=>?_
 ·have t1:t ≠ .rd:=λe=>ht (.inl e)
  have t2:t ≠ .bk n:=λe=>ht (.inr e);refine⟨?_,hp t t2⟩;cases t with
  |rd=>exact absurd rfl t1
  |f=>simp[Fd.cont,hp]
  |bk m=>
   have hm:m ≠ n:=λe=>t2 (by rw[e])
   show(if m<(S.R.set n l).length/\Fd.dN {S with R:=S.R.set n l} m ≠ []then some (Zb (Fd.dN {S with R:=S.R.set n l} m))else none)=if m<S.R.length/\S.dN m ≠ []then some (Zb (S.dN m))else none
   rw[hlen,Ag hn,ab hm]
  |_=>rfl
 ·rcases ht with rfl|rfl
  ·rw[wW]at hB;rw[hp _ (by simp),r8];exact hB
  ·rw[qS]at hB;rw[h2];exact hB
 ·rcases ht with rfl|rfl
  ·exact .inl ⟨⟨_,rfl⟩,hp _ (by simp)⟩
  ·exact h4.imp (λq=>⟨⟨_,ae ⟨hn,q.1⟩⟩,q.2⟩) id
 ·have q:=h.lt (t:=.rd) rfl
  rcases ht with rfl|rfl
  ·rw[hp _ (by simp)]at aK;omega
  ·rcases hu with rfl|rfl
   ·rw[hp .rd (by simp)]at e;omega
   ·rfl
def ub (o:Option (List Int)) (c:List Int):Bool:=match o with
 |none=>true
 |some w=>decide (c.length<w.length)
def Fd.pC (S:Fd) (n x:Nat):Fd:={S with R:=S.R.set n (S.dN n ++ [(x:Int)])}
theorem anb (S:Fd){va:AV}{p:Tf->Nat}{σ:List ag}(h:FS S va p σ) (hF:Kh S){x:Nat}{n:Nat}(o:Option (List Int)){w:List Int}(hn:n=w.length) (Gr:n<=1024) (S0:Fd) (GY:S0=if ub o w=true then S.pC n x else S) :
  WK L Ke [.ptr (p .f) 5 0,.int x,.aM,.aM,.aM,.aM,.int n,.aM,oz o,.aM] none σ (ib rL λr τ=>r = .bS []/\∃p', PE p p' /\FS S0 va p' τ):=by
 unfold Ke;have hv:=h.has .f _ rfl;have wW:=h.has .rd _ rfl;subst hn;have iC:w.length<S.R.length:=by have:=hF.r;omega
 have go:ub o w=true->WK L (.aa JB) [.ptr (p .f) 5 0,.int x,.aM,.aM,.aM,.aM,.int w.length,.aM,.aM,.aM] none σ (ib rL λr τ=>r = .bS []/\∃p', PE p p' /\FS S0 va p' τ):=λhg=>by
  rw[ae hg]at GY;subst GY;have hb:=hF.b w.length;have e2:ix (List.range S.R.length) (w.length:Int)=w.length:=by rw[aT (by simpa using iC)];simp
  have e3:ix (List.range S.R.length) (0+(w.length:Int)*1)=w.length:=by rw[<-e2];congr 1;omega
  have hl:S.dN w.length ++ [(x:Int)] ≠ []:=by simp
  have l1:=h.lt (t:=.rd) rfl;have l2:=h.lt (t:=.f) rfl
  by_cases hz:S.dN w.length=[]
  ·have e6:cT (p (.bk w.length)) (S.dN w.length).length = .ah:=by rw[hz];rfl
   have qG:∀B:ag,al (σ ++ [B]) (p .f)=_:=λB=>gn (r:=[B]) hv;have AR:∀B:ag,al (σ ++ [B]) (p .rd)=_:=λB=>gn (r:=[B]) wW;simp[-ao,hv,wW,e2,e3,e6,iC,qG,AR];refine⟨by omega,λt=>if t = .bk w.length then σ.length else p t,⟨by simp,by simp⟩,?_⟩
   have pz:∀t,t ≠ Tf.bk w.length->(λt=>if t=Tf.bk w.length then σ.length else p t) t=p t:=λt ht=>ab ht
   have w5:(λt=>if t=Tf.bk w.length then σ.length else p t) (.bk w.length)=σ.length:=ae rfl
   generalize (λt=>if t=Tf.bk w.length then σ.length else p t)=p' at *
   have l3:p .rd<(σ ++ [(⟨none,[AV.int x],.live⟩:ag)]).length:=by simp;omega
   refine h.push iC hl pz ?_ ?_ (λt B t1 t2 hB=>?_) (.inr (by omega))
   ·rw[w5,aP (by omega),iA,hz];rfl
   ·rw[cH l3,w5,show(AV.sl σ.length 1 0 1).cells=[AV.sl σ.length 1 0 1]from rfl,rP,hz];rfl
   ·rw[aP (h.ne (t:=.rd) rfl hB (Ne.symm t1))];exact gn (h.has t B hB)
  ·have e6:cT (p (.bk w.length)) (S.dN w.length).length = .sl (p (.bk w.length)) (S.dN w.length).length 0 (S.dN w.length).length:=ab λe=>hz (dW e)
   have qS:=h.has (.bk w.length) _ (ae ⟨iC,hz⟩);have n1:p (.bk w.length) ≠ p .rd:=h.ne (t:=.bk w.length) (u:=.rd) (ae ⟨iC,hz⟩) rfl (by simp)
   have b1:∀(Q:List ag) B,al (az Q (p (.bk w.length)) B) (p .rd)=al Q (p .rd):=λQ B=>aP n1;simp[-ao,hv,wW,e2,e3,e6,iC,qS,b1];refine⟨by omega,by omega,p,⟨rfl,rfl⟩,?_⟩
   have l3:=h.lt (t:=.bk w.length) (ae ⟨iC,hz⟩);refine h.push iC hl (λ_ _=>rfl) ?_ ?_ (λt B t1 t2 hB=>?_) (.inl ⟨hz,rfl⟩)
   ·rw[aP n1.symm,cH l3];simp
   ·rw[cH (by rw[cg];exact l1),show(AV.sl (p (.bk w.length)) ((S.dN w.length).length+1) 0 ((S.dN w.length).length+1)).cells=[AV.sl (p (.bk w.length)) ((S.dN w.length).length+1) 0 ((S.dN w.length).length+1)]from rfl,rP]
    simp
   ·rw[aP (h.ne (t:=.rd) rfl hB (Ne.symm t1)),aP (h.ne (t:=.bk w.length) (ae ⟨iC,hz⟩) hB (Ne.symm t2))];exact h.has t B hB
 cases o with
 |none=>
  have:=go rfl;simp[-ao,oz]at this ⊢;exact this
 |some u=>
  by_cases aK:w.length<u.length
  ·have pB :=bH aK
   have:=go (by simpa[ub]using aK)
   simp[-ao,oz,pB]at this ⊢;exact this
  ·have pB :=gl aK
   rw[ab (by simpa[ub]using aK)]at GY
   subst GY;simp[-ao,oz,pB];exact⟨p,⟨rfl,rfl⟩,h⟩
def iq:List Int->List Bool->List Int×List Bool
 | [],F=>([],F)
 |x::l,F=>if ix F x=true then iq l F else((x::(iq l (F.set x.toNat true)).1),(iq l (F.set x.toNat true)).2)
theorem Ki:∀(l:List Int) (x:Int) (F:List Bool),iq (l ++ [x]) F=if ix (iq l F).2 x=true then iq l F else((iq l F).1 ++ [x],(iq l F).2.set x.toNat true)
 | [],x,F=>by
  show(if ix F x=true then([],F)else([x],F.set x.toNat true))=_
  by_cases e:ix F x=true<;>simp[e,iq]
 |a::l,x,F=>by
  simp only[lf,iq];split
  ·exact Ki l x F
  ·rw[Ki l x _]
   split
   ·rfl
   ·rfl
theorem Ah:∀(l:List Int) (F:List Bool),(iq l F).2.length=F.length/\(iq l F).1.length<=l.length
 | [],F=>⟨rfl,bA _⟩
 |a::l,F=>by
  simp only[iq];split
  ·have:=Ah l F;exact⟨this.1,by simp;omega⟩
  ·have:=Ah l (F.set a.toNat true);exact⟨by simpa using this.1,by simp;omega⟩
theorem FS.found{S:Fd}{va:AV}{p:Tf->Nat}{σ:List ag}(h:FS S va p σ){F:List Bool}(hl:F.length=S.F.length):FS {S with F:=F} va p (az σ (p .fd) ⟨none,F.map .bool,.live⟩):=by
 refine h.step (λt=>t = .fd) (λt ht=>⟨?_,rfl⟩) (λt B ht hB=>?_) (λt B ht hB=>?_) (λt B ht hB=>.inl ⟨⟨_,by subst ht;rfl⟩,rfl⟩) λt u ht hu _ _=>by rw[ht,hu]
 ·cases t with
  |fd=>exact absurd rfl ht
  |f=>simp[Fd.cont,hl]
  |_=>rfl
 ·subst ht
  have:Fd.cont {S with F:=F} va p .fd=some ⟨none,F.map .bool,.live⟩:=rfl
  rw[this]at hB;rw[cH (h.lt (t:=.fd) rfl)];exact hB
 ·rw[aP (h.ne (t:=.fd) rfl hB (Ne.symm ht))]
  exact h.has t B hB
theorem FS.Ai{S:Fd}{va:AV}{p:Tf->Nat}{σ:List ag}(h:FS S va p σ){b:Nat}{B:ag}(hb:∀t A,S.cont va p t=some A->p t ≠ b):FS S va p (az σ b B):=
 ⟨λt A hA=>by rw[aP (Ne.symm (hb t A hA))];exact h.has t A hA,h.inj⟩
theorem Uj{S:Fd}{va:AV}{p:Tf->Nat}{F:List Bool}{t:Tf}{A:ag}(h:Fd.cont {S with F:=F} va p t=some A):∃B,S.cont va p t=some B:=by
 cases t with
 |f=>exact⟨_,rfl⟩
 |wo=>exact⟨_,rfl⟩
 |fd=>exact⟨_,rfl⟩
 |rd=>exact⟨_,rfl⟩
 |dn=>exact⟨A,h⟩
 |bk n=>exact⟨A,h⟩
theorem anc (S:Fd){va:AV}{p:Tf->Nat}{σ:List ag}(h:FS S va p σ) (hF:Kh S){n:Nat}(hn:n<=1024) (hr:∀y∈S.dN n,0<=y/\y<(S.W.length:Int)) :
  LX L Jk [.ptr (p .f) 5 0,.int n] σ (λr τ=>r = .sl σ.length (iq (S.dN n) S.F).1.length 0 (iq (S.dN n) S.F).1.length/\FS {S with F:=(iq (S.dN n) S.F).2} va p τ/\al τ σ.length=some (fy (iq (S.dN n) S.F).1)/\σ.length<τ.length):=by
 refine ai1 rfl ?_;have hv:=h.has .f _ rfl;have wW:=h.has .rd _ rfl;have iC:n<S.R.length:=by have:=hF.r;omega
 have hb:=hF.b n;have qG:∀B:ag,al (σ ++ [B]) (p .f)=_:=λB=>gn (r:=[B]) hv;have AR:∀B:ag,al (σ ++ [B]) (p .rd)=_:=λB=>gn (r:=[B]) wW;have e2:ix (List.range S.R.length) (n:Int)=n:=by rw[aT (by simpa using iC)];simp
 have e3:ix (List.range S.R.length) (0+(n:Int)*1)=n:=by rw[<-e2];congr 1;omega
 by_cases hz:S.dN n=[]
 ·have e6:cT (p (.bk n)) (S.dN n).length = .ah:=by rw[hz];rfl
  have ht:iq (S.dN n) S.F=([],S.F):=by rw[hz];rfl
  rw[ht];simp[-ao,qG,AR,e2,e3,e6,iC];refine bu (λ_:Unit=>[]) (λ_=>σ ++ [fy []]) (λ_=>True) (λ_=>0) () (by simp[bY]) trivial ?_
  rintro⟨⟩ _;simp[-ao];exact⟨h.more λb hb=>by rw[bE,bE,fw hb],iA⟩
 ·have e6:cT (p (.bk n)) (S.dN n).length = .sl (p (.bk n)) (S.dN n).length 0 (S.dN n).length:=ab λe=>hz (dW e)
  simp[-ao,qG,AR,e2,e3,e6,iC];generalize hl:S.dN n=l at *;refine bu (λq:Nat×List ag=>[(2,.int q.1),(6,.sl σ.length (iq (l.take q.1) S.F).1.length 0 (iq (l.take q.1) S.F).1.length)]) (λq=>q.2) (λq=>q.1<=l.length/\FS {S with F:=(iq (l.take q.1) S.F).2} va p q.2/\al q.2 σ.length=some (fy (iq (l.take q.1) S.F).1)/\σ.length<q.2.length) (λq=>l.length-q.1) (0,σ ++ [fy []]) (by simp[bY,iq]) ⟨by simp,h.more λb hb=>by rw[bE,bE,fw hb],iA,by simp⟩ ?_
  rintro⟨k,qj⟩ ⟨k0,hS,mL,aK⟩;dsimp only at k0 hS mL aK ⊢;have dQ:=hS.has .f _ rfl;have Uk:=hS.has .fd _ rfl;have Ul:=hS.has (.bk n) (Zb l) (by
   show(if n<S.R.length/\S.dN n ≠ []then some (Zb (S.dN n))else none)=_
   rw[hl,ae ⟨iC,hz⟩])
  have A7:=(Ah (l.take k) S.F).1;have Yo:=(Ah (l.take k) S.F).2;have Ye:(l.take k).length<=l.length:=by simp;omega
  by_cases hk:k<l.length
  ·have tk:=lj hk
   have FB:=Ki (l.take k) (ix l (k:Int)) S.F;rw[<-tk]at FB;have hx:=hr _ (aU (l:=l) (n:=(k:Int)) (by omega) (by omega))
   have xS:ix l (k:Int)<((iq (l.take k) S.F).2.length:Int):=by rw[A7,hF.f];exact hx.2
   have nf:p .fd ≠ σ.length:=by have:=h.lt (t:=.fd) rfl;omega
   have AT:=hS.found (F:=(iq (l.take k) S.F).2.set (ix l (k:Int)).toNat true) (by simp)
   generalize iq (l.take k) S.F=T at *;obtain⟨out,F⟩:=T;dsimp only at *;have Um :=eq_true xS
   by_cases hf:ix F (ix l (k:Int))=true
   ·rw[ae hf]at FB
    simp[-ao,hk,dQ,Uk,Ul,hx.1,Um, hf];exact⟨by omega,aX (k+1,qj) (by simp[FB]) rfl ⟨by dsimp only;omega,by dsimp only;rw[FB];exact hS,by dsimp only;rw[FB];exact mL,aK⟩ (by dsimp only;omega)⟩
   ·rw[ab hf]at FB
    have xT : ix F (ix l (k:Int))=false:=by simpa using hf
    have A6:∀B,al (az qj (p .fd) B) σ.length=some (fy out):=λB=>by rw[aP nf];exact mL
    simp[-ao,hk,dQ,Uk,Ul,hx.1,Um, xT, A6];refine⟨by split<;>rfl,by omega,by omega,aX (k+1,_) (by simp[FB]) rfl ⟨by dsimp only;omega,?_,?_,by dsimp only;rw[cg,cg];exact aK⟩ (by dsimp only;omega)⟩
    ·dsimp only
     rw[FB];rw[List.map_set]at AT;exact AT.Ai λt A hA=>by
      obtain⟨B,hB⟩:=Uj hA;have:=h.lt hB;omega
    ·dsimp only
     rw[FB,cH (by rw[cg];exact aK)]
     simp
  ·have ek:k=l.length:=by omega
   subst ek;rw[List.take_length]at *;simp[-ao];exact⟨hS,mL,aK⟩
theorem Kj{S:Fd}{x:Nat}{c:List Int}{o:Option (List Int)}(ho:ix S.W (x:Int)=o) (nq:∀w,o=some w->0<aW w c) (hc:c.length<=1024) (hf:ix S.F (x:Int)=false):S.off x c=if ub o c=true then Fd.pC {S with W:=S.W.set x (some c)} c.length x else {S with W:=S.W.set x (some c)}:=by
 unfold Fd.off;rw[ab (by simp[hf];omega),ho]
 cases o with
 |none=>rfl
 |some w=>
  have:=nq w rfl;simp only;rw[ab (by omega)]
  by_cases e:c.length<w.length
  ·rw[ae e,ae (by simpa[ub]using e)];rfl
  ·rw[ab e,ab (by simpa[ub]using e)]
theorem Kk (S:Fd){va:AV}{p:Tf->Nat}{σ:List ag}(h:FS S va p σ) (hF:Kh S){x:Nat}(hx:x<S.W.length) (ps:List (Bool×Option (List Int))) (Bh:(cv ps).length<=5000) (hZ:ps.length<=10) (hW:∀o,ix S.W (x:Int)=some o->o.length<=1024) (b:Bool) :
  LX L uL [.ptr (p .f) 5 0,.int x,.aE b (ps.map xb)] σ (λr τ=>r = .bS []/\∃p', PE p p' /\FS (S.off x (cv ps)) va p' τ):=by
 refine am7 S h hF hx ps Bh hZ (ana S h hF hx ps Bh hZ hW λτ o hS ho nq hc hf=>?_);unfold Kf;have hv:=hS.has .f _ rfl;have Xk:=hS.has .wo _ rfl;have n1:p .wo ≠ p .f:=hS.ne (t:=.wo) (u:=.f) rfl rfl (by simp)
 simp[-ao,hv,Xk,hx];have hw:=hS.word (x:=x) (o:=some (cv ps));have e:(AV.aE true ((cv ps).map .int)).cells=[oz (some (cv ps))]:=rfl;rw[e,rP];have hF2:Kh {S with W:=S.W.set x (some (cv ps))}:=⟨by simp[hF.f],hF.r,by simp[hF.n],hF.b⟩
 exact⟨by omega,anb _ hw hF2 o rfl hc _ (Kj ho nq hc hf)⟩
structure mf (S:Fd):Prop where
 f:S.F.length=S.W.length
 r:S.R.length=1025
 n:S.W.length<=512
 nd:∀n,(S.dN n).Nodup
 bm:∀n y,y∈S.dN n->(0<=y/\y<(S.W.length:Int))/\∃w,ix S.W y=some w/\w.length<=n
 wl:∀x w,0<=x->x<(S.W.length:Int)->ix S.W x=some w->w.length<=1024
theorem mf.ok{S:Fd}(h:mf S):Kh S:=⟨h.f,h.r,h.n,λn=>by
 have:=uQ S.W.length (h.nd n) λy hy=>(h.bm n y hy).1;have:=h.n;omega⟩
theorem rR{α:Type} [Inhabited α]{l:List α}{k:Nat}{v:α}(hk:k<l.length){j:Int}(j0:0<=j):ix (l.set k v) j=if j=k then v else ix l j:=by
 have:=jd (v:=v) hk j.toNat;rw[show((j.toNat:Nat):Int)=j by omega]at this
 rw[this]
 by_cases e:j=k
 ·rw[ae e,ae (by omega)]
 ·rw[ab e,ab (by omega)]
theorem Kl (S:Fd) (x:Nat) (c:List Int):S.off x c=S\/(c.length<=1024/\ix S.F (x:Int)=false/\(∀w,ix S.W (x:Int)=some w->0<aW w c)/\((ub (ix S.W (x:Int)) c=true/\S.off x c=Fd.pC {S with W:=S.W.set x (some c)} c.length x)\/(ub (ix S.W (x:Int)) c=false/\S.off x c={S with W:=S.W.set x (some c)}))):=by
 by_cases h1:1024<c.length\/ix S.F (x:Int)=true
 ·exact .inl (ae h1)
 have hc:c.length<=1024:=by omega
 have hf:ix S.F (x:Int)=false:=by
  cases e:ix S.F (x:Int)with
  |false=>rfl
  |true=>exact absurd (.inr e) h1
 by_cases h2:∃w,ix S.W (x:Int)=some w/\aW w c<=0
 ·obtain⟨w,hw,hle⟩:=h2
  left;unfold Fd.off;rw[ab h1,hw];exact ae hle
 ·right
  have nq:∀w,ix S.W (x:Int)=some w->0<aW w c:=λw hw=>eU λhn=>h2 ⟨w,hw,by omega⟩
  refine⟨hc,hf,nq,?_⟩;have:=Kj rfl nq hc hf;cases hn:ub (ix S.W (x:Int)) c with
  |true=>rw[ae hn]at this;exact .inl ⟨rfl,this⟩
  |false=>rw[ab (by simp[hn])]at this;exact .inr ⟨rfl,this⟩
theorem mf.off{S:Fd}(h:mf S){x:Nat}(hx:x<S.W.length) (c:List Int):mf (S.off x c):=by
 rcases Kl S x c with e|⟨hc,hf,nq,⟨hn,e⟩|⟨hn,e⟩⟩
 ·rw[e];exact h
 ·rw[e]
  have Un:(x:Int)∉S.dN c.length:=λhm=>by
   obtain⟨_,w,hw,hl⟩:=h.bm _ _ hm;rw[hw]at hn;simp only[ub,eR]at hn;omega
  have iC:c.length<S.R.length:=by rw[h.r];omega
  have qS:∀m,Fd.dN (Fd.pC {S with W:=S.W.set x (some c)} c.length x) m=if m=c.length then S.dN c.length ++ [(x:Int)]else S.dN m:=λm=>Ag (S:={S with W:=S.W.set x (some c)}) iC m
  refine⟨by show S.F.length=(S.W.set x (some c)).length;simp[h.f],by show(S.R.set _ _).length=1025;simp[h.r],by show(S.W.set x (some c)).length<=512;simp[h.n],λm=>?_,λm y hy=>?_,λz w z0 z1 hw=>?_⟩
  ·rw[qS]
   split
   ·rw[sN]
    exact⟨h.nd _,by simp,λa ha b hb=>by simp at hb;subst hb;exact λe=>Un (e▸ha)⟩
   ·exact h.nd m
  ·rw[qS]at hy
   show(0<=y/\y<((S.W.set x (some c)).length:Int))/\∃w,ix (S.W.set x (some c)) y=some w/\w.length<=m;rw[nQ];have key:y∈S.dN m->(0<=y/\y<(S.W.length:Int))/\∃w,ix (S.W.set x (some c)) y=some w/\w.length<=m:=λhy=>by
    obtain⟨hr,w,hw,hl⟩:=h.bm m y hy;refine⟨hr,?_⟩;rw[rR hx hr.1]
    by_cases e:y=x
    ·subst e
     rw[hw]at hn;simp only[ub,eR]at hn;exact⟨c,ae rfl,by omega⟩
    ·exact⟨w,by rw[ab e];exact hw,hl⟩
   split at hy
   ·rename_i em
    rcases eH.1 hy with hy|hy
    ·exact key (by rw[em];exact hy)
    ·simp at hy
     subst hy;exact⟨by omega,c,by rw[rR hx (by omega),ae rfl],by omega⟩
   ·exact key hy
  ·rw[show(Fd.pC {S with W:=S.W.set x (some c)} c.length x).W=S.W.set x (some c)from rfl]at hw z1
   rw[rR hx z0]at hw;split at hw
   ·injection hw with hw;subst hw;exact hc
   ·exact h.wl z w z0 (by simpa using z1) hw
 ·rw[e]
  refine⟨by simp[h.f],h.r,by simp[h.n],h.nd,λm y hy=>?_,λz w z0 z1 hw=>?_⟩
  ·obtain⟨hr,w,hw,hl⟩:=h.bm m y hy
   show(0<=y/\y<((S.W.set x (some c)).length:Int))/\∃w,ix (S.W.set x (some c)) y=some w/\w.length<=m;rw[nQ,rR hx hr.1];refine⟨hr,?_⟩
   by_cases e:y=x
   ·subst e
    have Km:=nq w hw;rw[ae rfl];refine⟨c,rfl,?_⟩;have:¬w.length<c.length:=λaK=>by unfold aW at Km;rw[ae (by omega)]at Km;omega
    omega
   ·exact⟨w,by rw[ab e];exact hw,hl⟩
  ·dsimp only at hw z1
   rw[rR hx z0]at hw;split at hw
   ·injection hw with hw;subst hw;exact hc
   ·exact h.wl z w z0 (by simpa using z1) hw
theorem Kn{S:Fd}{x:Nat}{c:List Int}:(S.off x c).W.length=S.W.length/\(S.off x c).F=S.F/\(S.off x c).N=S.N:=by
 rcases Kl S x c with e|⟨_,_,_,⟨_,e⟩|⟨_,e⟩⟩<;>rw[e]<;>simp[Fd.pC]
theorem Uo{S:Fd}{x:Nat}{c:List Int}(hx:x<S.W.length){y:Int}(y0:0<=y) (hf:ix S.F y=true):ix (S.off x c).W y=ix S.W y:=by
 rcases Kl S x c with e|⟨_,AT,_,⟨_,e⟩|⟨_,e⟩⟩
 ·rw[e]
 ·rw[e]
  show ix (S.W.set x (some c)) y=_;rw[rR hx y0,ab λe=>by rw[e,AT]at hf;simp at hf]
 ·rw[e]
  show ix (S.W.set x (some c)) y=_;rw[rR hx y0,ab λe=>by rw[e,AT]at hf;simp at hf]
def Fd.enc (D:Vd) (x c y:Nat) (wx wy:List Int) (S:Fd):Nat->Fd
 |0=>S
 |r+1=>(Fd.enc D x c y wx wy S r).off (D.bk x c y r).toNat (wx++(c:Int)::(wy ++ [D.n.calls+D.n.aj+r]))
theorem Ko{D:Vd}{x c y:Nat}{wx wy:List Int}{S:Fd}(h:mf S) (hb:∀r:Nat,(r:Int)<D.n.aq->0<=D.bk x c y r/\D.bk x c y r<(S.W.length:Int)):∀r:Nat,(r:Int)<=D.n.aq->mf (Fd.enc D x c y wx wy S r)/\(Fd.enc D x c y wx wy S r).W.length=S.W.length/\(Fd.enc D x c y wx wy S r).F=S.F/\(Fd.enc D x c y wx wy S r).N=S.N/\∀z:Int,0<=z->ix S.F z=true->ix (Fd.enc D x c y wx wy S r).W z=ix S.W z
 |0,_=>⟨h,rfl,rfl,rfl,λ_ _ _=>rfl⟩
 |r+1,hr=>by
  obtain⟨h1,h2,h3,h4,h5⟩:=Ko (wx:=wx) (wy:=wy) h hb r (by omega)
  have mL:=hb r (by omega)
  have hx:(D.bk x c y r).toNat<(Fd.enc D x c y wx wy S r).W.length:=by omega
  obtain⟨o1,o2,o3⟩:=Kn (S:=Fd.enc D x c y wx wy S r) (x:=(D.bk x c y r).toNat) (c:=wx++(c:Int)::(wy ++ [D.n.calls+D.n.aj+r]));exact⟨h1.off hx _,by show((Fd.enc D x c y wx wy S r).off _ _).W.length=_;rw[o1,h2],o2.trans h3,o3.trans h4,λz z0 hz=>(Uo hx z0 (by rw[h3];exact hz)).trans (h5 z z0 hz)⟩
theorem Up (D:Vd) (hD:jQ D) (S:Fd){p:Tf->Nat}{σ:List ag}(h:FS S D.vcs.av p σ) (hF:mf S) (hk:S.W.length=D.K.length){x c y:Nat}(hx:x<D.K.length) (hy:y<D.K.length) (hc:c<D.n.calls.toNat){wx wy:List Int}(h1:ix S.W (x:Int)=some wx) (h2:ix S.W (y:Int)=some wy) (f1:ix S.F (x:Int)=true) (f2:ix S.F (y:Int)=true) :
  LX L EI [.ptr (p .f) 5 0,.int x,.int c,.int y] σ (λr τ=>r = .bS []/\∃p', PE p p' /\FS (Fd.enc D x c y wx wy S D.n.aq.toNat) D.vcs.av p' τ):=by
 refine ajn rfl ?_;have hv:=h.has .f _ rfl;have hfb:=hD.f.b;have lL:=hD.c;have GH:=hD.r;have wE:=hD.n;have x1:=bH (show(x:Int)<(D.BL.length:Int)by omega)
 have x2:=bH (show(c:Int)<((ix D.BL (x:Int)).length:Int)by have:=hD.rl x hx;unfold Vd.row at this;omega)
 have x3:=bH (show(y:Int)<((ix (ix D.BL (x:Int)) (c:Int)).length:Int)by have:=hD.f.c x c hx hc;unfold Vd.bX Vd.row at this;omega)
 have ny:=hD.rQ x c y hx hc hy;unfold Vd.bX Vd.row at ny;have hb:∀r:Nat,(r:Int)<D.n.aq->0<=D.bk x c y r/\D.bk x c y r<(S.W.length:Int):=λr hr=>by
  rw[hk];exact ny.2 _ (aU (by omega) (by omega))
 have wl1:=hF.wl x wx (by omega) (by omega) h1
 have wl2:=hF.wl y wy (by omega) (by omega) h2
 simp[-ao,hv,x1,x2,x3];refine bu (λq:Nat×(Tf->Nat)×List ag=>[(5,.int q.1)]) (λq=>q.2.2) (λq=>q.1<=D.n.aq.toNat/\PE p q.2.1/\FS (Fd.enc D x c y wx wy S q.1) D.vcs.av q.2.1 q.2.2) (λq=>D.n.aq.toNat-q.1) (0,p,σ) (by simp[bY]) ⟨by simp,⟨rfl,rfl⟩,h⟩ ?_
 rintro⟨r,p1,qj⟩ ⟨r0,jD,hS⟩;dsimp only at r0 jD hS ⊢;obtain⟨k1,k2,k3,k4,k5⟩:=Ko (wx:=wx) (wy:=wy) hF hb r (by omega)
 have dQ:=hS.has .f _ rfl;have Kq:=hS.has .wo _ rfl;rw[jD.1]at dQ
 by_cases hr:r<D.n.aq.toNat
 ·have pQ:=bH (show(r:Int)<(((ix (ix (ix D.BL (x:Int)) (c:Int)) (y:Int)).length:Nat):Int)by omega)
  have mL:=hb r (by omega)
  have g1:=k5 x (by omega) f1
  have g2:=k5 y (by omega) f2
  rw[h1]at g1;rw[h2]at g2;have Aj:cv [(true,some wx),(false,some [(c:Int)]),(true,some wy),(false,some [D.n.calls+D.n.aj+r])]=wx++(c:Int)::(wy ++ [D.n.calls+D.n.aj+r]):=by simp[cv]
  have hO:=Kk (Fd.enc D x c y wx wy S r) hS k1.ok (x:=(D.bk x c y r).toNat) (by omega) [(true,some wx),(false,some [(c:Int)]),(true,some wy),(false,some [D.n.calls+D.n.aj+r])] (by rw[Aj];simp;omega) (by simp) (λo ho=>k1.wl _ _ (by omega) (by omega) ho) false
  obtain⟨rv,τ,hO,rfl,p2,nV,iI⟩:=dS hO;rw[Aj]at iI;rw[jD.1]at hO;have nV:PE p p2:=⟨nV.1.trans jD.1,nV.2.trans jD.2⟩;have qS:((D.bk x c y r).toNat:Int)=ix (ix (ix (ix D.BL (x:Int)) (c:Int)) (y:Int)) (r:Int):=by
   have:D.bk x c y r=ix (ix (ix (ix D.BL (x:Int)) (c:Int)) (y:Int)) (r:Int):=rfl;omega
  rw[qS]at hO;have lx:=bH (show(x:Int)<((Fd.enc D x c y wx wy S r).W.length:Int)by omega)
  have ly:=bH (show(y:Int)<((Fd.enc D x c y wx wy S r).W.length:Int)by omega)
  have lx2:=bH (show x<(Fd.enc D x c y wx wy S r).W.length by omega)
  have ly2:=bH (show y<(Fd.enc D x c y wx wy S r).W.length by omega)
  simp only[List.map_cons,List.map_nil,xb]at hO;simp[-ao,pQ,dQ,Kq,lx,ly,lx2,ly2,g1,g2,oz,hO];exact⟨by omega,by omega,by omega,aX (r+1,p2,τ) (by simp) rfl ⟨by dsimp only;omega,nV,iI⟩ (by dsimp only;omega)⟩
 ·have pQ:=gl (show ¬(r:Int)<(((ix (ix (ix D.BL (x:Int)) (c:Int)) (y:Int)).length:Nat):Int)by omega)
  have er:r=D.n.aq.toNat:=by omega
  simp[-ao,pQ];rw[<-er];exact⟨p1,jD,hS⟩
structure Kp (S T:Fd):Prop where
 w:mf T
 l:T.W.length=S.W.length
 f:T.F=S.F
 n:T.N=S.N
 k:∀z:Int,0<=z->ix S.F z=true->ix T.W z=ix S.W z
theorem Kp.refl{S:Fd}(h:mf S):Kp S S:=⟨h,rfl,rfl,rfl,λ_ _ _=>rfl⟩
theorem Kp.trans{S T U:Fd}(h:Kp S T) (g:Kp T U):Kp S U:=⟨g.w,g.l.trans h.l,g.f.trans h.f,g.n.trans h.n,λz z0 hz=>(g.k z z0 (by rw[h.f];exact hz)).trans (h.k z z0 hz)⟩
theorem Kp.off{S:Fd}(h:mf S){x:Nat}(hx:x<S.W.length) (c:List Int):Kp S (S.off x c):=by
 obtain⟨o1,o2,o3⟩:=Kn (S:=S) (x:=x) (c:=c);exact⟨h.off hx c,o1,o2,o3,λz z0 hz=>Uo hx z0 hz⟩
theorem Kp.enc{D:Vd}(hD:jQ D){S:Fd}(h:mf S) (hk:S.W.length=D.K.length){x c y:Nat}(hx:x<D.K.length) (hy:y<D.K.length) (hc:c<D.n.calls.toNat) (wx wy:List Int):Kp S (Fd.enc D x c y wx wy S D.n.aq.toNat):=by
 have ny:=hD.rQ x c y hx hc hy;unfold Vd.bX Vd.row at ny;have GH:=hD.r;obtain⟨a,b,c,d,e⟩:=Ko (wx:=wx) (wy:=wy) h (λr hr=>by
  rw[hk];exact ny.2 _ (aU (by omega) (by omega))) D.n.aq.toNat (by omega)
 exact⟨a,b,c,d,e⟩
def Fd.ei (D:Vd) (x:Nat) (wx:List Int) (S:Fd):Nat->Fd
 |0=>S
 |i+1=>(Fd.ei D x wx S i).off (D.im x i).toNat (wx ++ [D.n.calls+i])
theorem Kp.ei{D:Vd}(hD:jQ D){S:Fd}(h:mf S) (hk:S.W.length=D.K.length){x:Nat}(hx:x<D.K.length) (wx:List Int):∀i:Nat,i<=D.n.aj.toNat->Kp S (Fd.ei D x wx S i)
 |0,_=>Kp.refl h
 |i+1,hi=>by
  have ih:=Kp.ei hD h hk hx wx i (by omega)
  have eZ:=hD.inl x hx;have wE:=hD.n;have Xh:0<=D.im x i/\D.im x i<(D.K.length:Int):=eZ.2 _ (aU (by omega) (by omega))
  exact ih.trans (Kp.off ih.w (by rw[ih.l,hk];omega) _)
def Fd.ec (D:Vd) (x y:Nat) (wx wy:List Int) (S:Fd):Nat->Fd
 |0=>S
 |c+1=>Fd.enc D y c x wy wx (Fd.enc D x c y wx wy (Fd.ec D x y wx wy S c) D.n.aq.toNat) D.n.aq.toNat
theorem Kp.ec{D:Vd}(hD:jQ D){S:Fd}(h:mf S) (hk:S.W.length=D.K.length){x y:Nat}(hx:x<D.K.length) (hy:y<D.K.length) (wx wy:List Int):∀c:Nat,c<=D.n.calls.toNat->Kp S (Fd.ec D x y wx wy S c)
 |0,_=>Kp.refl h
 |c+1,hc=>by
  have ih:=Kp.ec hD h hk hx hy wx wy c (by omega)
  have h1:=Kp.enc hD ih.w (by rw[ih.l,hk]) hx hy (show c<D.n.calls.toNat by omega) wx wy
  have h2:=ih.trans h1;exact h2.trans (Kp.enc hD h2.w (by rw[h2.l,hk]) hy hx (show c<D.n.calls.toNat by omega) wy wx)
def Fd.ed (D:Vd) (x:Nat) (wx:List Int) (wd:Int->List Int) (S:Fd) (l:List Int):Nat->Fd
 |0=>S
 |k+1=>Fd.ec D x (ix l (k:Int)).toNat wx (wd (ix l (k:Int))) (Fd.ed D x wx wd S l k) D.n.calls.toNat
theorem Kp.ed{D:Vd}(hD:jQ D){S:Fd}(h:mf S) (hk:S.W.length=D.K.length){x:Nat}(hx:x<D.K.length) (wx:List Int) (wd:Int->List Int){l:List Int}(hl:∀y∈l,0<=y/\y<(D.K.length:Int)):∀k:Nat,k<=l.length->Kp S (Fd.ed D x wx wd S l k)
 |0,_=>Kp.refl h
 |k+1,oq=>by
  have ih:=Kp.ed hD h hk hx wx wd hl k (by omega)
  have hy:=hl _ (aU (l:=l) (n:=(k:Int)) (by omega) (by omega))
  exact ih.trans (Kp.ec hD ih.w (by rw[ih.l,hk]) hx (by omega) wx _ _ (bA _))
def Fd.ext (D:Vd) (x:Nat) (S:Fd):Fd:=
 let wx:=(ix S.W (x:Int)).getD []
 Fd.ed D x wx (λy=>(ix S.W y).getD []) (Fd.ei D x wx S D.n.aj.toNat) S.N S.N.length
end Ab
