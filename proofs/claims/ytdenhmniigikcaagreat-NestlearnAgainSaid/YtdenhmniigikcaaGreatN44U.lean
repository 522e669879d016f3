/- slices.Concat of words that are given in some way; and what it leans on. Condition: none. -/
import Derived.Test.YtdenhmniigikcaaGreatBfsOrd
import Derived.Test.YtdenhmniigikcaaGreatN44P
set_option linter.all false
set_option maxRecDepth 100000
set_option maxHeartbeats 4000000
namespace Ab
def fK{α:Type}(g:α->List Int) (ps:List α):List Int:=ps.flatMap g
theorem JC{α:Type} [Inhabited α]{g:α->List Int}{ps:List α}{i:Int}(h0:0<=i) (h1:i<ps.length):fK g (ps.take (i+1).toNat)=fK g (ps.take i.toNat)++g (ix ps i):=by
 have e:ps.take (i+1).toNat=ps.take i.toNat ++ [ix ps i]:=by
  rw[show(i+1).toNat=i.toNat+1 by omega,nH,lZ h0 h1]
  rfl
 rw[e];simp[fK]
theorem zT{α:Type}{g:α->List Int}{ps:List α}(i:Nat):(fK g (ps.take i)).length<=(fK g ps).length:=by
 have:fK g ps=fK g (ps.take i)++fK g (ps.drop i):=by
  unfold fK;rw[<-List.flatMap_append,oM]
 rw[this];simp
theorem al1{α:Type} [Inhabited α]{f:α->AV}{g:α->List Int}(hf:∀p,f p = .ah/\g p=[]\/∃b,f p = .aE b ((g p).map .int)) (ps:List α) (hp:(ps.length:Int)<=1000000) (h:((fK g ps).length:Int)<=1000000):PC wO [.aE false (ps.map f)]=some (iL (fK g ps)):=by
 refine cW (Qg rfl ?_);simp;refine bC (λi:Int=>[(1,.int i),(4,.int ((fK g (ps.take i.toNat)).length:Int))]) (λ_=>[]) (λi=>0<=i/\i<=ps.length) (λi=>(ps.length-i).toNat) 0 rfl (by simp) λi ⟨i0,i1⟩=>?_
 by_cases hi:i<ps.length
 ·have e:=JC (g:=g) i0 hi
  have l1:=zT (g:=g) (ps:=ps) i.toNat;have l2:=zT (g:=g) (ps:=ps) (i+1).toNat;rw[e]at l2;simp at l2;rcases hf (ix ps i)with⟨h1,h2⟩|⟨q,h1⟩
  ·simp[-al,hi,i0,h1]
   refine⟨by omega,by omega,ba (i+1) (by simp[e,h2]) rfl ⟨by omega,by omega⟩ (by omega)⟩
  ·simp[-al,hi,i0,h1]
   refine⟨by omega,by omega,λ_=>⟨by omega,ba (i+1) (by simp[e]) rfl ⟨by omega,by omega⟩ (by omega)⟩⟩
 ·have EB:ps.take i.toNat=ps:=gl (by omega)
  rw[EB]
  by_cases hz:(fK g ps).length=0
  ·have hc:fK g ps=[]:=dW hz
   simp[-al,hi,hc,Su,jx];refine bC (λi:Int=>[(6,.int i)]) (λ_=>[]) (λi=>0<=i/\i<=ps.length) (λi=>(ps.length-i).toNat) 0 rfl (by simp) λj ⟨j0,j1⟩=>?_
   by_cases hj:j<ps.length
   ·have qj:g (ix ps j)=[]:=by
     have:=JC (g:=g) j0 hj;have l2:=zT (g:=g) (ps:=ps) (j+1).toNat;rw[this]at l2;simp at l2;exact dW (by omega)
    rcases hf (ix ps j)with⟨h1,h2⟩|⟨q,h1⟩
    ·simp[hj,j0,h1];omega
    ·rw[qj]at h1
     simp[hj,j0,h1];omega
   ·simp[hj]
  ·have hg:=Ss (fK g ps).length (by omega) (by omega)
   simp[-al,-List.map_replicate,hi,hg,jx,gM,Sp];refine bC (λi:Int=>[(6,.int i),(9,.sl 0 (fK g ps).length 0 (fK g (ps.take i.toNat)).length)]) (λi=>[⟨none,(fK g (ps.take i.toNat)).map .int++List.replicate ((fK g ps).length-(fK g (ps.take i.toNat)).length) (.int 0),.live⟩]) (λi=>0<=i/\i<=ps.length) (λi=>(ps.length-i).toNat) 0 (by simp[bT,fK]) (by simp) λj ⟨j0,j1⟩=>?_
   by_cases hj:j<ps.length
   ·have e:=JC (g:=g) j0 hj
    have l1:=zT (g:=g) (ps:=ps) j.toNat;have l2:=zT (g:=g) (ps:=ps) (j+1).toNat;rw[e]at l2;simp at l2;have hp:=Sv (a:=fK g (ps.take j.toNat)) (b:=g (ix ps j)) (n:=(fK g ps).length) l2;have done:g (ix ps j)=[]->fK g (ps.take (j+1).toNat)=fK g (ps.take j.toNat):=λh=>by rw[e,h];simp
    rcases hf (ix ps j)with⟨h1,h2⟩|⟨q,h1⟩
    ·simp[-al,-List.map_replicate,hj,j0,h1]
     refine⟨by omega,by omega,by omega,ba (j+1) (by simp[done h2]) (by simp only[done h2]) ⟨by omega,by omega⟩ (by omega)⟩
    ·by_cases hn:g (ix ps j)=[]
     ·rw[hn]at h1
      simp[-al,-List.map_replicate,hj,j0,h1];refine⟨by omega,by omega,by omega,ba (j+1) (by simp[done hn]) (by simp only[done hn]) ⟨by omega,by omega⟩ (by omega)⟩
     ·have sh:0<(g (ix ps j)).length:=mz.2 hn
      simp[-al,-List.map_replicate,hj,j0,h1,hn];refine⟨by omega,by omega,λhc=>by omega,λ_=>⟨by omega,by omega,ba (j+1) (by simp[e]) (by simp only[e,bu];rw[<-hp]) ⟨by omega,by omega⟩ (by omega)⟩⟩
   ·have yF:ps.take j.toNat=ps:=gl (by omega)
    rw[yF];have hv:=qL (σ:=[⟨none,(fK g ps).map .int,.live⟩]) (fr:=false) (b:=0) (xs:=fK g ps) (st:=.live) rfl (by simp) rfl
    simp[hj,hv]
inductive Tf where
 |f|wo|fd|rd|dn
 |bk (n:Nat)
 deriving DecidableEq
def oo:Option (List Int)->AV
 |none=>.ah
 |some w=>.aE true (w.map .int)
structure Fd where
 W:List (Option (List Int))
 F:List Bool
 R:List (List Int)
 N:List Int
def Fd.dN (S:Fd) (n:Nat):List Int:=ix S.R (n:Int)
def Fd.cont (S:Fd) (va:AV) (p:Tf->Nat):Tf->Option ag
 |.f=>some ⟨some 5,[va,.sl (p .wo) S.W.length 0 S.W.length,.sl (p .fd) S.F.length 0 S.F.length,.sl (p .rd) S.R.length 0 S.R.length,cQ (p .dn) S.N.length],.live⟩
 |.wo=>some ⟨none,S.W.map oo,.live⟩
 |.fd=>some ⟨none,S.F.map .bool,.live⟩
 |.rd=>some ⟨none,(List.range S.R.length).map λn=>cQ (p (.bk n)) (S.dN n).length,.live⟩
 |.dn=>if S.N=[]then none else some (Zb S.N)
 |.bk n=>if n<S.R.length/\S.dN n ≠ []then some (Zb (S.dN n))else none
structure FS (S:Fd) (va:AV) (p:Tf->Nat) (σ:List ag):Prop where
 has:∀t B,S.cont va p t=some B->ak σ (p t)=some B
 inj:∀t u A B,S.cont va p t=some A->S.cont va p u=some B->p t=p u->t=u
theorem FS.ne{S:Fd}{va:AV}{p:Tf->Nat}{σ:List ag}(h:FS S va p σ){t u:Tf}{A B:ag}(ht:S.cont va p t=some A) (hu:S.cont va p u=some B) (hn:t ≠ u):p t ≠ p u:=λe=>hn (h.inj t u A B ht hu e)
theorem FS.lt{S:Fd}{va:AV}{p:Tf->Nat}{σ:List ag}(h:FS S va p σ){t:Tf}{A:ag}(ht:S.cont va p t=some A):p t<σ.length:=dz (h.has t A ht)
theorem FS.step{D D' : Fd}{va:AV}{p p' : Tf->Nat}{σ τ:List ag}(h:FS D va p σ) (Ch:Tf->Prop)
  (h1:∀t,¬Ch t->D'.cont va p' t=D.cont va p t/\p' t=p t)
  (h2:∀t B,Ch t->D'.cont va p' t=some B->ak τ (p' t)=some B)
  (h3:∀t B,¬Ch t->D.cont va p t=some B->ak τ (p t)=some B)
  (h4:∀t B,Ch t->D'.cont va p' t=some B->((∃A,D.cont va p t=some A)/\p' t=p t)\/σ.length<=p' t)
  (h5:∀t u,Ch t->Ch u->σ.length<=p' t->p' t=p' u->t=u):FS D' va p' τ:=by
 have key:∀t B,D'.cont va p' t=some B->((∃A,D.cont va p t=some A)/\p' t=p t)\/(Ch t/\σ.length<=p' t):=λt B hB=>by
  by_cases hc:Ch t
  ·exact(h4 t B hc hB).imp id λq=>⟨hc,q⟩
  ·obtain⟨e1,e2⟩:=h1 t hc
   rw[e1]at hB;exact .inl ⟨⟨B,hB⟩,e2⟩
 refine⟨λt B hB=>?_,λt u A B hA hB e=>?_⟩
 ·by_cases hc:Ch t
  ·exact h2 t B hc hB
  ·obtain⟨e1,e2⟩:=h1 t hc
   rw[e1]at hB;rw[e2];exact h3 t B hc hB
 ·rcases key t A hA with⟨⟨A', uO⟩,e1⟩|⟨c1,e1⟩
  ·rcases key u B hB with⟨⟨B', oZ⟩,e2⟩|⟨c2,e2⟩
   ·exact h.inj t u A' B' uO oZ (by rw[<-e1,<-e2];exact e)
   ·have:=h.lt uO; omega
  ·rcases key u B hB with⟨⟨B', oZ⟩,e2⟩|⟨c2,e2⟩
   ·have:=h.lt oZ; omega
   ·exact h5 t u c1 c2 e1 e
def PE (p p' : Tf->Nat):Prop:=p' .f=p .f/\p' .dn=p .dn
theorem FS.more{S:Fd}{va:AV}{p:Tf->Nat}{σ τ:List ag}(h:FS S va p σ) (hb:∀b,b<σ.length->ak τ b=ak σ b):FS S va p τ:=
 ⟨λt B hB=>by rw[hb _ (h.lt hB)];exact h.has t B hB,h.inj⟩
def w5:Bool×Option (List Int)->AV
 |(_,none)=>.ah
 |(b,some w)=>.aE b (w.map .int)
def cq (ps:List (Bool×Option (List Int))):List Int:=ps.flatMap λo=>o.2.getD []
theorem al2{ps:List (Bool×Option (List Int))}{o:Bool×Option (List Int)}:cq (ps ++ [o])=cq ps++o.2.getD []:=by simp[cq]
def JD:IC:=(.seq (.ae RN)
 (.cond 76 (.ae IY) .skip))
def JE:IC:=(.seq (.ae RM) JD)
def JF:IC:=(.seq (.seq (.ae RL)
 (.cond 61 .ret .skip)) JE)
def al3:IC:=(.seq (.seq (.ae IX) (.lu 9)) JF)
def WE:IC:=(.seq (.seq (.ae RK)
 (.cond 49 .ret .skip)) al3)
structure JG (S:Fd):Prop where
 f:S.F.length=S.W.length
 r:S.R.length=1025
 n:S.W.length<=512
 b:∀n,(S.dN n).length<=100000
theorem al4 (S:Fd){va:AV}{p:Tf->Nat}{σ:List ag}(h:FS S va p σ) (hF:JG S){x:Nat}(hx:x<S.W.length) (ps:List (Bool×Option (List Int))) (AZ:(cq ps).length<=5000) (gV:ps.length<=10){K:AV->List ag->Prop}{b:Bool}
  (h1:WK L WE [.ptr (p .f) 5 0,.int x,.aE b (ps.map w5),.aM,.aM,.aM,.int (cq ps).length,.aM,oo (ix S.W (x:Int)),.aM] none σ (gX rH K)):LX L uL [.ptr (p .f) 5 0,.int x,.aE b (ps.map w5)] σ K:=by
 refine ah3 rfl ?_;have hv:=h.has .f _ rfl;have WG:=h.has .wo _ rfl;show WK L (.seq (.ae RF)
 (.seq (.seq (.ae RH)
 (.block 0 (.loop RI)))
 (.seq (.ae RJ) WE))) _ none σ _
 simp[-al];refine bC (λk:Nat=>[(3,.int k),(6,.int (cq (ps.take k)).length)]) (λ_=>σ) (λk=>k<=ps.length) (λk=>ps.length-k) 0 (by simp[bT,cq]) (by omega) ?_
 intro k k0
 by_cases hk:k<ps.length
 ·have tk:ps.take (k+1)=ps.take k ++ [ix ps (k:Int)]:=lg hk
  have jM:=al2 (ps:=ps.take k) (o:=ix ps (k:Int));have hle:(cq (ps.take (k+1))).length<=(cq ps).length:=by
   have e:cq ps=cq (ps.take (k+1))++cq (ps.drop (k+1)):=by unfold cq;rw[<-List.flatMap_append,oM]
   rw[e];simp
  rw[tk,jM,bu]at hle;have vf:=bM (show(k:Int)<(ps.length:Int)by omega)
  rcases ho:ix ps (k:Int)with⟨q,_|w⟩
  ·rw[ho]at jM hle
   have sg:ix (ps.map w5) (k:Int) = .ah:=by rw[jt (by omega) (by omega),ho];rfl
   simp[-al,hk,sg,ho,w5];exact⟨by omega,by omega,ba (k+1) (by rw[tk,ho,jM];simp) rfl (by omega) (by omega)⟩
  ·rw[ho]at jM hle
   simp at hle;simp[-al,hk,ho,w5];exact⟨by omega,by omega,ba (k+1) (by rw[tk,ho,jM];simp) rfl (by omega) (by omega)⟩
 ·have ek:k=ps.length:=by omega
  subst ek;simp[-al,hv,WG,hx];exact h1
def Fd.off (S:Fd) (x:Nat) (c:List Int):Fd:=
 if 1024<c.length\/ix S.F (x:Int)=true then S
 else match ix S.W (x:Int)with
  |none=>{S with W:=S.W.set x (some c),R:=S.R.set c.length (S.dN c.length ++ [(x:Int)])}
  |some o=>if aV o c<=0 then S else {S with W:=S.W.set x (some c),R:=if c.length<o.length then S.R.set c.length (S.dN c.length ++ [(x:Int)])else S.R}
theorem al5{ps:List (Bool×Option (List Int))}:cq ps=fK (λo=>o.2.getD []) ps:=rfl
theorem al6 (ps:List (Bool×Option (List Int))) (hp:ps.length<=10) (h:(cq ps).length<=5000):PC wO [.aE false (ps.map w5)]=some (iL (cq ps)):=
 al1 (f:=w5) (g:=λo=>o.2.getD []) (λo=>by
  rcases o with⟨q,_|w⟩
  ·exact .inl ⟨rfl,rfl⟩
  ·exact .inr ⟨q,rfl⟩) ps (by omega) (by rw[<-al5];omega)
theorem TG{σ:List ag}{b x:Nat}{ps:List (Bool×Option (List Int))}(hp:ps.length<=10) (AZ:(cq ps).length<=5000){q:Bool}{o:AV}{R:IC}{Q:Ex->St->Prop}
  (h:∀τ,(∀c,c<σ.length->ak τ c=ak σ c)->WK L R [.ptr b 5 0,.int x,.aM,.aM,.aM,.aM,.int (cq ps).length,.aM,o,.aE true ((cq ps).map .int)] none τ Q) :
  WK L (.seq (.seq (.ae IX) (.lu 9)) R) [.ptr b 5 0,.int x,.aE q (ps.map w5),.aM,.aM,.aM,.int (cq ps).length,.aM,o,.aM] none σ Q:=by
 have hC:=al6 ps hp AZ
 by_cases hc:cq ps=[]
 ·rw[hc]at hC h ⊢
  simp[-al,hC];refine⟨0,.fm,_,rfl,?_⟩;have:=h (bI (λb=>([]:List Nat).contains b) 0 σ) λc _=>by rw[nM];cases ak σ c<;>rfl
  exact this
 ·simp[-al,hC,hc]
  refine⟨by omega,?_⟩
  refine zI (b:=σ.length) (l:=cq ps) ?_ rfl rfl ?_
  ·have:=iq (Q:=σ) (r:=[]) (B:=fv (cq ps))
   unfold fv at this;rw[aa hc]at this;unfold fv;rw[aa hc];exact this
  have:=h (ay (σ ++ [⟨none,(cq ps).map .int,.live⟩]) σ.length ⟨none,(cq ps).map .int,.dead⟩) λc aK=>by
   rw[aO (by omega)]
   rw[bE,bE,ft aK]
  rw[show decide (cq ps ≠ [])=true from decide_eq_true hc];exact this
theorem al7 (S:Fd){va:AV}{p:Tf->Nat}{σ:List ag}(h:FS S va p σ) (hF:JG S){x:Nat}(hx:x<S.W.length) (ps:List (Bool×Option (List Int))) (AZ:(cq ps).length<=5000) (gV:ps.length<=10) (hW:∀o,ix S.W (x:Int)=some o->o.length<=1024){b:Bool}
  (h3:∀τ o,FS S va p τ->ix S.W (x:Int)=o->(∀w,o=some w->0<aV w (cq ps))->(cq ps).length<=1024->ix S.F (x:Int)=false->WK L JE [.ptr (p .f) 5 0,.int x,.aM,.aM,.aM,.aM,.int (cq ps).length,.aM,oo o,.aE true ((cq ps).map .int)] none τ (gX rH λr τ=>r = .bQ []/\∃p', PE p p' /\FS (S.off x (cq ps)) va p' τ)) :
  WK L WE [.ptr (p .f) 5 0,.int x,.aE b (ps.map w5),.aM,.aM,.aM,.int (cq ps).length,.aM,oo (ix S.W (x:Int)),.aM] none σ (gX rH λr τ=>r = .bQ []/\∃p', PE p p' /\FS (S.off x (cq ps)) va p' τ):=by
 have hv:=h.has .f _ rfl;have WG:=h.has .wo _ rfl;have vV:=h.has .fd _ rfl;have xI:=bM (show x<S.F.length by rw[hF.f];exact hx)
 unfold WE
 by_cases hc:1024<(cq ps).length
 ·have fW :=bM (show(1024:Int)<((cq ps).length:Int)by omega)
  have e:S.off x (cq ps)=S:=ab (.inl hc);rw[e];cases ho:ix S.W (x:Int)with
  |none=>
   simp[-al,fW, hv,vV,xI,oo];exact⟨p,⟨rfl,rfl⟩,h⟩
  |some o=>
   simp[-al,fW, hv,vV,xI,oo];exact⟨p,⟨rfl,rfl⟩,h⟩
 have fW :=gg (show ¬(1024:Int)<((cq ps).length:Int)by omega)
 by_cases hf:ix S.F (x:Int)=true
 ·have e:S.off x (cq ps)=S:=ab (.inr hf)
  rw[e];cases ho:ix S.W (x:Int)with
  |none=>
   simp[-al,fW, hv,vV,xI,oo,hf];exact⟨p,⟨rfl,rfl⟩,h⟩
  |some o=>
   simp[-al,fW, hv,vV,xI,oo,hf];exact⟨p,⟨rfl,rfl⟩,h⟩
 have xJ : ix S.F (x:Int)=false:=by simpa using hf
 cases ho:ix S.W (x:Int)with
 |none=>
  simp[-al,fW, hv,vV,xI,oo,xJ];refine TG gV AZ λτ uQ=>?_;have hS:=h.more uQ;unfold JF;simp[-al];exact h3 τ none hS ho (λw h=>by simp at h) (by omega) xJ
 |some o=>
  have hoe:=hW o ho;have zf:PC o9 [.aE false (o.map .int),.aE false ((cq ps).map .int)]=some (.int (aV o (cq ps))):=EO o (cq ps) (by omega) (by omega)
  by_cases aK:o.length<(cq ps).length
  ·have px :=bM aK
   have e:S.off x (cq ps)=S:=by
    unfold Fd.off;rw[aa (by simp[xJ];omega),ho]
    simp only;rw[ab];unfold aV;rw[ab (by omega)]
    omega
   rw[e];simp[-al,fW, hv,vV,xI,oo,xJ, px];exact⟨p,⟨rfl,rfl⟩,h⟩
  ·have px :=gg aK
   simp[-al,fW, hv,vV,xI,oo,xJ, px];refine TG gV AZ λτ uQ=>?_;have hS:=h.more uQ;unfold JF
   by_cases hle:aV o (cq ps)<=0
   ·have e:S.off x (cq ps)=S:=by
     unfold Fd.off;rw[aa (by simp[xJ];omega),ho]
     exact ab hle
    rw[e];have zU :=bM hle;simp[-al,zf,zU];exact⟨p,⟨rfl,rfl⟩,hS⟩
   ·have zU :=gg hle
    simp[-al,zf,zU];exact h3 τ (some o) hS ho (λw h=>by injection h with h;subst h;omega) (by omega) xJ
theorem FS.word{S:Fd}{va:AV}{p:Tf->Nat}{σ:List ag}(h:FS S va p σ){x:Nat}{o:Option (List Int)}:FS {S with W:=S.W.set x o} va p (ay σ (p .wo) ⟨none,(S.W.map oo).set x (oo o),.live⟩):=by
 refine h.step (λt=>t = .wo) (λt ht=>⟨?_,rfl⟩) (λt B ht hB=>?_) (λt B ht hB=>?_) (λt B ht hB=>.inl ⟨⟨_,by subst ht;rfl⟩,rfl⟩) λt u ht hu _ _=>by rw[ht,hu]
 ·cases t with
  |wo=>exact absurd rfl ht
  |f=>simp[Fd.cont]
  |_=>rfl
 ·subst ht
  have:Fd.cont {S with W:=S.W.set x o} va p .wo=some ⟨none,(S.W.map oo).set x (oo o),.live⟩:=by simp[Fd.cont,List.map_set]
  rw[this]at hB;rw[cE (h.lt (t:=.wo) rfl)];exact hB
 ·rw[aO (h.ne (t:=.wo) rfl hB (Ne.symm ht))]
  exact h.has t B hB
theorem zV{S:Fd}{n:Nat}{l:List Int}(hn:n<S.R.length) (m:Nat):Fd.dN {S with R:=S.R.set n l} m=if m=n then l else S.dN m:=iY hn m
theorem FS.push{S:Fd}{va:AV}{p p' : Tf->Nat}{σ τ:List ag}(h:FS S va p σ){n:Nat}{l:List Int}(hn:n<S.R.length) (hl:l ≠ []) (hp:∀t,t ≠ .bk n->p' t=p t)
  (h2:ak τ (p' (.bk n))=some (Zb l)) (r5 : ak τ (p .rd)=some ⟨none,((List.range S.R.length).map λm=>cQ (p (.bk m)) (S.dN m).length).set n (.sl (p' (.bk n)) l.length 0 l.length),.live⟩)
  (h3:∀t B,t ≠ .rd->t ≠ .bk n->S.cont va p t=some B->ak τ (p t)=some B)
  (h4:(S.dN n ≠ []/\p' (.bk n)=p (.bk n))\/σ.length<=p' (.bk n)):FS {S with R:=S.R.set n l} va p' τ:=by
 have hlen:(S.R.set n l).length=S.R.length:=by simp
 have wQ:Fd.cont {S with R:=S.R.set n l} va p' .rd=some ⟨none,((List.range S.R.length).map λm=>cQ (p (.bk m)) (S.dN m).length).set n (.sl (p' (.bk n)) l.length 0 l.length),.live⟩:=by
  show some (⟨none,(List.range (S.R.set n l).length).map λm=>cQ (p' (.bk m)) (Fd.dN {S with R:=S.R.set n l} m).length,.live⟩:ag)=_
  rw[hlen]
  congr 2
  apply mC (by simp)
  intro i h1 _;simp at h1;rw[List.getElem_set];simp only[oN,List.getElem_range,zV hn]
  by_cases e:n=i
  ·subst e
   rw[ab rfl,ab rfl];exact aa λe=>hl (dW e)
  ·rw[aa e,aa (Ne.symm e),hp _ (by simp;exact λe' =>e e'.symm)]
 have qO:Fd.cont {S with R:=S.R.set n l} va p' (.bk n)=some (Zb l):=by
  show(if n<(S.R.set n l).length/\Fd.dN {S with R:=S.R.set n l} n ≠ []then some (Zb (Fd.dN {S with R:=S.R.set n l} n))else none)=_
  rw[zV hn,ab rfl,hlen,ab ⟨hn,hl⟩]
 refine h.step (λt=>t = .rd\/t = .bk n) (λt ht=>?_) (λt B ht hB=>?_) (λt B ht hB=>h3 t B (λe=>ht (.inl e)) (λe=>ht (.inr e)) hB) (λt B ht hB=>?_) λt u ht hu aK e=>?_
 ·have t1:t ≠ .rd:=λe=>ht (.inl e)
  have t2:t ≠ .bk n:=λe=>ht (.inr e);refine⟨?_,hp t t2⟩;cases t with
  |rd=>exact absurd rfl t1
  |f=>simp[Fd.cont,hp]
  |bk m=>
   have hm:m ≠ n:=λe=>t2 (by rw[e])
   show(if m<(S.R.set n l).length/\Fd.dN {S with R:=S.R.set n l} m ≠ []then some (Zb (Fd.dN {S with R:=S.R.set n l} m))else none)=if m<S.R.length/\S.dN m ≠ []then some (Zb (S.dN m))else none
   rw[hlen,zV hn,aa hm]
  |_=>rfl
 ·rcases ht with rfl|rfl
  ·rw[wQ]at hB;rw[hp _ (by simp),r5];exact hB
  ·rw[qO]at hB;rw[h2];exact hB
 ·rcases ht with rfl|rfl
  ·exact .inl ⟨⟨_,rfl⟩,hp _ (by simp)⟩
  ·exact h4.imp (λq=>⟨⟨_,ab ⟨hn,q.1⟩⟩,q.2⟩) id
 ·have q:=h.lt (t:=.rd) rfl
  rcases ht with rfl|rfl
  ·rw[hp _ (by simp)]at aK;omega
  ·rcases hu with rfl|rfl
   ·rw[hp .rd (by simp)]at e;omega
   ·rfl
def tX (o:Option (List Int)) (c:List Int):Bool:=match o with
 |none=>true
 |some w=>decide (c.length<w.length)
def Fd.py (S:Fd) (n x:Nat):Fd:={S with R:=S.R.set n (S.dN n ++ [(x:Int)])}
theorem al8 (S:Fd){va:AV}{p:Tf->Nat}{σ:List ag}(h:FS S va p σ) (hF:JG S){x:Nat}{n:Nat}(o:Option (List Int)){w:List Int}(hn:n=w.length) (FW:n<=1024) (S0:Fd) (Gm:S0=if tX o w=true then S.py n x else S) :
  WK L JD [.ptr (p .f) 5 0,.int x,.aM,.aM,.aM,.aM,.int n,.aM,oo o,.aM] none σ (gX rH λr τ=>r = .bQ []/\∃p', PE p p' /\FS S0 va p' τ):=by
 unfold JD;have hv:=h.has .f _ rfl;have wQ:=h.has .rd _ rfl;subst hn;have iv:w.length<S.R.length:=by have:=hF.r;omega
 have go:tX o w=true->WK L (.ae IY) [.ptr (p .f) 5 0,.int x,.aM,.aM,.aM,.aM,.int w.length,.aM,.aM,.aM] none σ (gX rH λr τ=>r = .bQ []/\∃p', PE p p' /\FS S0 va p' τ):=λhg=>by
  rw[ab hg]at Gm;subst Gm;have hb:=hF.b w.length;have e2:ix (List.range S.R.length) (w.length:Int)=w.length:=by rw[aS (by simpa using iv)];simp
  have e3:ix (List.range S.R.length) (0+(w.length:Int)*1)=w.length:=by rw[<-e2];congr 1;omega
  have hl:S.dN w.length ++ [(x:Int)] ≠ []:=by simp
  have l1:=h.lt (t:=.rd) rfl;have l2:=h.lt (t:=.f) rfl
  by_cases hz:S.dN w.length=[]
  ·have e6:cQ (p (.bk w.length)) (S.dN w.length).length = .ah:=by rw[hz];rfl
   have qC:∀B:ag,ak (σ ++ [B]) (p .f)=_:=λB=>gi (r:=[B]) hv;have AF:∀B:ag,ak (σ ++ [B]) (p .rd)=_:=λB=>gi (r:=[B]) wQ;simp[-al,hv,wQ,e2,e3,e6,iv,qC,AF];refine⟨by omega,λt=>if t = .bk w.length then σ.length else p t,⟨by simp,by simp⟩,?_⟩
   have pt:∀t,t ≠ Tf.bk w.length->(λt=>if t=Tf.bk w.length then σ.length else p t) t=p t:=λt ht=>aa ht
   have wW:(λt=>if t=Tf.bk w.length then σ.length else p t) (.bk w.length)=σ.length:=ab rfl
   generalize (λt=>if t=Tf.bk w.length then σ.length else p t)=p' at *
   have l3:p .rd<(σ ++ [(⟨none,[AV.int x],.live⟩:ag)]).length:=by simp;omega
   refine h.push iv hl pt ?_ ?_ (λt B t1 t2 hB=>?_) (.inr (by omega))
   ·rw[wW,aO (by omega),iq,hz];rfl
   ·rw[cE l3,wW,show(AV.sl σ.length 1 0 1).cells=[AV.sl σ.length 1 0 1]from rfl,rM,hz];rfl
   ·rw[aO (h.ne (t:=.rd) rfl hB (Ne.symm t1))];exact gi (h.has t B hB)
  ·have e6:cQ (p (.bk w.length)) (S.dN w.length).length = .sl (p (.bk w.length)) (S.dN w.length).length 0 (S.dN w.length).length:=aa λe=>hz (dW e)
   have qO:=h.has (.bk w.length) _ (ab ⟨iv,hz⟩);have n1:p (.bk w.length) ≠ p .rd:=h.ne (t:=.bk w.length) (u:=.rd) (ab ⟨iv,hz⟩) rfl (by simp)
   have b1:∀(Q:List ag) B,ak (ay Q (p (.bk w.length)) B) (p .rd)=ak Q (p .rd):=λQ B=>aO n1;simp[-al,hv,wQ,e2,e3,e6,iv,qO,b1];refine⟨by omega,by omega,p,⟨rfl,rfl⟩,?_⟩
   have l3:=h.lt (t:=.bk w.length) (ab ⟨iv,hz⟩);refine h.push iv hl (λ_ _=>rfl) ?_ ?_ (λt B t1 t2 hB=>?_) (.inl ⟨hz,rfl⟩)
   ·rw[aO n1.symm,cE l3];simp
   ·rw[cE (by rw[bZ];exact l1),show(AV.sl (p (.bk w.length)) ((S.dN w.length).length+1) 0 ((S.dN w.length).length+1)).cells=[AV.sl (p (.bk w.length)) ((S.dN w.length).length+1) 0 ((S.dN w.length).length+1)]from rfl,rM]
    simp
   ·rw[aO (h.ne (t:=.rd) rfl hB (Ne.symm t1)),aO (h.ne (t:=.bk w.length) (ab ⟨iv,hz⟩) hB (Ne.symm t2))];exact h.has t B hB
 cases o with
 |none=>
  have:=go rfl;simp[-al,oo]at this ⊢;exact this
 |some u=>
  by_cases aK:w.length<u.length
  ·have px :=bM aK
   have:=go (by simpa[tX]using aK)
   simp[-al,oo,px]at this ⊢;exact this
  ·have px :=gg aK
   rw[aa (by simpa[tX]using aK)]at Gm
   subst Gm;simp[-al,oo,px];exact⟨p,⟨rfl,rfl⟩,h⟩
def ia:List Int->List Bool->List Int×List Bool
 | [],F=>([],F)
 |x::l,F=>if ix F x=true then ia l F else((x::(ia l (F.set x.toNat true)).1),(ia l (F.set x.toNat true)).2)
theorem JH:∀(l:List Int) (x:Int) (F:List Bool),ia (l ++ [x]) F=if ix (ia l F).2 x=true then ia l F else((ia l F).1 ++ [x],(ia l F).2.set x.toNat true)
 | [],x,F=>by
  show(if ix F x=true then([],F)else([x],F.set x.toNat true))=_
  by_cases e:ix F x=true<;>simp[e,ia]
 |a::l,x,F=>by
  simp only[kX,ia];split
  ·exact JH l x F
  ·rw[JH l x _]
   split
   ·rfl
   ·rfl
theorem zW:∀(l:List Int) (F:List Bool),(ia l F).2.length=F.length/\(ia l F).1.length<=l.length
 | [],F=>⟨rfl,bw _⟩
 |a::l,F=>by
  simp only[ia];split
  ·have:=zW l F;exact⟨this.1,by simp;omega⟩
  ·have:=zW l (F.set a.toNat true);exact⟨by simpa using this.1,by simp;omega⟩
theorem FS.found{S:Fd}{va:AV}{p:Tf->Nat}{σ:List ag}(h:FS S va p σ){F:List Bool}(hl:F.length=S.F.length):FS {S with F:=F} va p (ay σ (p .fd) ⟨none,F.map .bool,.live⟩):=by
 refine h.step (λt=>t = .fd) (λt ht=>⟨?_,rfl⟩) (λt B ht hB=>?_) (λt B ht hB=>?_) (λt B ht hB=>.inl ⟨⟨_,by subst ht;rfl⟩,rfl⟩) λt u ht hu _ _=>by rw[ht,hu]
 ·cases t with
  |fd=>exact absurd rfl ht
  |f=>simp[Fd.cont,hl]
  |_=>rfl
 ·subst ht
  have:Fd.cont {S with F:=F} va p .fd=some ⟨none,F.map .bool,.live⟩:=rfl
  rw[this]at hB;rw[cE (h.lt (t:=.fd) rfl)];exact hB
 ·rw[aO (h.ne (t:=.fd) rfl hB (Ne.symm ht))]
  exact h.has t B hB
theorem FS.zX{S:Fd}{va:AV}{p:Tf->Nat}{σ:List ag}(h:FS S va p σ){b:Nat}{B:ag}(hb:∀t A,S.cont va p t=some A->p t ≠ b):FS S va p (ay σ b B):=
 ⟨λt A hA=>by rw[aO (Ne.symm (hb t A hA))];exact h.has t A hA,h.inj⟩
theorem TH{S:Fd}{va:AV}{p:Tf->Nat}{F:List Bool}{t:Tf}{A:ag}(h:Fd.cont {S with F:=F} va p t=some A):∃B,S.cont va p t=some B:=by
 cases t with
 |f=>exact⟨_,rfl⟩
 |wo=>exact⟨_,rfl⟩
 |fd=>exact⟨_,rfl⟩
 |rd=>exact⟨_,rfl⟩
 |dn=>exact⟨A,h⟩
 |bk n=>exact⟨A,h⟩
theorem al9 (S:Fd){va:AV}{p:Tf->Nat}{σ:List ag}(h:FS S va p σ) (hF:JG S){n:Nat}(hn:n<=1024) (hr:∀y∈S.dN n,0<=y/\y<(S.W.length:Int)) :
  LX L IB [.ptr (p .f) 5 0,.int n] σ (λr τ=>r = .sl σ.length (ia (S.dN n) S.F).1.length 0 (ia (S.dN n) S.F).1.length/\FS {S with F:=(ia (S.dN n) S.F).2} va p τ/\ak τ σ.length=some (fv (ia (S.dN n) S.F).1)/\σ.length<τ.length):=by
 refine ah4 rfl ?_;have hv:=h.has .f _ rfl;have wQ:=h.has .rd _ rfl;have iv:n<S.R.length:=by have:=hF.r;omega
 have hb:=hF.b n;have qC:∀B:ag,ak (σ ++ [B]) (p .f)=_:=λB=>gi (r:=[B]) hv;have AF:∀B:ag,ak (σ ++ [B]) (p .rd)=_:=λB=>gi (r:=[B]) wQ;have e2:ix (List.range S.R.length) (n:Int)=n:=by rw[aS (by simpa using iv)];simp
 have e3:ix (List.range S.R.length) (0+(n:Int)*1)=n:=by rw[<-e2];congr 1;omega
 by_cases hz:S.dN n=[]
 ·have e6:cQ (p (.bk n)) (S.dN n).length = .ah:=by rw[hz];rfl
  have ht:ia (S.dN n) S.F=([],S.F):=by rw[hz];rfl
  rw[ht];simp[-al,qC,AF,e2,e3,e6,iv];refine bC (λ_:Unit=>[]) (λ_=>σ ++ [fv []]) (λ_=>True) (λ_=>0) () (by simp[bT]) trivial ?_
  rintro⟨⟩ _;simp[-al];exact⟨h.more λb hb=>by rw[bE,bE,ft hb],iq⟩
 ·have e6:cQ (p (.bk n)) (S.dN n).length = .sl (p (.bk n)) (S.dN n).length 0 (S.dN n).length:=aa λe=>hz (dW e)
  simp[-al,qC,AF,e2,e3,e6,iv];generalize hl:S.dN n=l at *;refine bC (λq:Nat×List ag=>[(2,.int q.1),(6,.sl σ.length (ia (l.take q.1) S.F).1.length 0 (ia (l.take q.1) S.F).1.length)]) (λq=>q.2) (λq=>q.1<=l.length/\FS {S with F:=(ia (l.take q.1) S.F).2} va p q.2/\ak q.2 σ.length=some (fv (ia (l.take q.1) S.F).1)/\σ.length<q.2.length) (λq=>l.length-q.1) (0,σ ++ [fv []]) (by simp[bT,ia]) ⟨by simp,h.more λb hb=>by rw[bE,bE,ft hb],iq,by simp⟩ ?_
  rintro⟨k,qf⟩ ⟨k0,hS,mH,aK⟩;dsimp only at k0 hS mH aK ⊢;have dQ:=hS.has .f _ rfl;have TJ:=hS.has .fd _ rfl;have TK:=hS.has (.bk n) (Zb l) (by
   show(if n<S.R.length/\S.dN n ≠ []then some (Zb (S.dN n))else none)=_
   rw[hl,ab ⟨iv,hz⟩])
  have AO:=(zW (l.take k) S.F).1;have XL:=(zW (l.take k) S.F).2;have XB:(l.take k).length<=l.length:=by simp;omega
  by_cases hk:k<l.length
  ·have tk:=lg hk
   have E8:=JH (l.take k) (ix l (k:Int)) S.F;rw[<-tk]at E8;have hx:=hr _ (aZ (l:=l) (n:=(k:Int)) (by omega) (by omega))
   have xI:ix l (k:Int)<((ia (l.take k) S.F).2.length:Int):=by rw[AO,hF.f];exact hx.2
   have nf:p .fd ≠ σ.length:=by have:=h.lt (t:=.fd) rfl;omega
   have AG:=hS.found (F:=(ia (l.take k) S.F).2.set (ix l (k:Int)).toNat true) (by simp)
   generalize ia (l.take k) S.F=T at *;obtain⟨out,F⟩:=T;dsimp only at *;have TL :=eq_true xI
   by_cases hf:ix F (ix l (k:Int))=true
   ·rw[ab hf]at E8
    simp[-al,hk,dQ,TJ,TK,hx.1,TL, hf];exact⟨by omega,ba (k+1,qf) (by simp[E8]) rfl ⟨by dsimp only;omega,by dsimp only;rw[E8];exact hS,by dsimp only;rw[E8];exact mH,aK⟩ (by dsimp only;omega)⟩
   ·rw[aa hf]at E8
    have xJ : ix F (ix l (k:Int))=false:=by simpa using hf
    have AN:∀B,ak (ay qf (p .fd) B) σ.length=some (fv out):=λB=>by rw[aO nf];exact mH
    simp[-al,hk,dQ,TJ,TK,hx.1,TL, xJ, AN];refine⟨by split<;>rfl,by omega,by omega,ba (k+1,_) (by simp[E8]) rfl ⟨by dsimp only;omega,?_,?_,by dsimp only;rw[bZ,bZ];exact aK⟩ (by dsimp only;omega)⟩
    ·dsimp only
     rw[E8];rw[List.map_set]at AG;exact AG.zX λt A hA=>by
      obtain⟨B,hB⟩:=TH hA;have:=h.lt hB;omega
    ·dsimp only
     rw[E8,cE (by rw[bZ];exact aK)]
     simp
  ·have ek:k=l.length:=by omega
   subst ek;rw[List.take_length]at *;simp[-al];exact⟨hS,mH,aK⟩
theorem JI{S:Fd}{x:Nat}{c:List Int}{o:Option (List Int)}(ho:ix S.W (x:Int)=o) (ng:∀w,o=some w->0<aV w c) (hc:c.length<=1024) (hf:ix S.F (x:Int)=false):S.off x c=if tX o c=true then Fd.py {S with W:=S.W.set x (some c)} c.length x else {S with W:=S.W.set x (some c)}:=by
 unfold Fd.off;rw[aa (by simp[hf];omega),ho]
 cases o with
 |none=>rfl
 |some w=>
  have:=ng w rfl;simp only;rw[aa (by omega)]
  by_cases e:c.length<w.length
  ·rw[ab e,ab (by simpa[tX]using e)];rfl
  ·rw[aa e,aa (by simpa[tX]using e)]
theorem JJ (S:Fd){va:AV}{p:Tf->Nat}{σ:List ag}(h:FS S va p σ) (hF:JG S){x:Nat}(hx:x<S.W.length) (ps:List (Bool×Option (List Int))) (AZ:(cq ps).length<=5000) (gV:ps.length<=10) (hW:∀o,ix S.W (x:Int)=some o->o.length<=1024) (b:Bool) :
  LX L uL [.ptr (p .f) 5 0,.int x,.aE b (ps.map w5)] σ (λr τ=>r = .bQ []/\∃p', PE p p' /\FS (S.off x (cq ps)) va p' τ):=by
 refine al4 S h hF hx ps AZ gV (al7 S h hF hx ps AZ gV hW λτ o hS ho ng hc hf=>?_);unfold JE;have hv:=hS.has .f _ rfl;have WG:=hS.has .wo _ rfl;have n1:p .wo ≠ p .f:=hS.ne (t:=.wo) (u:=.f) rfl rfl (by simp)
 simp[-al,hv,WG,hx];have hw:=hS.word (x:=x) (o:=some (cq ps));have e:(AV.aE true ((cq ps).map .int)).cells=[oo (some (cq ps))]:=rfl;rw[e,rM];have hF2:JG {S with W:=S.W.set x (some (cq ps))}:=⟨by simp[hF.f],hF.r,by simp[hF.n],hF.b⟩
 exact⟨by omega,al8 _ hw hF2 o rfl hc _ (JI ho ng hc hf)⟩
structure mc (S:Fd):Prop where
 f:S.F.length=S.W.length
 r:S.R.length=1025
 n:S.W.length<=512
 nd:∀n,(S.dN n).Nodup
 bm:∀n y,y∈S.dN n->(0<=y/\y<(S.W.length:Int))/\∃w,ix S.W y=some w/\w.length<=n
 wl:∀x w,0<=x->x<(S.W.length:Int)->ix S.W x=some w->w.length<=1024
theorem mc.ok{S:Fd}(h:mc S):JG S:=⟨h.f,h.r,h.n,λn=>by
 have:=tq S.W.length (h.nd n) λy hy=>(h.bm n y hy).1;have:=h.n;omega⟩
theorem rO{α:Type} [Inhabited α]{l:List α}{k:Nat}{v:α}(hk:k<l.length){j:Int}(j0:0<=j):ix (l.set k v) j=if j=k then v else ix l j:=by
 have:=iY (v:=v) hk j.toNat;rw[show((j.toNat:Nat):Int)=j by omega]at this
 rw[this]
 by_cases e:j=k
 ·rw[ab e,ab (by omega)]
 ·rw[aa e,aa (by omega)]
theorem JK (S:Fd) (x:Nat) (c:List Int):S.off x c=S\/(c.length<=1024/\ix S.F (x:Int)=false/\(∀w,ix S.W (x:Int)=some w->0<aV w c)/\((tX (ix S.W (x:Int)) c=true/\S.off x c=Fd.py {S with W:=S.W.set x (some c)} c.length x)\/(tX (ix S.W (x:Int)) c=false/\S.off x c={S with W:=S.W.set x (some c)}))):=by
 by_cases h1:1024<c.length\/ix S.F (x:Int)=true
 ·exact .inl (ab h1)
 have hc:c.length<=1024:=by omega
 have hf:ix S.F (x:Int)=false:=by
  cases e:ix S.F (x:Int)with
  |false=>rfl
  |true=>exact absurd (.inr e) h1
 by_cases h2:∃w,ix S.W (x:Int)=some w/\aV w c<=0
 ·obtain⟨w,hw,hle⟩:=h2
  left;unfold Fd.off;rw[aa h1,hw];exact ab hle
 ·right
  have ng:∀w,ix S.W (x:Int)=some w->0<aV w c:=λw hw=>eS λhn=>h2 ⟨w,hw,by omega⟩
  refine⟨hc,hf,ng,?_⟩;have:=JI rfl ng hc hf;cases hn:tX (ix S.W (x:Int)) c with
  |true=>rw[ab hn]at this;exact .inl ⟨rfl,this⟩
  |false=>rw[aa (by simp[hn])]at this;exact .inr ⟨rfl,this⟩
theorem mc.off{S:Fd}(h:mc S){x:Nat}(hx:x<S.W.length) (c:List Int):mc (S.off x c):=by
 rcases JK S x c with e|⟨hc,hf,ng,⟨hn,e⟩|⟨hn,e⟩⟩
 ·rw[e];exact h
 ·rw[e]
  have TM:(x:Int)∉S.dN c.length:=λhm=>by
   obtain⟨_,w,hw,hl⟩:=h.bm _ _ hm;rw[hw]at hn;simp only[tX,eP]at hn;omega
  have iv:c.length<S.R.length:=by rw[h.r];omega
  have qO:∀m,Fd.dN (Fd.py {S with W:=S.W.set x (some c)} c.length x) m=if m=c.length then S.dN c.length ++ [(x:Int)]else S.dN m:=λm=>zV (S:={S with W:=S.W.set x (some c)}) iv m
  refine⟨by show S.F.length=(S.W.set x (some c)).length;simp[h.f],by show(S.R.set _ _).length=1025;simp[h.r],by show(S.W.set x (some c)).length<=512;simp[h.n],λm=>?_,λm y hy=>?_,λz w z0 z1 hw=>?_⟩
  ·rw[qO]
   split
   ·rw[sK]
    exact⟨h.nd _,by simp,λa ha b hb=>by simp at hb;subst hb;exact λe=>TM (e▸ha)⟩
   ·exact h.nd m
  ·rw[qO]at hy
   show(0<=y/\y<((S.W.set x (some c)).length:Int))/\∃w,ix (S.W.set x (some c)) y=some w/\w.length<=m;rw[nJ];have key:y∈S.dN m->(0<=y/\y<(S.W.length:Int))/\∃w,ix (S.W.set x (some c)) y=some w/\w.length<=m:=λhy=>by
    obtain⟨hr,w,hw,hl⟩:=h.bm m y hy;refine⟨hr,?_⟩;rw[rO hx hr.1]
    by_cases e:y=x
    ·subst e
     rw[hw]at hn;simp only[tX,eP]at hn;exact⟨c,ab rfl,by omega⟩
    ·exact⟨w,by rw[aa e];exact hw,hl⟩
   split at hy
   ·rename_i em
    rcases eI.1 hy with hy|hy
    ·exact key (by rw[em];exact hy)
    ·simp at hy
     subst hy;exact⟨by omega,c,by rw[rO hx (by omega),ab rfl],by omega⟩
   ·exact key hy
  ·rw[show(Fd.py {S with W:=S.W.set x (some c)} c.length x).W=S.W.set x (some c)from rfl]at hw z1
   rw[rO hx z0]at hw;split at hw
   ·injection hw with hw;subst hw;exact hc
   ·exact h.wl z w z0 (by simpa using z1) hw
 ·rw[e]
  refine⟨by simp[h.f],h.r,by simp[h.n],h.nd,λm y hy=>?_,λz w z0 z1 hw=>?_⟩
  ·obtain⟨hr,w,hw,hl⟩:=h.bm m y hy
   show(0<=y/\y<((S.W.set x (some c)).length:Int))/\∃w,ix (S.W.set x (some c)) y=some w/\w.length<=m;rw[nJ,rO hx hr.1];refine⟨hr,?_⟩
   by_cases e:y=x
   ·subst e
    have JL:=ng w hw;rw[ab rfl];refine⟨c,rfl,?_⟩;have:¬w.length<c.length:=λaK=>by unfold aV at JL;rw[ab (by omega)]at JL;omega
    omega
   ·exact⟨w,by rw[aa e];exact hw,hl⟩
  ·dsimp only at hw z1
   rw[rO hx z0]at hw;split at hw
   ·injection hw with hw;subst hw;exact hc
   ·exact h.wl z w z0 (by simpa using z1) hw
theorem JM{S:Fd}{x:Nat}{c:List Int}:(S.off x c).W.length=S.W.length/\(S.off x c).F=S.F/\(S.off x c).N=S.N:=by
 rcases JK S x c with e|⟨_,_,_,⟨_,e⟩|⟨_,e⟩⟩<;>rw[e]<;>simp[Fd.py]
theorem TN{S:Fd}{x:Nat}{c:List Int}(hx:x<S.W.length){y:Int}(y0:0<=y) (hf:ix S.F y=true):ix (S.off x c).W y=ix S.W y:=by
 rcases JK S x c with e|⟨_,AG,_,⟨_,e⟩|⟨_,e⟩⟩
 ·rw[e]
 ·rw[e]
  show ix (S.W.set x (some c)) y=_;rw[rO hx y0,aa λe=>by rw[e,AG]at hf;simp at hf]
 ·rw[e]
  show ix (S.W.set x (some c)) y=_;rw[rO hx y0,aa λe=>by rw[e,AG]at hf;simp at hf]
def Fd.enc (D:Vd) (x c y:Nat) (wx wy:List Int) (S:Fd):Nat->Fd
 |0=>S
 |r+1=>(Fd.enc D x c y wx wy S r).off (D.bk x c y r).toNat (wx++(c:Int)::(wy ++ [D.n.calls+D.n.aj+r]))
theorem JN{D:Vd}{x c y:Nat}{wx wy:List Int}{S:Fd}(h:mc S) (hb:∀r:Nat,(r:Int)<D.n.aq->0<=D.bk x c y r/\D.bk x c y r<(S.W.length:Int)):∀r:Nat,(r:Int)<=D.n.aq->mc (Fd.enc D x c y wx wy S r)/\(Fd.enc D x c y wx wy S r).W.length=S.W.length/\(Fd.enc D x c y wx wy S r).F=S.F/\(Fd.enc D x c y wx wy S r).N=S.N/\∀z:Int,0<=z->ix S.F z=true->ix (Fd.enc D x c y wx wy S r).W z=ix S.W z
 |0,_=>⟨h,rfl,rfl,rfl,λ_ _ _=>rfl⟩
 |r+1,hr=>by
  obtain⟨h1,h2,h3,h4,h5⟩:=JN (wx:=wx) (wy:=wy) h hb r (by omega)
  have mH:=hb r (by omega)
  have hx:(D.bk x c y r).toNat<(Fd.enc D x c y wx wy S r).W.length:=by omega
  obtain⟨o1,o2,o3⟩:=JM (S:=Fd.enc D x c y wx wy S r) (x:=(D.bk x c y r).toNat) (c:=wx++(c:Int)::(wy ++ [D.n.calls+D.n.aj+r]));exact⟨h1.off hx _,by show((Fd.enc D x c y wx wy S r).off _ _).W.length=_;rw[o1,h2],o2.trans h3,o3.trans h4,λz z0 hz=>(TN hx z0 (by rw[h3];exact hz)).trans (h5 z z0 hz)⟩
theorem TP (D:Vd) (hD:jO D) (S:Fd){p:Tf->Nat}{σ:List ag}(h:FS S D.vcs.av p σ) (hF:mc S) (hk:S.W.length=D.K.length){x c y:Nat}(hx:x<D.K.length) (hy:y<D.K.length) (hc:c<D.n.calls.toNat){wx wy:List Int}(h1:ix S.W (x:Int)=some wx) (h2:ix S.W (y:Int)=some wy) (f1:ix S.F (x:Int)=true) (f2:ix S.F (y:Int)=true) :
  LX L Ef [.ptr (p .f) 5 0,.int x,.int c,.int y] σ (λr τ=>r = .bQ []/\∃p', PE p p' /\FS (Fd.enc D x c y wx wy S D.n.aq.toNat) D.vcs.av p' τ):=by
 refine aip rfl ?_;have hv:=h.has .f _ rfl;have hfb:=hD.f.b;have lI:=hD.c;have Ga:=hD.r;have wz:=hD.n;have x1:=bM (show(x:Int)<(D.BL.length:Int)by omega)
 have x2:=bM (show(c:Int)<((ix D.BL (x:Int)).length:Int)by have:=hD.rl x hx;unfold Vd.row at this;omega)
 have x3:=bM (show(y:Int)<((ix (ix D.BL (x:Int)) (c:Int)).length:Int)by have:=hD.f.c x c hx hc;unfold Vd.bS Vd.row at this;omega)
 have ni:=hD.rN x c y hx hc hy;unfold Vd.bS Vd.row at ni;have hb:∀r:Nat,(r:Int)<D.n.aq->0<=D.bk x c y r/\D.bk x c y r<(S.W.length:Int):=λr hr=>by
  rw[hk];exact ni.2 _ (aZ (by omega) (by omega))
 have wl1:=hF.wl x wx (by omega) (by omega) h1
 have wl2:=hF.wl y wy (by omega) (by omega) h2
 simp[-al,hv,x1,x2,x3];refine bC (λq:Nat×(Tf->Nat)×List ag=>[(5,.int q.1)]) (λq=>q.2.2) (λq=>q.1<=D.n.aq.toNat/\PE p q.2.1/\FS (Fd.enc D x c y wx wy S q.1) D.vcs.av q.2.1 q.2.2) (λq=>D.n.aq.toNat-q.1) (0,p,σ) (by simp[bT]) ⟨by simp,⟨rfl,rfl⟩,h⟩ ?_
 rintro⟨r,p1,qf⟩ ⟨r0,jA,hS⟩;dsimp only at r0 jA hS ⊢;obtain⟨k1,k2,k3,k4,k5⟩:=JN (wx:=wx) (wy:=wy) hF hb r (by omega)
 have dQ:=hS.has .f _ rfl;have JO:=hS.has .wo _ rfl;rw[jA.1]at dQ
 by_cases hr:r<D.n.aq.toNat
 ·have pN:=bM (show(r:Int)<(((ix (ix (ix D.BL (x:Int)) (c:Int)) (y:Int)).length:Nat):Int)by omega)
  have mH:=hb r (by omega)
  have g1:=k5 x (by omega) f1
  have g2:=k5 y (by omega) f2
  rw[h1]at g1;rw[h2]at g2;have zY:cq [(true,some wx),(false,some [(c:Int)]),(true,some wy),(false,some [D.n.calls+D.n.aj+r])]=wx++(c:Int)::(wy ++ [D.n.calls+D.n.aj+r]):=by simp[cq]
  have hO:=JJ (Fd.enc D x c y wx wy S r) hS k1.ok (x:=(D.bk x c y r).toNat) (by omega) [(true,some wx),(false,some [(c:Int)]),(true,some wy),(false,some [D.n.calls+D.n.aj+r])] (by rw[zY];simp;omega) (by simp) (λo ho=>k1.wl _ _ (by omega) (by omega) ho) false
  obtain⟨rv,τ,hO,rfl,p2,nP,iC⟩:=dS hO;rw[zY]at iC;rw[jA.1]at hO;have nP:PE p p2:=⟨nP.1.trans jA.1,nP.2.trans jA.2⟩;have qO:((D.bk x c y r).toNat:Int)=ix (ix (ix (ix D.BL (x:Int)) (c:Int)) (y:Int)) (r:Int):=by
   have:D.bk x c y r=ix (ix (ix (ix D.BL (x:Int)) (c:Int)) (y:Int)) (r:Int):=rfl;omega
  rw[qO]at hO;have lx:=bM (show(x:Int)<((Fd.enc D x c y wx wy S r).W.length:Int)by omega)
  have ly:=bM (show(y:Int)<((Fd.enc D x c y wx wy S r).W.length:Int)by omega)
  have lx2:=bM (show x<(Fd.enc D x c y wx wy S r).W.length by omega)
  have ly2:=bM (show y<(Fd.enc D x c y wx wy S r).W.length by omega)
  simp only[List.map_cons,List.map_nil,w5]at hO;simp[-al,pN,dQ,JO,lx,ly,lx2,ly2,g1,g2,oo,hO];exact⟨by omega,by omega,by omega,ba (r+1,p2,τ) (by simp) rfl ⟨by dsimp only;omega,nP,iC⟩ (by dsimp only;omega)⟩
 ·have pN:=gg (show ¬(r:Int)<(((ix (ix (ix D.BL (x:Int)) (c:Int)) (y:Int)).length:Nat):Int)by omega)
  have er:r=D.n.aq.toNat:=by omega
  simp[-al,pN];rw[<-er];exact⟨p1,jA,hS⟩
structure Kp (S T:Fd):Prop where
 w:mc T
 l:T.W.length=S.W.length
 f:T.F=S.F
 n:T.N=S.N
 k:∀z:Int,0<=z->ix S.F z=true->ix T.W z=ix S.W z
theorem Kp.refl{S:Fd}(h:mc S):Kp S S:=⟨h,rfl,rfl,rfl,λ_ _ _=>rfl⟩
theorem Kp.trans{S T U:Fd}(h:Kp S T) (g:Kp T U):Kp S U:=⟨g.w,g.l.trans h.l,g.f.trans h.f,g.n.trans h.n,λz z0 hz=>(g.k z z0 (by rw[h.f];exact hz)).trans (h.k z z0 hz)⟩
theorem Kp.off{S:Fd}(h:mc S){x:Nat}(hx:x<S.W.length) (c:List Int):Kp S (S.off x c):=by
 obtain⟨o1,o2,o3⟩:=JM (S:=S) (x:=x) (c:=c);exact⟨h.off hx c,o1,o2,o3,λz z0 hz=>TN hx z0 hz⟩
theorem Kp.enc{D:Vd}(hD:jO D){S:Fd}(h:mc S) (hk:S.W.length=D.K.length){x c y:Nat}(hx:x<D.K.length) (hy:y<D.K.length) (hc:c<D.n.calls.toNat) (wx wy:List Int):Kp S (Fd.enc D x c y wx wy S D.n.aq.toNat):=by
 have ni:=hD.rN x c y hx hc hy;unfold Vd.bS Vd.row at ni;have Ga:=hD.r;obtain⟨a,b,c,d,e⟩:=JN (wx:=wx) (wy:=wy) h (λr hr=>by
  rw[hk];exact ni.2 _ (aZ (by omega) (by omega))) D.n.aq.toNat (by omega)
 exact⟨a,b,c,d,e⟩
def Fd.ei (D:Vd) (x:Nat) (wx:List Int) (S:Fd):Nat->Fd
 |0=>S
 |i+1=>(Fd.ei D x wx S i).off (D.im x i).toNat (wx ++ [D.n.calls+i])
theorem Kp.ei{D:Vd}(hD:jO D){S:Fd}(h:mc S) (hk:S.W.length=D.K.length){x:Nat}(hx:x<D.K.length) (wx:List Int):∀i:Nat,i<=D.n.aj.toNat->Kp S (Fd.ei D x wx S i)
 |0,_=>Kp.refl h
 |i+1,hi=>by
  have ih:=Kp.ei hD h hk hx wx i (by omega)
  have fc:=hD.inl x hx;have wz:=hD.n;have WC:0<=D.im x i/\D.im x i<(D.K.length:Int):=fc.2 _ (aZ (by omega) (by omega))
  exact ih.trans (Kp.off ih.w (by rw[ih.l,hk];omega) _)
def Fd.ec (D:Vd) (x y:Nat) (wx wy:List Int) (S:Fd):Nat->Fd
 |0=>S
 |c+1=>Fd.enc D y c x wy wx (Fd.enc D x c y wx wy (Fd.ec D x y wx wy S c) D.n.aq.toNat) D.n.aq.toNat
theorem Kp.ec{D:Vd}(hD:jO D){S:Fd}(h:mc S) (hk:S.W.length=D.K.length){x y:Nat}(hx:x<D.K.length) (hy:y<D.K.length) (wx wy:List Int):∀c:Nat,c<=D.n.calls.toNat->Kp S (Fd.ec D x y wx wy S c)
 |0,_=>Kp.refl h
 |c+1,hc=>by
  have ih:=Kp.ec hD h hk hx hy wx wy c (by omega)
  have h1:=Kp.enc hD ih.w (by rw[ih.l,hk]) hx hy (show c<D.n.calls.toNat by omega) wx wy
  have h2:=ih.trans h1;exact h2.trans (Kp.enc hD h2.w (by rw[h2.l,hk]) hy hx (show c<D.n.calls.toNat by omega) wy wx)
def Fd.ed (D:Vd) (x:Nat) (wx:List Int) (wd:Int->List Int) (S:Fd) (l:List Int):Nat->Fd
 |0=>S
 |k+1=>Fd.ec D x (ix l (k:Int)).toNat wx (wd (ix l (k:Int))) (Fd.ed D x wx wd S l k) D.n.calls.toNat
theorem Kp.ed{D:Vd}(hD:jO D){S:Fd}(h:mc S) (hk:S.W.length=D.K.length){x:Nat}(hx:x<D.K.length) (wx:List Int) (wd:Int->List Int){l:List Int}(hl:∀y∈l,0<=y/\y<(D.K.length:Int)):∀k:Nat,k<=l.length->Kp S (Fd.ed D x wx wd S l k)
 |0,_=>Kp.refl h
 |k+1,nZ=>by
  have ih:=Kp.ed hD h hk hx wx wd hl k (by omega)
  have hy:=hl _ (aZ (l:=l) (n:=(k:Int)) (by omega) (by omega))
  exact ih.trans (Kp.ec hD ih.w (by rw[ih.l,hk]) hx (by omega) wx _ _ (bw _))
def Fd.ext (D:Vd) (x:Nat) (S:Fd):Fd:=
 let wx:=(ix S.W (x:Int)).getD []
 Fd.ed D x wx (λy=>(ix S.W y).getD []) (Fd.ei D x wx S D.n.aj.toNat) S.N S.N.length
end Ab
