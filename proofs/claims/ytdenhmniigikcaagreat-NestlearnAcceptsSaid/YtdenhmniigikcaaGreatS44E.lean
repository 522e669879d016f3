/- A single-entry automaton in memory. A frame of a single-entry automaton: where it lies. A frame of a single-entry automaton: the program. Condition: none. -/
import Derived.Test.YtdenhmniigikcaaGreatS44B
set_option linter.all false
set_option maxRecDepth 100000
set_option maxHeartbeats 4000000
namespace Ab
inductive Kd where
 |cl|ps|aR
 deriving DecidableEq
inductive Tn where
 |ac|po
 |ls (k:Kd)
 |rw(k:Kd) (s:Nat)
 |pr (s:Nat)
 |pg (s g:Nat)
 deriving DecidableEq
def ak.tb (n:ak):Kd->List (List Int)
 |.cl=>n.call
 |.ps=>n.push
 |.aR=>n.inner
def ak.cF (n:ak) (k:Kd) (s:Nat):List Int:=ix (n.tb k) (s:Int)
def ak.bI (n:ak) (s:Nat):List (List Int):=ix n.pop (s:Int)
def ak.cK (n:ak) (s g:Nat):List Int:=ix (n.bI s) (g:Int)
def kn:Kd->List Int->ag
 |.ps,l=>fy l
 |_,l=>Zb l
abbrev iD (b k:Nat):AV:=.sl b k 0 k
def ak.cont (n:ak) (p:Tn->Nat):Tn->Option ag
 |.ac=>some ⟨none,n.accept.map .bool,.live⟩
 |.ls k=>if n.tb k=[]then none else some ⟨none,(List.range (n.tb k).length).map λs=>iD (p (.rw k s)) (n.cF k s).length,.live⟩
 |.rw k s=>if s<(n.tb k).length then some (kn k (n.cF k s))else none
 |.po=>if n.pop=[]then none else some ⟨none,(List.range n.pop.length).map λs=>iD (p (.pr s)) (n.bI s).length,.live⟩
 |.pr s=>if s<n.pop.length then some ⟨none,(List.range (n.bI s).length).map λg=>iD (p (.pg s g)) (n.cK s g).length,.live⟩else none
 |.pg s g=>if s<n.pop.length/\g<(n.bI s).length then some (Zb (n.cK s g))else none
def ak.bX (n:ak) (p:Tn->Nat):List AV:=[.int n.calls,.int n.aj,.int n.aq,.int n.stack,.int n.start,iD (p .ac) n.accept.length,cT (p (.ls .cl)) n.call.length,cT (p (.ls .ps)) n.push.length,cT (p (.ls .aR)) n.inner.length,cT (p .po) n.pop.length]
structure AS (n:ak) (p:Tn->Nat) (σ:List ag):Prop where
 has:∀t B,n.cont p t=some B->al σ (p t)=some B
 inj:∀t u A B,n.cont p t=some A->n.cont p u=some B->p t=p u->t=u
theorem AS.ne{n:ak}{p:Tn->Nat}{σ:List ag}(h:AS n p σ){t u:Tn}{A B:ag}(ht:n.cont p t=some A) (hu:n.cont p u=some B) (hn:t ≠ u):p t ≠ p u:=λe=>hn (h.inj t u A B ht hu e)
theorem AS.lt{n:ak}{p:Tn->Nat}{σ:List ag}(h:AS n p σ){t:Tn}{A:ag}(ht:n.cont p t=some A):p t<σ.length:=dB (h.has t A ht)
theorem AS.other{n:ak}{p:Tn->Nat}{σ τ:List ag}(h:AS n p σ) (hb:∀t B,n.cont p t=some B->al τ (p t)=al σ (p t)):AS n p τ:=
 ⟨λt B hB=>by rw[hb t B hB];exact h.has t B hB,h.inj⟩
theorem AS.put{n n' : ak}{p:Tn->Nat}{σ:List ag}(h:AS n p σ){t:Tn}{A B:ag}(ht:n.cont p t=some A) (jf : n'.cont p t=some B) (hu:∀u,u ≠ t->n'.cont p u=n.cont p u):AS n' p (az σ (p t) B):=by
 refine⟨λu C hC=>?_,λu v C E hC hE e=>?_⟩
 ·by_cases EY:u=t
  ·subst EY
   rw[jf]at hC;injection hC with hC
   subst hC;exact cH (h.lt ht)
  ·rw[hu u EY]at hC
   rw[aP (h.ne ht hC (Ne.symm EY))];exact h.has u C hC
 ·have key:∀u C,n'.cont p u=some C->∃D,n.cont p u=some D:=λu C hC=>by
   by_cases EY:u=t
   ·exact⟨A,by rw[EY];exact ht⟩
   ·rw[hu u EY]at hC;exact⟨C,hC⟩
  obtain⟨_,h1⟩:=key u C hC;obtain⟨_,h2⟩:=key v E hE;exact h.inj u v _ _ h1 h2 e
theorem UL{n:Nat}:∀l:List Bool,kP n (l.map .bool)=l.map .bool
 | []=>rfl
 |b::l=>by rw[dd,kP,UL l];rfl
theorem UM{n:ak}{p:Tn->Nat}{d:Nat}{t:Tn}:n.cont (λt=>p t+d) t=(n.cont p t).map (gR d):=by
 have hr:∀(m:Nat) (f:Nat->Nat) (g:Nat->Nat),(List.range m).map (λs=>iD (f s+d) (g s))=kP d ((List.range m).map λs=>iD (f s) (g s)):=λm f g=>by
  rw[yy,List.map_map];rfl
 cases t with
 |ac=>simp[ak.cont,gR,UL]
 |po=>
  simp only[ak.cont];split
  ·rfl
  ·rw[hr];rfl
 |ls k=>
  simp only[ak.cont];split
  ·rfl
  ·rw[hr];rfl
 |rw k s=>
  simp only[ak.cont];split
  ·cases k<;>simp[kn,gR,E8]
   split<;>rfl
  ·rfl
 |pr s=>
  simp only[ak.cont];split
  ·rw[hr];rfl
  ·rfl
 |pg s g=>
  simp only[ak.cont];split
  ·simp[gR,E8]
  ·rfl
theorem AS.shift{n:ak}{p:Tn->Nat}{σ:List ag}(h:AS n p σ) (ρ:List ag):AS n (λt=>p t+ρ.length) (ρ++σ.map (gR ρ.length)):=by
 refine⟨λt B hB=>?_,λt u A B hA hB e=>?_⟩
 ·rw[UM]at hB
  obtain⟨C,hC,rfl⟩:=nG.1 hB;have:=h.has t C hC;rw[bE]at this ⊢;rw[gv (by omega),show p t+ρ.length-ρ.length=p t by omega,iv,this]
  rfl
 ·rw[UM]at hA hB
  obtain⟨C,hC,_⟩:=nG.1 hA;obtain⟨E,hE,_⟩:=nG.1 hB;exact h.inj t u C E hC hE (by omega)
theorem AS.view{n:ak}{p:Tn->Nat}{σ:List ag}(h:AS n p σ):view σ false vd (.agg (n.bX p))=some n.av:=by
 have dY:∀(k:Kd) (s:Nat) (f:Nat),s<(n.tb k).length->Ab.view σ false (f+2) (iD (p (.rw k s)) (n.cF k s).length)=some (iL (n.cF k s)):=λk s f hs=>by
  have:=h.has (.rw k s) _ (ae hs);cases k
  ·exact gx (k:=f+1) this rfl rfl λ_ _=>rfl
  ·exact gx (k:=f+1) (st:=if n.cF .ps s=[]then .jP else .live) this (by split<;>rfl) rfl λ_ _=>rfl
  ·exact gx (k:=f+1) this rfl rfl λ_ _=>rfl
 have A9:∀(k:Kd) (f:Nat),Ab.view σ false (f+3) (cT (p (.ls k)) (n.tb k).length)=some (cO (n.tb k)):=λk f=>by
  have e:cO (n.tb k) = .aE false ((List.range (n.tb k).length).map λs=>iL (n.cF k s)):=by
   unfold ak.cF;rw[qv (f:=iL)]
  rw[e];exact qw (k:=f+2) (f:=λs=>iD (p (.rw k s)) (n.cF k s).length) (λhx=>h.has (.ls k) _ (ab λe=>hx (by rw[e];rfl))) (by simp) λs hs=>dY k s f (cA.1 hs)
 have G0:∀(f:Nat),Ab.view σ false (f+4) (cT (p .po) n.pop.length)=some (fX n.pop):=λf=>by
  have e:fX n.pop = .aE false ((List.range n.pop.length).map λs=>cO (n.bI s)):=by
   unfold ak.bI;rw[qv (f:=cO)]
  rw[e];refine qw (k:=f+3) (f:=λs=>iD (p (.pr s)) (n.bI s).length) (λhx=>h.has .po _ (ab λe=>hx (by rw[e];rfl))) (by simp) λs hs=>?_
  have gV :=cA.1 hs;have e2:cO (n.bI s) = .aE false ((List.range (n.bI s).length).map λg=>iL (n.cK s g)):=by
   unfold ak.cK;rw[qv (f:=iL)]
  rw[e2];exact gx (k:=f+2) (f:=λg=>iD (p (.pg s g)) (n.cK s g).length) (h.has (.pr s) _ (ae gV)) rfl (by simp) λg hg=>gx (k:=f+1) (h.has (.pg s g) _ (ae ⟨gV, cA.1 hg⟩)) rfl rfl λ_ _=>rfl
 show Ab.view σ false (11+1) _=_;unfold Ab.view;have hm:bZ (Ab.view σ false 11) (n.bX p)=some [.int n.calls,.int n.aj,.int n.aq,.int n.stack,.int n.start,bL n.accept,cO n.call,cO n.push,cO n.inner,fX n.pop]:=by
  refine cJ rfl (cJ rfl (cJ rfl (cJ rfl (cJ rfl (cJ ?_ (cJ ?_ (cJ ?_ (cJ ?_ (cJ ?_ rfl)))))))))
  ·exact gx (k:=10) (h.has .ac _ rfl) rfl rfl λ_ _=>rfl
  ·exact A9 .cl 8
  ·exact A9 .ps 8
  ·exact A9 .aR 8
  ·exact G0 7
 simp only[hm]
theorem AS.mQ{n:ak}{p:Tn->Nat}{σ:List ag}(h:AS n p σ){l:List Bool}:AS {n with accept:=l} p (az σ (p .ac) ⟨none,l.map .bool,.live⟩):=
 h.put (t:=.ac) rfl rfl λu hu=>by cases u<;>first|rfl|exact absurd rfl hu
theorem AS.mR{n:ak}{p:Tn->Nat}{σ:List ag}(h:AS n p σ){s:Nat}(hs:s<n.inner.length){l:List Int}(hl:l.length=(n.cF .aR s).length):AS {n with inner:=n.inner.set s l} p (az σ (p (.rw .aR s)) (Zb l)):=by
 have hlen:(n.inner.set s l).length=n.inner.length:=by simp
 have dY:∀s' : Nat,ak.cF {n with inner:=n.inner.set s l} .aR s' = if s' = s then l else n.cF .aR s' :=λs' =>jd hs s'
 have iC:∀s' : Nat,(ak.cF {n with inner:=n.inner.set s l} .aR s').length=(n.cF .aR s').length:=λs' =>by
  rw[dY];split
  ·rename_i e;rw[e];exact hl
  ·rfl
 refine h.put (t:=.rw .aR s) (ae hs) ?_ λu hu=>?_
 ·show(if s<(n.inner.set s l).length then some (kn .aR (ak.cF {n with inner:=n.inner.set s l} .aR s))else none)=_
  rw[hlen,ae hs,dY,ae rfl];rfl
 ·cases u with
  |ls k=>
   cases k with
   |aR=>
    show(if n.inner.set s l=[]then none else some (⟨none,(List.range (n.inner.set s l).length).map λs' =>iD (p (.rw .aR s')) (ak.cF {n with inner:=n.inner.set s l} .aR s').length,.live⟩:ag))=if n.inner=[]then none else some ⟨none,(List.range n.inner.length).map λs=>iD (p (.rw .aR s)) (n.cF .aR s).length,.live⟩
    simp only[iC,hlen];have:n.inner.set s l=[]↔n.inner=[]:=by rw[<-List.length_eq_zero_iff,hlen,List.length_eq_zero_iff]
    by_cases e:n.inner=[]
    ·rw[ae e,ae (this.2 e)]
    ·rw[ab e,ab λa=>e (this.1 a)]
   |_=>rfl
  |rw k s' =>
   cases k with
   |aR=>
    have:s' ≠ s:=λe=>hu (by rw[e])
    show(if s' < (n.inner.set s l).length then some (kn .aR (ak.cF {n with inner:=n.inner.set s l} .aR s'))else none)=if s' < n.inner.length then some (kn .aR (n.cF .aR s'))else none
    rw[hlen,dY,ab this]
   |_=>rfl
  |_=>rfl
theorem AS.mS{n:ak}{p:Tn->Nat}{σ:List ag}(h:AS n p σ){s g:Nat}(hs:s<n.pop.length) (hg:g<(n.bI s).length){l:List Int}(hl:l.length=(n.cK s g).length):AS {n with pop:=n.pop.set s ((n.bI s).set g l)} p (az σ (p (.pg s g)) (Zb l)):=by
 have hlen:(n.pop.set s ((n.bI s).set g l)).length=n.pop.length:=by simp
 have dY:∀s' : Nat,ak.bI {n with pop:=n.pop.set s ((n.bI s).set g l)} s' = if s' = s then(n.bI s).set g l else n.bI s' :=λs' =>jd hs s'
 have iC:∀s' : Nat,(ak.bI {n with pop:=n.pop.set s ((n.bI s).set g l)} s').length=(n.bI s').length:=λs' =>by
  rw[dY];split
  ·rename_i e;rw[e];simp
  ·rfl
 have jy:∀s' g' : Nat,ak.cK {n with pop:=n.pop.set s ((n.bI s).set g l)} s' g' = if s' = s/\g' = g then l else n.cK s' g' :=λs' g' =>by
  unfold ak.cK;rw[dY]
  by_cases e:s' = s
  ·rw[ae e,jd hg]
   by_cases e2:g' = g
   ·rw[ae e2,ae ⟨e,e2⟩]
   ·rw[ab e2,ab λa=>e2 a.2,e]
  ·rw[ab e,ab λa=>e a.1]
 have gG:∀s' g' : Nat,(ak.cK {n with pop:=n.pop.set s ((n.bI s).set g l)} s' g').length=(n.cK s' g').length:=λs' g' =>by
  rw[jy];split
  ·rename_i e;rw[e.1,e.2];exact hl
  ·rfl
 refine h.put (t:=.pg s g) (ae ⟨hs,hg⟩) ?_ λu hu=>?_
 ·show(if s<(n.pop.set s ((n.bI s).set g l)).length/\g<(ak.bI {n with pop:=n.pop.set s ((n.bI s).set g l)} s).length then some (Zb (ak.cK {n with pop:=n.pop.set s ((n.bI s).set g l)} s g))else none)=_
  rw[hlen,iC,ae ⟨hs,hg⟩,jy,ae ⟨rfl,rfl⟩]
 ·cases u with
  |po=>
   show(if n.pop.set s ((n.bI s).set g l)=[]then none else some (⟨none,(List.range (n.pop.set s ((n.bI s).set g l)).length).map λs' =>iD (p (.pr s')) (ak.bI {n with pop:=n.pop.set s ((n.bI s).set g l)} s').length,.live⟩:ag))=if n.pop=[]then none else some ⟨none,(List.range n.pop.length).map λs=>iD (p (.pr s)) (n.bI s).length,.live⟩
   simp only[iC,hlen];have:n.pop.set s ((n.bI s).set g l)=[]↔n.pop=[]:=by rw[<-List.length_eq_zero_iff,hlen,List.length_eq_zero_iff]
   by_cases e:n.pop=[]
   ·rw[ae e,ae (this.2 e)]
   ·rw[ab e,ab λa=>e (this.1 a)]
  |pr s' =>
   show(if s' < (n.pop.set s ((n.bI s).set g l)).length then some (⟨none,(List.range (ak.bI {n with pop:=n.pop.set s ((n.bI s).set g l)} s').length).map λg' =>iD (p (.pg s' g')) (ak.cK {n with pop:=n.pop.set s ((n.bI s).set g l)} s' g').length,.live⟩:ag)else none)=if s' < n.pop.length then some ⟨none,(List.range (n.bI s').length).map λg' =>iD (p (.pg s' g')) (n.cK s' g').length,.live⟩else none
   simp only[iC,hlen,gG]
  |pg s' g' =>
   have:¬(s' = s/\g' = g):=λe=>hu (by rw[e.1,e.2])
   show(if s' < (n.pop.set s ((n.bI s).set g l)).length/\g' < (ak.bI {n with pop:=n.pop.set s ((n.bI s).set g l)} s').length then some (Zb (ak.cK {n with pop:=n.pop.set s ((n.bI s).set g l)} s' g'))else none)=if s' < n.pop.length/\g' < (n.bI s').length then some (Zb (n.cK s' g'))else none
   rw[hlen,iC,jy,ab this]
  |_=>rfl
def fB (k s:Nat):Nat:=if s=0 then 3 else 11+k+(s-1)*(k+4)
def fp (k:Nat):Tn->Nat
 |.ac=>1
 |.po=>10+k
 |.ls .cl=>6+k
 |.ls .ps=>7+k
 |.ls .aR=>9+k
 |.rw .ps s=>fB k s
 |.pr s=>fB k s+1
 |.pg s g=>fB k s+2+g
 |.rw .cl s=>fB k s+2+k
 |.rw .aR s=>fB k s+2+k+(if s=0 then 3 else 1)
theorem Am{k s t:Nat}(h:s<t):fB k s+k+4<=fB k t/\(s=0->11+k<=fB k t):=by
 obtain⟨u,rfl⟩:∃u,t=u+1:=⟨t-1,by omega⟩
 have e:fB k (u+1)=11+k+u*(k+4):=by simp[fB]
 rw[e]
 by_cases hs:s=0
 ·subst hs
  have:fB k 0=3:=rfl;exact⟨by rw[this];have:=Nat.zero_le (u*(k+4));omega,λ_=>by omega⟩
 ·obtain⟨v,rfl⟩:∃v,s=v+1:=⟨s-1,by omega⟩
  have e2:fB k (v+1)=11+k+v*(k+4):=by simp[fB]
  rw[e2];have:(v+1)*(k+4)<=u*(k+4):=jT _ (by omega)
  rw[fC]at this;exact⟨by omega,λh=>absurd h hs⟩
theorem Ao{k:Nat}:fB k 0=3:=rfl
theorem anp{k:Nat}:fB k 1=11+k:=by simp[fB]
theorem anq{k s:Nat}(h:s ≠ 0):fB k (s+1)=fB k s+k+4:=by
 obtain⟨v,rfl⟩:∃v,s=v+1:=⟨s-1,by omega⟩
 simp[fB,fC];omega
theorem FE{k s:Nat}(h:s ≠ 0):11+k<=fB k s:=(Am (s:=0) (t:=s) (by omega)).2 rfl
def Tn.G1 (k:Nat):Tn->Prop
 |.pg _ g=>g<k
 |_=>True
def Tn.off (k:Nat):Tn->Option (Nat×Nat)
 |.rw .ps s=>some (s,0)
 |.pr s=>some (s,1)
 |.pg s g=>some (s,2+g)
 |.rw .cl s=>some (s,2+k)
 |.rw .aR s=>some (s,2+k+if s=0 then 3 else 1)
 |_=>none
theorem vR{k:Nat}{t:Tn}(ht:t.G1 k):(∃s o,t.off k=some (s,o)/\fp k t=fB k s+o/\(o<k+4\/s=0/\o=k+5)/\(s=0->o<3+k\/o=k+5))\/(t.off k=none/\(fp k t=1\/6+k<=fp k t/\fp k t<=10+k/\fp k t ≠ 8+k)):=by
 cases t with
 |ac=>exact .inr ⟨rfl,.inl rfl⟩
 |po=>exact .inr ⟨rfl,.inr ⟨by simp[fp],by simp[fp],by simp[fp]⟩⟩
 |ls q=>cases q<;>exact .inr ⟨rfl,.inr ⟨by simp[fp],by simp[fp],by simp[fp]⟩⟩
 |rw q s=>
  cases q with
  |cl=>exact .inl ⟨s,2+k,rfl,by simp[fp];omega,by omega,by omega⟩
  |ps=>exact .inl ⟨s,0,rfl,by simp[fp],by omega,by omega⟩
  |aR=>
   refine .inl ⟨s,_,rfl,by simp only[fp];omega,?_,?_⟩
   ·split<;>omega
   ·intro h;rw[ae h];omega
 |pr s=>exact .inl ⟨s,1,rfl,rfl,by omega,by omega⟩
 |pg s g=>have:g<k:=ht;exact .inl ⟨s,2+g,rfl,by simp[fp];omega,by omega,by omega⟩
theorem anr{k:Nat}{t u:Tn}(ht:t.G1 k) (hu:u.G1 k){s o:Nat}(h1:t.off k=some (s,o)) (h2:u.off k=some (s,o)):t=u:=by
 have hp:∀g s', (Tn.pg s' g).G1 k->g<k:=λg s' h=>h;cases t with
 |ac=>simp[Tn.off]at h1
 |po=>simp[Tn.off]at h1
 |ls q=>simp[Tn.off]at h1
 |rw q s' =>
  cases u with
  |ac=>simp[Tn.off]at h2
  |po=>simp[Tn.off]at h2
  |ls q=>simp[Tn.off]at h2
  |rw r A8 =>
   cases q<;>cases r<;>simp[Tn.off]at h1 h2<;>first|(rw[h1.1,h2.1];done)|(exfalso;(try split at h1)<;>(try split at h2)<;>omega)
  |pr A8 =>cases q<;>simp[Tn.off]at h1 h2<;>exfalso<;>(try split at h1)<;>omega
  |pg A8 g=>have:=hp _ _ hu;cases q<;>simp[Tn.off]at h1 h2<;>exfalso<;>(try split at h1)<;>omega
 |pr s' =>
  cases u with
  |ac=>simp[Tn.off]at h2
  |po=>simp[Tn.off]at h2
  |ls q=>simp[Tn.off]at h2
  |rw r A8 =>cases r<;>simp[Tn.off]at h1 h2<;>exfalso<;>(try split at h2)<;>omega
  |pr A8 =>simp[Tn.off]at h1 h2;rw[h1.1,h2.1]
  |pg A8 g=>simp[Tn.off]at h1 h2;omega
 |pg s' g=>
  have hg:=hp _ _ ht;cases u with
  |ac=>simp[Tn.off]at h2
  |po=>simp[Tn.off]at h2
  |ls q=>simp[Tn.off]at h2
  |rw r A8 =>cases r<;>simp[Tn.off]at h1 h2<;>exfalso<;>(try split at h2)<;>omega
  |pr A8 =>simp[Tn.off]at h1 h2;omega
  |pg A8 g' =>
   simp[Tn.off]at h1 h2;rw[h1.1,h2.1,show g=g' by omega]
theorem xe{k:Nat}{t u:Tn}(ht:t.G1 k) (hu:u.G1 k) (e:fp k t=fp k u):t=u:=by
 rcases vR ht with⟨s,o,h1,h2,h3,h4⟩|⟨h1,h2⟩
 ·rcases vR hu with⟨s', o', g1,g2,g3,g4⟩|⟨g1,g2⟩
  ·have es:s=s' :=by
    rcases Nat.lt_trichotomy s s' with h|h|h
    ·have:=Am (k:=k) h
     by_cases z:s=0
     ·have:=this.2 z;have:=h4 z;subst z;rw[Ao]at h2;omega
     ·omega
    ·exact h
    ·have:=Am (k:=k) h
     by_cases z:s' = 0
     ·have:=this.2 z;have:=g4 z;subst z;rw[Ao]at g2;omega
     ·omega
   subst es;exact anr ht hu h1 (by rw[g1,show o' = o by omega])
  ·exfalso
   by_cases z:s=0
   ·have:=h4 z;subst z;rw[Ao]at h2;omega
   ·have:=FE (k:=k) z;omega
 ·rcases vR hu with⟨s', o', g1,g2,g3,g4⟩|⟨g1,g2⟩
  ·exfalso
   by_cases z:s' = 0
   ·have:=g4 z;subst z;rw[Ao]at g2;omega
   ·have:=FE (k:=k) z;omega
  ·cases t with
   |ac=>cases u with
    |ac=>rfl
    |po=>simp[fp]at e;omega
    |ls q=>cases q<;>simp[fp]at e<;>omega
    |rw r s=>cases r<;>simp[Tn.off]at g1
    |pr s=>simp[Tn.off]at g1
    |pg s g=>simp[Tn.off]at g1
   |po=>cases u with
    |ac=>simp[fp]at e;omega
    |po=>rfl
    |ls q=>cases q<;>simp[fp]at e
    |rw r s=>cases r<;>simp[Tn.off]at g1
    |pr s=>simp[Tn.off]at g1
    |pg s g=>simp[Tn.off]at g1
   |ls q=>cases u with
    |ac=>cases q<;>simp[fp]at e<;>omega
    |po=>cases q<;>simp[fp]at e
    |ls r=>cases q<;>cases r<;>first|rfl|(simp[fp]at e)
    |rw r s=>cases r<;>simp[Tn.off]at g1
    |pr s=>simp[Tn.off]at g1
    |pg s g=>simp[Tn.off]at g1
   |rw r s=>cases r<;>simp[Tn.off]at h1
   |pr s=>simp[Tn.off]at h1
   |pg s g=>simp[Tn.off]at h1
def ak.aB (n:ak) (k:Nat):Nat:=max 1 (k*n.calls.toNat)
def ak.vS (n:ak) (s j:Nat):List Int:=(List.range j).map λ(c:Nat)=>(s:Int)*n.calls+(c:Int)
def ak.dO (n:ak) (k s:Nat):ak:=⟨n.calls,n.aj,n.aq,n.aB k,0,List.replicate k false,List.replicate s (List.replicate n.calls.toNat 0),(List.range s).map λs=>n.vS s n.calls.toNat,List.replicate s (List.replicate n.aj.toNat 0),List.replicate s (List.replicate (n.aB k) (List.replicate n.aq.toNat 0))⟩
theorem ant{n:ak}{s j:Nat}:n.vS s (j+1)=n.vS s j ++ [(s:Int)*n.calls+(j:Int)]:=by simp[ak.vS,mI]
theorem KG{n:ak}{s j:Nat}:(n.vS s j).length=j:=by simp[ak.vS]
theorem kO{n:ak}{k s i:Nat}(hi:i<s):(n.dO k s).cF .cl i=List.replicate n.calls.toNat 0/\(n.dO k s).cF .ps i=n.vS i n.calls.toNat/\(n.dO k s).cF .aR i=List.replicate n.aj.toNat 0/\(n.dO k s).bI i=List.replicate (n.aB k) (List.replicate n.aq.toNat 0):=by
 refine⟨lq hi,?_,lq hi,lq hi⟩;show ix ((List.range s).map λs=>n.vS s n.calls.toNat) (i:Int)=_;rw[aT (by simpa using hi)];simp
theorem u4{n:ak}{k s i g:Nat}(hi:i<s) (hg:g<n.aB k):(n.dO k s).cK i g=List.replicate n.aq.toNat 0:=by
 unfold ak.cK;rw[(kO hi).2.2.2];exact lq hg
theorem mT{n:ak}{k s:Nat}(q:Kd):((n.dO k s).tb q).length=s:=by cases q<;>simp[ak.tb,ak.dO]
theorem mU{n:ak}{k s:Nat}:(n.dO k s).pop.length=s:=by simp[ak.dO]
def ak.KH (n:ak):Kd->Nat
 |.cl=>n.calls.toNat
 |.ps=>n.calls.toNat
 |.aR=>n.aj.toNat
theorem KI{n:ak}{k s i:Nat}(hi:i<s) (q:Kd):((n.dO k s).cF q i).length=n.KH q:=by
 obtain⟨h1,h2,h3,_⟩:=kO (n:=n) (k:=k) hi;cases q
 ·rw[h1];simp[ak.KH]
 ·rw[h2];exact KG
 ·rw[h3];simp[ak.KH]
def FF (n:ak) (k:Nat) (q:Kd) (s:Nat):ag:=⟨none,(List.range s).map λi=>iD (fp (n.aB k) (.rw q i)) (n.KH q),.live⟩
def L9 (n:ak) (k s:Nat):ag:=⟨none,(List.range s).map λi=>iD (fp (n.aB k) (.pr i)) (n.aB k),.live⟩
def Xw (n:ak) (k s:Nat):ag:=⟨none,(List.range (n.aB k)).map λg=>iD (fp (n.aB k) (.pg s g)) n.aq.toNat,.live⟩
theorem UN{n:ak}{k s:Nat}{q:Kd}(hs:s ≠ 0):(n.dO k s).cont (fp (n.aB k)) (.ls q)=some (FF n k q s):=by
 show(if(n.dO k s).tb q=[]then none else some (⟨none,(List.range ((n.dO k s).tb q).length).map λi=>iD (fp (n.aB k) (.rw q i)) ((n.dO k s).cF q i).length,.live⟩:ag))=_
 rw[ab λe=>by have:=mT (n:=n) (k:=k) (s:=s) q;rw[e]at this;simp at this;omega,mT]
 congr 2
 exact gk λi hi=>by rw[KI (cA.1 hi)]
theorem UO{n:ak}{k s:Nat}(hs:s ≠ 0):(n.dO k s).cont (fp (n.aB k)) .po=some (L9 n k s):=by
 show(if(n.dO k s).pop=[]then none else some (⟨none,(List.range (n.dO k s).pop.length).map λi=>iD (fp (n.aB k) (.pr i)) ((n.dO k s).bI i).length,.live⟩:ag))=_
 rw[ab λe=>by have:=mU (n:=n) (k:=k) (s:=s);rw[e]at this;simp at this;omega,mU]
 congr 2
 exact gk λi hi=>by rw[(kO (cA.1 hi)).2.2.2];simp
theorem UP{n:ak}{k s i:Nat}(hi:i<s):(n.dO k s).cont (fp (n.aB k)) (.pr i)=some (Xw n k i):=by
 show(if i<(n.dO k s).pop.length then some (⟨none,(List.range ((n.dO k s).bI i).length).map λg=>iD (fp (n.aB k) (.pg i g)) ((n.dO k s).cK i g).length,.live⟩:ag)else none)=_
 rw[mU,ae hi,(kO hi).2.2.2,List.length_replicate]
 congr 2
 exact gk λg hg=>by rw[u4 hi (cA.1 hg)];simp
theorem pD{n:ak}{k s:Nat}{t:Tn}{B:ag}(h:(n.dO k s).cont (fp (n.aB k)) t=some B):t.G1 (n.aB k):=by
 cases t with
 |pg i g=>
  have h:(if i<(n.dO k s).pop.length/\g<((n.dO k s).bI i).length then some (Zb ((n.dO k s).cK i g))else none)=some B:=h
  split at h
  ·rename_i a
   rw[mU]at a;rw[(kO a.1).2.2.2]at a;have:=a.2;rw[List.length_replicate]at this;exact this
  ·simp at h
 |_=>trivial
theorem UQ{n:ak}{k s:Nat}{σ τ:List ag}(h:AS (n.dO k s) (fp (n.aB k)) σ)
  (h0:∀t B,(∀q,t ≠ .ls q)->t ≠ .po->(n.dO k s).cont (fp (n.aB k)) t=some B->al τ (fp (n.aB k) t)=some B)
  (hl:∀q,al τ (fp (n.aB k) (.ls q))=some (FF n k q (s+1))) (hp:al τ (fp (n.aB k) .po)=some (L9 n k (s+1)))
  (h1:al τ (fp (n.aB k) (.rw .cl s))=some (Zb (List.replicate n.calls.toNat 0))) (h2:al τ (fp (n.aB k) (.rw .ps s))=some (fy (n.vS s n.calls.toNat))) (h3:al τ (fp (n.aB k) (.rw .aR s))=some (Zb (List.replicate n.aj.toNat 0)))
  (h4:al τ (fp (n.aB k) (.pr s))=some (Xw n k s)) (h5:∀g,g<n.aB k->al τ (fp (n.aB k) (.pg s g))=some (Zb (List.replicate n.aq.toNat 0))):AS (n.dO k (s+1)) (fp (n.aB k)) τ:=by
 refine⟨λt B hB=>?_,λt u A B hA hB e=>xe (pD hA) (pD hB) e⟩;cases t with
 |ac=>
  rw[<-hB];exact h0 .ac _ (by simp) (by simp) rfl
 |po=>rw[<-hB,UO (by omega)];exact hp
 |ls q=>rw[<-hB,UN (by omega)];exact hl q
 |rw q i=>
  have hB:(if i<((n.dO k (s+1)).tb q).length then some (kn q ((n.dO k (s+1)).cF q i))else none)=some B:=hB
  rw[mT]at hB;split at hB
  ·rename_i hi
   by_cases e:i=s
   ·subst e
    obtain⟨a1,a2,a3,_⟩:=kO (n:=n) (k:=k) hi;cases q
    ·rw[a1]at hB;rw[h1];exact hB
    ·rw[a2]at hB;rw[h2];exact hB
    ·rw[a3]at hB;rw[h3];exact hB
   ·have dx : i<s:=by omega
    refine h0 (.rw q i) B (by simp) (by simp) ?_
    show(if i<((n.dO k s).tb q).length then some (kn q ((n.dO k s).cF q i))else none)=_
    rw[mT,ae dx, <-hB];obtain⟨a1,a2,a3,_⟩:=kO (n:=n) (k:=k) hi;obtain⟨b1,b2,b3,_⟩:=kO (n:=n) (k:=k) dx;cases q
    ·rw[a1,b1]
    ·rw[a2,b2]
    ·rw[a3,b3]
  ·simp at hB
 |pr i=>
  have hi:i<s+1:=by
   have hB:(if i<(n.dO k (s+1)).pop.length then some _ else none)=some B:=hB
   rw[mU]at hB;exact eU λhc=>by rw[ab hc]at hB;simp at hB
  rw[UP hi]at hB
  by_cases e:i=s
  ·subst e;rw[h4];exact hB
  ·exact h0 (.pr i) B (by simp) (by simp) (by rw[UP (by omega)];exact hB)
 |pg i g=>
  have Ma:(if i<(n.dO k (s+1)).pop.length/\g<((n.dO k (s+1)).bI i).length then some (Zb ((n.dO k (s+1)).cK i g))else none)=some B:=hB
  rw[mU]at Ma;split at Ma
  ·rename_i a
   have hg:g<n.aB k:=by
    have:=a.2;rw[(kO a.1).2.2.2]at this;simpa using this
   rw[u4 a.1 hg]at Ma
   by_cases e:i=s
   ·subst e;rw[h5 g hg,Ma]
   ·refine h0 (.pg i g) B (by simp) (by simp) ?_
    show(if i<(n.dO k s).pop.length/\g<((n.dO k s).bI i).length then some (Zb ((n.dO k s).cK i g))else none)=_
    rw[mU,(kO (show i<s by omega)).2.2.2,List.length_replicate,ae ⟨by omega,hg⟩,u4 (by omega) hg]
    exact Ma
  ·simp at Ma
theorem UR{n:ak}{k:Nat}{A B:ag}:AS (n.dO k 0) (fp (n.aB k)) [A,⟨none,(List.replicate k false).map .bool,.live⟩,B]:=by
 refine⟨λt C hC=>?_,λt u A B hA hB e=>xe (pD hA) (pD hB) e⟩;cases t with
 |ac=>rw[<-hC];rfl
 |ls q=>cases q<;>simp[ak.cont,ak.tb,ak.dO]at hC
 |rw q s=>cases q<;>simp[ak.cont,ak.tb,ak.dO]at hC
 |_=>simp[ak.cont,ak.dO]at hC
theorem xg{n:ak}{k s:Nat}:(n.dO k s).bX (fp (n.aB k))=[.int n.calls,.int n.aj,.int n.aq,.int ((n.aB k:Nat):Int),.int 0,.sl 1 k 0 k,cT (6+n.aB k) s,cT (7+n.aB k) s,cT (9+n.aB k) s,cT (10+n.aB k) s]:=by simp[ak.bX,ak.dO,fp]
theorem Ap{Q:List ag}{B C:ag}:az (Q ++ [B]) Q.length C=Q ++ [C]:=by rw[sE];simp
theorem xh{τ:List ag}{i:Nat}(h:i<τ.length):∀(Q r:List ag),τ.length<=Q.length->al (Q++r) i=al Q i:=λQ r hq=>by
 rw[bE,bE,fw (by omega)]
theorem US{τ:List ag}{i:Nat}(h:i<τ.length):∀(Q:List ag) (B:ag),τ.length<=Q.length->al (az Q i B) i=some B:=λQ B hq=>cH (by omega)
theorem og{i j:Nat}(h:i ≠ j):∀(Q:List ag) (B:ag),al (az Q i B) j=al Q j:=λQ B=>aP h
def KJ (a k r g:Nat):ag:=⟨none,(List.range k).map λi=>if i<g then iD (a+i) r else .ah,.live⟩
theorem anu{a k r g:Nat}:((List.range k).map λi=>if i<g then iD (a+i) r else .ah).set g (iD (a+g) r)=(List.range k).map λi=>if i<g+1 then iD (a+i) r else .ah:=by
 apply mG (by simp)
 intro i h1 h2;rw[List.getElem_set];simp only[oS,List.getElem_range]
 by_cases e:g=i
 ·subst e;rw[ae rfl,ae (by omega)]
 ·rw[ab e]
  by_cases h:i<g
  ·rw[ae h,ae (by omega)]
  ·rw[ab h,ab (by omega)]
theorem UT{a k r:Nat}:KJ a k r 0=⟨none,List.replicate k .ah,.live⟩:=by
 unfold KJ
 congr 1
 apply mG (by simp)
 intro i h1 h2;simp
theorem gq{Q r:List ag}{i:Nat}(h:i<Q.length):al (Q++r) i=al Q i:=by rw[bE,bE,fw h]
theorem anv{Q r:List ag}{i:Nat}(h:Q.length<=i):al (Q++r) i=al r (i-Q.length):=by rw[bE,bE,gv h]
theorem FG{Q r:List ag}{i m:Nat}(h:i=Q.length+m):al (Q++r) i=al r m:=by rw[anv (by omega)];congr 1;omega
theorem KL{k:Nat}{t:Tn}(ht:t.G1 k):fp k t ≠ 2/\fp k t ≠ 0:=by
 rcases vR ht with⟨s,o,h1,h2,h3,h4⟩|⟨h1,h2⟩
 ·by_cases z:s=0
  ·subst z;rw[Ao]at h2;omega
  ·have:=FE (k:=k) z;omega
 ·omega
theorem G2{n:ak}{k s:Nat}{q:Kd}:FF n k q (s+1)=⟨none,(List.range s).map (λi=>iD (fp (n.aB k) (.rw q i)) (n.KH q)) ++ [.sl (fp (n.aB k) (.rw q s)) (n.KH q) 0 (n.KH q)],.live⟩:=by
 unfold FF;rw[mI,lg];rfl
theorem G3{n:ak}{k s:Nat}:L9 n k (s+1)=⟨none,(List.range s).map (λi=>iD (fp (n.aB k) (.pr i)) (n.aB k)) ++ [.sl (fp (n.aB k) (.pr s)) (n.aB k) 0 (n.aB k)],.live⟩:=by
 unfold L9;rw[mI,lg];rfl
theorem UU{n:ak}{k s a:Nat}(h:a=fB (n.aB k) s+2):KJ a (n.aB k) n.aq.toNat (n.aB k)=Xw n k s:=by
 unfold KJ Xw
 congr 1
 refine gk λi hi=>?_;rw[ae (cA.1 hi),h];rfl
theorem rT{ce:CE}{σ:List ag}{n:Nat}{c0 c1 c2 c3 c4 c5 c6 c7 c8 c9:AV}(h:al σ n=some ⟨some 10,[c0,c1,c2,c3,c4,c5,c6,c7,c8,c9],.live⟩):ev ce σ 0 [] (λ_=>.ptr n (aC (some 10)) 0) (.ld (.v 0) (some 10))=some (.agg [c0,c1,c2,c3,c4,c5,c6,c7,c8,c9],none):=by
 have hu:upto σ n (aC (some 10))=some ⟨some 10,[c0,c1,c2,c3,c4,c5,c6,c7,c8,c9],.live⟩:=by unfold upto;rw[h];rfl
 simp only[ev,hu]
 rfl
theorem UW (n:ak) (hn:n.Ok) (k:Nat) (hk:k<=128) (oq:k*n.calls.toNat<=128):LX L wU [n.av,.int k] [] (λr τ=>r = .agg ((n.dO k k).bX (fp (n.aB k)))/\AS (n.dO k k) (fp (n.aB k)) τ):=by
 refine ai7 rfl ?_;have hc:=hn.calls;have hi:=hn.aj;have hr:=hn.aq;have hmul:(k:Int)*n.calls=((k*n.calls.toNat:Nat):Int):=by rw[oE];congr 1;omega
 have bV:max 1 ((k:Int)*n.calls)=((n.aB k:Nat):Int):=by rw[hmul];unfold ak.aB;omega
 have Kb:n.aB k<=128:=by unfold ak.aB;omega
 have hkc:0<=(k:Int)*n.calls/\(k:Int)*n.calls<=128:=by rw[hmul];exact⟨Int.natCast_nonneg _,Int.ofNat_le.2 oq⟩
 simp[-ao,-List.map_replicate,bV];refine⟨by omega,by omega,?_⟩
 refine bu (λq:Nat×List ag=>[(3,.int q.1)]) (λq=>q.2) (λq=>q.1<=k/\AS (n.dO k q.1) (fp (n.aB k)) q.2/\al q.2 2=some ⟨some 10,(n.dO k q.1).bX (fp (n.aB k)),.live⟩/\q.2.length=fB (n.aB k) q.1/\al q.2 0=some ⟨some 10,[.int 0,.int 0,.int 0,.int 0,.int 0,.ah,.ah,.ah,.ah,.ah],.live⟩) (λq=>k-q.1) (0,[⟨some 10,[.int 0,.int 0,.int 0,.int 0,.int 0,.ah,.ah,.ah,.ah,.ah],.live⟩,⟨none,(List.replicate k false).map .bool,.live⟩,⟨some 10,[.int n.calls,.int n.aj,.int n.aq,.int ((n.aB k:Nat):Int),.int 0,.sl 1 k 0 k,.ah,.ah,.ah,.ah],.live⟩]) (by simp[bY]) ⟨by simp,UR,by simp[al,ak.bX,ak.dO,cT,fp],by simp[fB],by simp[al]⟩ ?_
 rintro⟨s,σ⟩ ⟨s0,hA,xR,hlen,ni⟩;dsimp only at s0 hA xR hlen ni ⊢
 by_cases hs:s<k
 ·have hsc:0<=(s:Int)*n.calls/\(s:Int)*n.calls<=128:=⟨Int.mul_nonneg (by omega) hc.1,by have:=Int.mul_le_mul_of_nonneg_right (show(s:Int)<=k by omega) hc.1;omega⟩
  simp[-ao,hs];refine bu (λc:Nat=>[(5,.int c),(7,.sl σ.length c 0 c)]) (λc=>σ ++ [fy (n.vS s c)]) (λc=>c<=n.calls.toNat) (λc=>n.calls.toNat-c) 0 (by simp[bY,ak.vS]) (by omega) ?_
  intro c c0
  by_cases lL:c<n.calls.toNat
  ·have r9:=bH (show(c:Int)<n.calls by omega)
   have hb:=λB:ag=>(iA (Q:=σ) (r:=[]) (B:=B));have Bh:=ant (n:=n) (s:=s) (j:=c);have hZ:=KG (n:=n) (s:=s) (j:=c);generalize n.vS s c=P at *;simp[-ao,r9,hb,hZ];refine⟨by omega,by omega,by split<;>rfl,by omega,by omega,aX (c+1) (by simp) ?_ (by omega) (by omega)⟩
   rw[Ap,Bh];simp[fy]
  ·have r9:=gl (show ¬(c:Int)<n.calls by omega)
   have ec:c=n.calls.toNat:=by omega
   have UX:∀r:List ag,al (σ++r) 2=_:=λr=>gn (r:=r) xR;rw[xg]at UX;have hZ:=KG (n:=n) (s:=s) (j:=c);simp[-ao,-List.map_replicate,-Int.toNat_natCast,r9,UX];simp only[kG,<-UT (a:=σ.length+2) (r:=n.aq.toNat)];refine⟨by omega,?_⟩
   refine bu (λq:Nat×List ag=>[(12,.int q.1)]) (λq=>q.2) (λq=>q.1<=n.aB k/\(∀b,b<σ.length->al q.2 b=al σ b)/\al q.2 σ.length=some (fy (n.vS s c))/\al q.2 (σ.length+1)=some (KJ (σ.length+2) (n.aB k) n.aq.toNat q.1)/\(∀g,g<q.1->al q.2 (σ.length+2+g)=some (Zb (List.replicate n.aq.toNat 0)))/\q.2.length=σ.length+2+q.1) (λq=>n.aB k-q.1) (0,σ ++ [fy (n.vS s c),KJ (σ.length+2) (n.aB k) n.aq.toNat 0]) (by simp[bY]) ⟨by simp,λb hb=>by rw[bE,bE,List.getElem?_append_left hb],iA,JS,λg h=>by dsimp only at h;omega,by simp⟩ ?_
   rintro⟨g,τ⟩ ⟨g0,nq,hP,hR,hG,aK⟩;dsimp only at g0 nq hP hR hG aK ⊢
   by_cases hg:g<n.aB k
   ·unfold KJ at hR
    have hR2:∀B:ag,al (τ ++ [B]) (σ.length+1)=_:=λB=>gn (r:=[B]) hR;simp[-ao,-List.map_replicate,hg,hR,hR2];refine⟨by omega,by omega,by omega,aX (g+1,_) (by simp) rfl ⟨by dsimp only;omega,λb hb=>?_,?_,?_,λi hi=>?_,?_⟩ (by dsimp only;omega)⟩
    ·dsimp only
     rw[aP (by omega),<-nq b hb,bE,bE,fw (by omega)]
    ·dsimp only
     rw[aP (by omega)];exact gn hP
    ·dsimp only
     rw[cH (by simp;omega)]
     show some (⟨none,_,.live⟩:ag)=_;rw[aK];rw[show(AV.sl (σ.length+2+g) n.aq.toNat 0 n.aq.toNat).cells=[iD (σ.length+2+g) n.aq.toNat]from rfl,rP,anu];rfl
    ·dsimp only at hi ⊢
     rw[aP (by omega)]
     by_cases e:i=g
     ·subst e
      rw[<-aK];exact iA
     ·exact gn (hG i (by omega))
    ·dsimp only
     rw[cg,bz,aK];simp;omega
   ·have eg:g=n.aB k:=by omega
    subst eg;have u5:=(nq 2 (by rw[hlen];unfold fB;split<;>omega)).trans xR
    rw[xg]at u5
    by_cases hz:s=0
    ·subst hz
     rw[show cT (6+n.aB k) 0 = .ah from rfl,show cT (7+n.aB k) 0 = .ah from rfl,show cT (9+n.aB k) 0 = .ah from rfl,show cT (10+n.aB k) 0 = .ah from rfl]at u5;have l2:2<τ.length:=by omega
     have a2:=xh l2;have s2:=US l2;simp[-ao,-List.map_replicate,u5,a2,s2,Nat.le_add_right_of_le,cg];have qk : σ.length=3:=hlen;refine⟨by omega,by omega,aX (1,_) (by simp) rfl ⟨by dsimp only;omega,UQ hA (λt B t1 t2 hB=>?_) (λq=>?_) ?_ ?_ ?_ ?_ ?_ (λg hg=>?_),?_,?_,?_⟩ (by dsimp only;omega)⟩
     ·have f1:=hA.lt hB
      have f2:=(KL (pD hB)).1;have:=hA.has t B hB;rw[<-nq _ f1]at this;simp(disch:=((try simp only[cg,bz,cy,dF]);omega)) only[aP,gq]
      exact this
     ·rw[G2]
      cases q
      ·rw[show fp (n.aB k) (.ls .cl)=τ.length+1 by simp[fp];omega]
       simp(disch:=((try simp only[cg,bz,cy,dF]);omega)) only[aP,gq]
       rw[JS,show τ.length=fp (n.aB k) (.rw .cl 0)by simp[fp,fB];omega];rfl
      ·rw[show fp (n.aB k) (.ls .ps)=τ.length+2 by simp[fp];omega]
       simp(disch:=((try simp only[cg,bz,cy,dF]);omega)) only[aP,gq]
       rw[al5,qk, ec];rfl
      ·rw[show fp (n.aB k) (.ls .aR)=τ.length+3+1 by simp[fp];omega]
       simp(disch:=((try simp only[cg,bz,cy,dF]);omega)) only[aP]
       rw[FG (m:=1) (by simp only[cg,bz,cy,dF];try omega),show τ.length+3=fp (n.aB k) (.rw .aR 0)by simp[fp,fB];omega];rfl
     ·rw[G3,show fp (n.aB k) .po=τ.length+3+2 by simp[fp];omega]
      simp(disch:=((try simp only[cg,bz,cy,dF]);omega)) only[aP]
      rw[FG (m:=2) (by simp only[cg,bz,cy,dF];try omega),qk];try rfl
     ·rw[show fp (n.aB k) (.rw .cl 0)=τ.length by simp[fp,fB];omega]
      simp(disch:=((try simp only[cg,bz,cy,dF]);omega)) only[aP,gq]
      exact iA
     ·rw[show fp (n.aB k) (.rw .ps 0)=σ.length by rw[qk];rfl]
      simp(disch:=((try simp only[cg,bz,cy,dF]);omega)) only[aP,gq]
      rw[hP,ec]
     ·rw[show fp (n.aB k) (.rw .aR 0)=τ.length+3 by simp[fp,fB];omega]
      simp(disch:=((try simp only[cg,bz,cy,dF]);omega)) only[aP]
      rw[FG (m:=0) (by simp only[cg,bz,cy,dF];try omega)]
     ·rw[show fp (n.aB k) (.pr 0)=σ.length+1 by rw[qk];rfl]
      simp(disch:=((try simp only[cg,bz,cy,dF]);omega)) only[aP,gq]
      rw[hR,UU (s:=0) (by rw[qk];rfl)]
     ·rw[show fp (n.aB k) (.pg 0 g)=σ.length+2+g by rw[qk];rfl]
      simp(disch:=((try simp only[cg,bz,cy,dF]);omega)) only[aP,gq]
      exact hG g hg
     ·dsimp only
      rw[cH (by simp only[cg,bz,cy,dF];try omega),xg,show cT (6+n.aB k) 1 = .sl (6+n.aB k) 1 0 1 from rfl,show cT (7+n.aB k) 1 = .sl (7+n.aB k) 1 0 1 from rfl,show cT (9+n.aB k) 1 = .sl (9+n.aB k) 1 0 1 from rfl,show cT (10+n.aB k) 1 = .sl (10+n.aB k) 1 0 1 from rfl,show τ.length+1=6+n.aB k by omega,show τ.length+2=7+n.aB k by omega,show τ.length+3+1=9+n.aB k by omega,show τ.length+3+2=10+n.aB k by omega]
     ·dsimp only
      rw[anp];simp only[cg,bz,cy,dF];omega
     ·dsimp only
      simp(disch:=((try simp only[cg,bz,cy,dF]);omega)) only[aP,gq]
      rw[nq 0 (by omega)];exact ni
    ·rw[show cT (6+n.aB k) s = .sl (6+n.aB k) s 0 s from ab hz,show cT (7+n.aB k) s = .sl (7+n.aB k) s 0 s from ab hz,show cT (9+n.aB k) s = .sl (9+n.aB k) s 0 s from ab hz,show cT (10+n.aB k) s = .sl (10+n.aB k) s 0 s from ab hz]at u5
     have hB:=FE (k:=n.aB k) hz;have lk:∀q:Kd,al τ (fp (n.aB k) (.ls q))=some (FF n k q s):=λq=>(nq _ (by cases q<;>simp[fp]<;>omega)).trans (hA.has (.ls q) _ (UN hz))
     have b10:al τ (10+n.aB k)=some (L9 n k s):=(nq _ (by omega)).trans (hA.has .po _ (UO hz))
     have b6:al τ (6+n.aB k)=some (FF n k .cl s):=lk .cl;have b7:al τ (7+n.aB k)=some (FF n k .ps s):=lk .ps;have b9:al τ (9+n.aB k)=some (FF n k .aR s):=lk .aR;have a2:=xh (τ:=τ) (i:=2) (by omega)
     have a6:=xh (τ:=τ) (i:=6+n.aB k) (by omega)
     have a7:=xh (τ:=τ) (i:=7+n.aB k) (by omega)
     have a9:=xh (τ:=τ) (i:=9+n.aB k) (by omega)
     have a10:=xh (τ:=τ) (i:=10+n.aB k) (by omega)
     have s2:=US (τ:=τ) (i:=2) (by omega)
     have n1:=og (i:=6+n.aB k) (j:=7+n.aB k) (by omega)
     have n2:=og (i:=6+n.aB k) (j:=2) (by omega)
     have n3:=og (i:=7+n.aB k) (j:=2) (by omega)
     have n4:=og (i:=6+n.aB k) (j:=9+n.aB k) (by omega)
     have n5:=og (i:=7+n.aB k) (j:=9+n.aB k) (by omega)
     have n6:=og (i:=2) (j:=9+n.aB k) (by omega)
     have n7:=og (i:=6+n.aB k) (j:=10+n.aB k) (by omega)
     have n8:=og (i:=7+n.aB k) (j:=10+n.aB k) (by omega)
     have n9:=og (i:=9+n.aB k) (j:=10+n.aB k) (by omega)
     have n10:=og (i:=2) (j:=10+n.aB k) (by omega)
     have n11:=og (i:=9+n.aB k) (j:=2) (by omega)
     have n12:=og (i:=10+n.aB k) (j:=2) (by omega)
     unfold FF at b6 b7 b9;unfold L9 at b10;simp[-ao,-List.map_replicate,u5,a2,a6,a7,a9,a10,s2,Nat.le_add_right_of_le,n1,n2,n3,n4,n5,n6,n7,n8,n9,n10,n11,n12,b6,b7,b9,b10,cg];refine⟨by omega,by omega,by omega,by omega,by omega,aX (s+1,_) (by simp) rfl ⟨by dsimp only;omega,UQ hA (λt B t1 t2 hB=>?_) (λq=>?_) ?_ ?_ ?_ ?_ ?_ (λg hg=>?_),?_,?_,?_⟩ (by dsimp only;omega)⟩
     ·have f1:=hA.lt hB
      have f2:=(KL (pD hB)).1;have f6:fp (n.aB k) t ≠ 6+n.aB k:=λe=>t1 .cl (xe (pD hB) trivial e);have f7:fp (n.aB k) t ≠ 7+n.aB k:=λe=>t1 .ps (xe (pD hB) trivial e);have f9:fp (n.aB k) t ≠ 9+n.aB k:=λe=>t1 .aR (xe (pD hB) trivial e);have f10:fp (n.aB k) t ≠ 10+n.aB k:=λe=>t2 (xe (pD hB) trivial e);have:=hA.has t B hB;rw[<-nq _ f1]at this;simp(disch:=((try simp only[cg,bz,cy,dF]);omega)) only[aP,gq]
      exact this
     ·rw[G2]
      cases q
      ·rw[show fp (n.aB k) (.ls .cl)=6+n.aB k from rfl]
       simp(disch:=((try simp only[cg,bz,cy,dF]);omega)) only[aP,gq]
       rw[cH (by simp only[cg,bz,cy,dF];try omega),show τ.length=fp (n.aB k) (.rw .cl s)by simp[fp];omega];rfl
      ·rw[show fp (n.aB k) (.ls .ps)=7+n.aB k from rfl]
       simp(disch:=((try simp only[cg,bz,cy,dF]);omega)) only[aP,gq]
       rw[cH (by simp only[cg,bz,cy,dF];try omega),hlen,ec];rfl
      ·rw[show fp (n.aB k) (.ls .aR)=9+n.aB k from rfl]
       simp(disch:=((try simp only[cg,bz,cy,dF]);omega)) only[aP,gq]
       rw[cH (by simp only[cg,bz,cy,dF];try omega),show τ.length+1=fp (n.aB k) (.rw .aR s)by simp[fp,hz];omega];rfl
     ·rw[G3,show fp (n.aB k) .po=10+n.aB k from rfl]
      simp(disch:=((try simp only[cg,bz,cy,dF]);omega)) only[aP,gq]
      rw[cH (by simp only[cg,bz,cy,dF];try omega),hlen];rfl
     ·rw[show fp (n.aB k) (.rw .cl s)=τ.length by simp[fp];omega]
      simp(disch:=((try simp only[cg,bz,cy,dF]);omega)) only[aP,gq]
      exact iA
     ·rw[show fp (n.aB k) (.rw .ps s)=σ.length by rw[hlen];rfl]
      simp(disch:=((try simp only[cg,bz,cy,dF]);omega)) only[aP,gq]
      rw[hP,ec]
     ·rw[show fp (n.aB k) (.rw .aR s)=τ.length+1 by simp[fp,hz];omega]
      simp(disch:=((try simp only[cg,bz,cy,dF]);omega)) only[aP]
      rw[FG (m:=0) (by simp only[cg,bz,cy,dF];try omega)]
     ·rw[show fp (n.aB k) (.pr s)=σ.length+1 by rw[hlen];rfl]
      simp(disch:=((try simp only[cg,bz,cy,dF]);omega)) only[aP,gq]
      rw[hR,UU (s:=s) (by rw[hlen])]
     ·rw[show fp (n.aB k) (.pg s g)=σ.length+2+g by rw[hlen];rfl]
      simp(disch:=((try simp only[cg,bz,cy,dF]);omega)) only[aP,gq]
      exact hG g hg
     ·dsimp only
      rw[cH (by simp only[cg,bz,cy,dF];try omega),xg]
      rfl
     ·dsimp only
      rw[anq hz];simp only[cg,bz,cy,dF];omega
     ·dsimp only
      simp(disch:=((try simp only[cg,bz,cy,dF]);omega)) only[aP,gq]
      rw[nq 0 (by omega)];exact ni
 ·have es:s=k:=by omega
  subst es;rw[xg]at xR;have UY:∀b m:Nat,dL (cT b m)=true:=λb m=>by unfold cT;split<;>rfl
  have iy:∀B:ag,al (az σ 0 B) 0=some B:=λB=>cH (by rw[hlen];unfold fB;split<;>omega)
  have vE:=λ(ce:CE) (c0 c1 c2 c3 c4 c5 c6 c7 c8 c9:AV)=>rT (ce:=ce) (σ:=az σ 0 ⟨some 10,[c0,c1,c2,c3,c4,c5,c6,c7,c8,c9],.live⟩) (n:=0) (iy _);simp[-ao,xR,ni,UY,iy,vE];exact⟨xg.symm,hA.other λt B hB=>aP (Ne.symm (KL (pD hB)).2)⟩
end Ab
