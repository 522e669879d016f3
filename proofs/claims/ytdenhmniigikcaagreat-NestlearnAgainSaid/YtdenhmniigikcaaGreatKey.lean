/- Functions of the library and small laws on lists that many proofs share. Condition: none. -/
import Derived.Test.YtdenhmniigikcaaGreatIr
import Derived.Test.YtdenhmniigikcaaGreatAbL
set_option linter.all false
set_option maxRecDepth 100000
set_option maxHeartbeats 4000000
namespace Ab
noncomputable abbrev PC:=xD L
@[simp] theorem aqq {n:Nat}:pJ n .live = .live:=rfl
@[simp] theorem aqr {n:Nat}:pJ n .jN = .jN:=rfl
@[simp] theorem aqs {n:Nat}:pJ n .dead = .dead:=rfl
def idx{α:Type}(p:α->Bool) (xs:List α):Int:=match xs.findIdx? p with
 |some i=>i
 |none=>-1
theorem RO{α:Type} [Inhabited α]{p:α->Bool}{xs:List α}{i:Int}(h0:0<=i) (h1:i<xs.length) (h:p (ix xs i)=true) (h2:∀j,0<=j->j<i->p (ix xs j)=false):idx p xs=i:=by
 have e:xs.findIdx? p=some i.toNat:=by
  rw[List.findIdx?_eq_some_iff_getElem];refine⟨by omega,?_,λj hj=>?_⟩
  ·rw[<-aS (by omega),show((i.toNat:Nat):Int)=i by omega];exact h
  ·have:=h2 j (by omega) (by omega)
   rw[aS (by omega)]at this
   simp[this]
 unfold idx;rw[e];simp;omega
theorem RP{α:Type} [Inhabited α]{p:α->Bool}{xs:List α}(h2:∀j,0<=j->j<(xs.length:Int)->p (ix xs j)=false):idx p xs = -1:=by
 have e:xs.findIdx? p=none:=by
  rw[List.findIdx?_eq_none_iff];intro x hx;obtain⟨i,hi,rfl⟩:=fJ.1 hx;rw[<-aS hi];exact h2 i (by omega) (by omega)
 unfold idx;rw[e]
theorem RQ{α:Type}{p:α->Bool}{xs:List α}:decide (0<=idx p xs)=xs.any p:=by
 unfold idx;cases h:xs.findIdx? p with
 |none=>
  rw[List.findIdx?_eq_none_iff]at h;simp;intro x hx;simpa using h x hx
 |some i=>
  rw[List.findIdx?_eq_some_iff_getElem]at h;obtain⟨h1,h2,_⟩:=h;simp;exact⟨_,List.getElem_mem h1,h2⟩
def gq (f:Int->Int) (n:Int):Int:=(((List.range n.toNat).map λi=>f (i:Nat)).find? λx=>x != 0).getD 0
theorem RR{f:Int->Int}{n i:Int}(h0:0<=i) (h1:i<n) (h:f i ≠ 0) (h2:∀j,0<=j->j<i->f j=0):gq f n=f i:=by
 have e:(((List.range n.toNat).map λi=>f (i:Nat)).find? λx=>x != 0)=some (f i):=by
  rw[List.find?_eq_some_iff_getElem];refine⟨by simpa using h,i.toNat,by simp;omega,by simp;congr 1;omega,λj hj=>?_⟩
  simp;exact h2 j (by omega) (by omega)
 unfold gq;rw[e];rfl
theorem IZ{f:Int->Int}{n:Int}(h2:∀j,0<=j->j<n->f j=0):gq f n=0:=by
 have e:(((List.range n.toNat).map λi=>f (i:Nat)).find? λx=>x != 0)=none:=by
  rw[List.find?_eq_none];simp;intro a ha;exact h2 a (by omega) (by omega)
 unfold gq;rw[e];rfl
theorem Ep{f:Int->Int}{n:Int}:gq f n=0↔∀j,0<=j->j<n->f j=0:=by
 constructor
 ·intro h j h0 h1
  unfold gq at h;cases e:(((List.range n.toNat).map λi=>f (i:Nat)).find? λx=>x != 0)with
  |none=>
   rw[List.find?_eq_none]at e;simp at e;have:=e j.toNat (by omega)
   rwa [show((j.toNat:Nat):Int)=j by omega]at this
  |some x=>
   have hx:=List.find?_some e;rw[e]at h;simp at h hx;exact absurd h hx
 ·exact IZ
theorem rI{P:Int->Prop}{i:Int}(h:P i) (h2:∀j,0<=j->j<i->P j):∀j,0<=j->j<i+1->P j:=by
 intro j a b
 by_cases e:j=i
 ·subst e;exact h
 ·exact h2 j a (by omega)
theorem zx{P:Int->Prop}:∀j,0<=j->j<(0:Int)->P j:=λj a b=>by omega
theorem akr (xs:List Int) (f:Nat) (aI:List AV) (p:Int->Bool) (hl:(xs.length:Int)<=9223372036854775807) (hc:ax aI=true)
  (hp:∀x∈xs,PC f (.int x::aI.map wk)=some (.bool (p x))):PC IP [iL xs,.func f aI]=some (.int (idx p xs)):=by
 refine cW (aix rfl ?_);simp;refine bC (λi:Int=>[(2,.int i)]) (λ_=>[]) (λi=>0<=i/\i<=xs.length/\∀j,0<=j->j<i->p (ix xs j)=false) (λi=>(xs.length-i).toNat) 0 rfl (by simp;omega) λi ⟨h0,h1,h2⟩=>?_
 by_cases hi:i<xs.length
 ·have hq:=hp _ (aZ h0 hi)
  simp[hi,h0,hc,hq];exact⟨λh=>(RO h0 hi h h2).symm,λh=>⟨by omega,⟨by omega,by omega,rI h h2⟩,by omega⟩⟩
 ·simp[hi]
  rw[RP λj a b=>h2 j a (by omega)]
theorem RS (xs:List Int) (f:Nat) (aI:List AV) (p:Int->Bool) (hl:(xs.length:Int)<=9223372036854775807) (hc:ax aI=true) (hw:aI.map wk=aI)
  (hp:∀x∈xs,PC f (.int x::aI)=some (.bool (p x))):PC zq [iL xs,.func f aI]=some (.bool (xs.any p)):=by
 refine cW (aii rfl ?_);simp[hc,hw,akr xs f aI p hl hc (by rw[hw];exact hp)]
 exact RQ
def qm (k x:Int):Bool:=decide (x<0)||decide (k<=x)
def bad (xs:List Int) (k:Int):Bool:=xs.any (qm k)
theorem Gc{xs:List Int}{k:Int}:bad xs k=false↔∀x∈xs,0<=x/\x<k:=by
 simp[bad,List.any_eq_false,qm]
theorem tj{xs:List Int}{k:Int}:bad xs k=false↔∀j,0<=j->j<(xs.length:Int)->0<=ix xs j/\ix xs j<k:=by
 rw[Gc];constructor
 ·exact λh j a b=>h _ (aZ a b)
 ·intro h x hx
  obtain⟨i,hi,rfl⟩:=fJ.1 hx;rw[<-aS hi];exact h i (by omega) (by omega)
theorem RT{α β:Type} [Inhabited β]{f:α->β->α}{a:α}{w:List β}{i:Int}(h0:0<=i) (h1:i<w.length):(w.take (i+1).toNat).foldl f a=f ((w.take i.toNat).foldl f a) (ix w i):=by
 have e:w.take (i+1).toNat=w.take i.toNat ++ [ix w i]:=by
  rw[show(i+1).toNat=i.toNat+1 by omega,nH,lZ h0 h1]
  rfl
 rw[e,List.foldl_append];rfl
theorem RU{α β:Type}{f:α->β->α}{a:α}{w:List β}{i:Int}(h:(w.length:Int)<=i):(w.take i.toNat).foldl f a=w.foldl f a:=by
 rw[gl (by omega)]
def kl (w:List Int) (k:Int):Int:=if k<1\/1024<k then 2 else if 1024<(w.length:Int)then 3 else if bad w k=true then 1 else 0
theorem aks (x k:Int):PC zr [.int x,.bd (.int k)]=some (.bool (qm k x)):=by
 refine cW (aij rfl ?_);simp[qm];omega
theorem akt (k:Int):PC IJ [.int k]=some (.bool (decide (1<=k)&&decide (k<=1024))):=by
 refine cW (aih rfl ?_);simp;omega
theorem aku (w:List Int) (k:Int) (hl:(w.length:Int)<=9223372036854775807):PC D9 [iL w,.int k]=some (.int (kl w k)):=by
 refine cW (ahP rfl ?_);have e1:=akt k
 by_cases hk:k<1\/1024<k
 ·simp[e1,show(decide (1<=k)&&decide (k<=1024))=false by simp;omega]
  simp[kl,hk]
 have e2:PC zq [iL w,.func zr [.bd (.int k)]]=some (.bool (bad w k)):=RS w zr [.bd (.int k)] (qm k) hl rfl rfl (λx _=>aks x k);simp[e1,show(decide (1<=k)&&decide (k<=1024))=true by simp;omega,e2]
 simp only[kl,aa hk];exact⟨λa=>by simp[a],λa=>⟨λb=>by simp[b];omega,λb=>by simp[b];omega⟩⟩
theorem lg{α:Type} [Inhabited α]{w:List α}{k:Nat}(h:k<w.length):w.take (k+1)=w.take k ++ [ix w (k:Int)]:=by
 rw[nH,dc h,aS h];rfl
theorem zy{α:Type} [Inhabited α]{l m:List α}(hl:l.length=m.length) (h:∀s:Int,0<=s->s<(l.length:Int)->ix l s=ix m s):l=m:=mC hl λn h1 h2=>by
 have:=h (n:Int) (by omega) (by omega)
 rwa [aS h1,aS h2]at this
def fe (l:List Int):List UInt8:=l.map λx=>UInt8.ofNat x.toNat
theorem Er:∀{l:List Int},(∀x∈l,0<=x/\x<=255)->bytesOf (l.map (AV.ik 4))=some (fe l)
 | [],_=>rfl
 |x::l,h=>by
  have hx:=h x (by simp)
  have e:=Er (l:=l) λy hy=>h y (by simp[hy])
  have hb:byteOf (.ik 4 x)=some (UInt8.ofNat x.toNat):=ab hx;rw[db,bytesOf,hb,e];rfl
theorem Es:∀{l k:List Int},(∀x∈l,0<=x/\x<=255)->(∀x∈k,0<=x/\x<=255)->fe l=fe k->l=k
 | [],[],_,_,_=>rfl
 | [],y::k,_,_,h=>by simp[fe]at h
 |x::l,[],_,_,h=>by simp[fe]at h
 |x::l,y::k,h1,h2,h=>by
  simp only[fe,db,List.cons.injEq]at h;have hx:=h1 x (by simp)
  have hy:=h2 y (by simp)
  have e:x.toNat=y.toNat:=by
   have:=congrArg UInt8.toNat h.1;simp only[UInt8.toNat_ofNat']at this;omega
  rw[Es (λz hz=>h1 z (by simp[hz])) (λz hz=>h2 z (by simp[hz])) h.2,show x=y by omega]
end Ab
