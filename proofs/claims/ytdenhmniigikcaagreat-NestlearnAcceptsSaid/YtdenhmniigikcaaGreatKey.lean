/- Functions of the library and small laws on lists that many proofs share. Texts of small numbers. Condition: none. -/
import Derived.Test.YtdenhmniigikcaaGreatIr
import Derived.Test.YtdenhmniigikcaaGreatAbL
set_option linter.all false
set_option maxRecDepth 100000
set_option maxHeartbeats 4000000
namespace Ab
noncomputable abbrev PC:=xM L
@[simp] theorem arp {n:Nat}:pN n .live = .live:=rfl
@[simp] theorem arq {n:Nat}:pN n .jP = .jP:=rfl
@[simp] theorem ars {n:Nat}:pN n .dead = .dead:=rfl
def idx{α:Type}(p:α->Bool) (xs:List α):Int:=match xs.findIdx? p with
 |some i=>i
 |none=>-1
theorem SB{α:Type} [Inhabited α]{p:α->Bool}{xs:List α}{i:Int}(h0:0<=i) (h1:i<xs.length) (h:p (ix xs i)=true) (h2:∀j,0<=j->j<i->p (ix xs j)=false):idx p xs=i:=by
 have e:xs.findIdx? p=some i.toNat:=by
  rw[List.findIdx?_eq_some_iff_getElem];refine⟨by omega,?_,λj hj=>?_⟩
  ·rw[<-aT (by omega),show((i.toNat:Nat):Int)=i by omega];exact h
  ·have:=h2 j (by omega) (by omega)
   rw[aT (by omega)]at this
   simp[this]
 unfold idx;rw[e];simp;omega
theorem SC{α:Type} [Inhabited α]{p:α->Bool}{xs:List α}(h2:∀j,0<=j->j<(xs.length:Int)->p (ix xs j)=false):idx p xs = -1:=by
 have e:xs.findIdx? p=none:=by
  rw[List.findIdx?_eq_none_iff];intro x hx;obtain⟨i,hi,rfl⟩:=fM.1 hx;rw[<-aT hi];exact h2 i (by omega) (by omega)
 unfold idx;rw[e]
theorem SD{α:Type}{p:α->Bool}{xs:List α}:decide (0<=idx p xs)=xs.any p:=by
 unfold idx;cases h:xs.findIdx? p with
 |none=>
  rw[List.findIdx?_eq_none_iff]at h;simp;intro x hx;simpa using h x hx
 |some i=>
  rw[List.findIdx?_eq_some_iff_getElem]at h;obtain⟨h1,h2,_⟩:=h;simp;exact⟨_,List.getElem_mem h1,h2⟩
def fk (f:Int->Int) (n:Int):Int:=(((List.range n.toNat).map λi=>f (i:Nat)).find? λx=>x != 0).getD 0
theorem ER{f:Int->Int}{n i:Int}(h0:0<=i) (h1:i<n) (h:f i ≠ 0) (h2:∀j,0<=j->j<i->f j=0):fk f n=f i:=by
 have e:(((List.range n.toNat).map λi=>f (i:Nat)).find? λx=>x != 0)=some (f i):=by
  rw[List.find?_eq_some_iff_getElem];refine⟨by simpa using h,i.toNat,by simp;omega,by simp;congr 1;omega,λj hj=>?_⟩
  simp;exact h2 j (by omega) (by omega)
 unfold fk;rw[e];rfl
theorem zJ{f:Int->Int}{n:Int}(h2:∀j,0<=j->j<n->f j=0):fk f n=0:=by
 have e:(((List.range n.toNat).map λi=>f (i:Nat)).find? λx=>x != 0)=none:=by
  rw[List.find?_eq_none];simp;intro a ha;exact h2 a (by omega) (by omega)
 unfold fk;rw[e];rfl
theorem ES{f:Int->Int}{n:Int}:fk f n=0↔∀j,0<=j->j<n->f j=0:=by
 constructor
 ·intro h j h0 h1
  unfold fk at h;cases e:(((List.range n.toNat).map λi=>f (i:Nat)).find? λx=>x != 0)with
  |none=>
   rw[List.find?_eq_none]at e;simp at e;have:=e j.toNat (by omega)
   rwa [show((j.toNat:Nat):Int)=j by omega]at this
  |some x=>
   have hx:=List.find?_some e;rw[e]at h;simp at h hx;exact absurd h hx
 ·exact zJ
theorem kM{P:Int->Prop}{i:Int}(h:P i) (h2:∀j,0<=j->j<i->P j):∀j,0<=j->j<i+1->P j:=by
 intro j a b
 by_cases e:j=i
 ·subst e;exact h
 ·exact h2 j a (by omega)
theorem qn{P:Int->Prop}:∀j,0<=j->j<(0:Int)->P j:=λj a b=>by omega
theorem alA (xs:List Int) (f:Nat) (aI:List AV) (p:Int->Bool) (hl:(xs.length:Int)<=9223372036854775807) (hc:ay aI=true)
  (hp:∀x∈xs,PC f (.int x::aI.map wk)=some (.bool (p x))):PC IP [iL xs,.func f aI]=some (.int (idx p xs)):=by
 refine cu (ajv rfl ?_);simp;refine bu (λi:Int=>[(2,.int i)]) (λ_=>[]) (λi=>0<=i/\i<=xs.length/\∀j,0<=j->j<i->p (ix xs j)=false) (λi=>(xs.length-i).toNat) 0 rfl (by simp;omega) λi ⟨h0,h1,h2⟩=>?_
 by_cases hi:i<xs.length
 ·have hq:=hp _ (aU h0 hi)
  simp[hi,h0,hc,hq];exact⟨λh=>(SB h0 hi h h2).symm,λh=>⟨by omega,⟨by omega,by omega,kM h h2⟩,by omega⟩⟩
 ·simp[hi]
  rw[SC λj a b=>h2 j a (by omega)]
theorem SE (xs:List Int) (f:Nat) (aI:List AV) (p:Int->Bool) (hl:(xs.length:Int)<=9223372036854775807) (hc:ay aI=true) (hw:aI.map wk=aI)
  (hp:∀x∈xs,PC f (.int x::aI)=some (.bool (p x))):PC zF [iL xs,.func f aI]=some (.bool (xs.any p)):=by
 refine cu (ajg rfl ?_);simp[hc,hw,alA xs f aI p hl hc (by rw[hw];exact hp)]
 exact SD
def fY (k x:Int):Bool:=decide (x<0)||decide (k<=x)
theorem ET{k x:Int}:fY k x=false↔0<=x/\x<k:=by simp[fY]
def bad (xs:List Int) (k:Int):Bool:=xs.any (fY k)
theorem GJ{xs:List Int}{k:Int}:bad xs k=false↔∀x∈xs,0<=x/\x<k:=by
 simp[bad,List.any_eq_false,fY]
theorem qo{xs:List Int}{k:Int}:bad xs k=false↔∀j,0<=j->j<(xs.length:Int)->0<=ix xs j/\ix xs j<k:=by
 rw[GJ];constructor
 ·exact λh j a b=>h _ (aU a b)
 ·intro h x hx
  obtain⟨i,hi,rfl⟩:=fM.1 hx;rw[<-aT hi];exact h i (by omega) (by omega)
theorem qO{xs:List Int}{k j:Int}(h0:0<=j) (h1:j<xs.length) (h:fY k (ix xs j)=true):bad xs k=true:=by
 cases hb:bad xs k with
 |true=>rfl
 |false=>rw[ET.2 (qo.1 hb j h0 h1)]at h;exact h
theorem tp{xs:List Int}{k:Int}(h:∀j,0<=j->j<(xs.length:Int)->fY k (ix xs j)=false):bad xs k=false:=
 qo.2 λj a b=>ET.1 (h j a b)
theorem alB{k x:Int}:(!fY k x)=(decide (0<=x)&&decide (x<k)):=by
 rw[mF];simp[fY]
theorem SF{α β:Type} [Inhabited β]{f:α->β->α}{a:α}{w:List β}{i:Int}(h0:0<=i) (h1:i<w.length):(w.take (i+1).toNat).foldl f a=f ((w.take i.toNat).foldl f a) (ix w i):=by
 have e:w.take (i+1).toNat=w.take i.toNat ++ [ix w i]:=by
  rw[show(i+1).toNat=i.toNat+1 by omega,nO,l8 h0 h1]
  rfl
 rw[e,List.foldl_append];rfl
theorem SG{α β:Type}{f:α->β->α}{a:α}{w:List β}{i:Int}(h:(w.length:Int)<=i):(w.take i.toNat).foldl f a=w.foldl f a:=by
 rw[gu (by omega)]
def eD (w:List Int) (k:Int):Int:=if k<1\/1024<k then 2 else if 1024<(w.length:Int)then 3 else if bad w k=true then 1 else 0
theorem alC (x k:Int):PC zG [.int x,.bd (.int k)]=some (.bool (fY k x)):=by
 refine cu (ajh rfl ?_);simp[fY];omega
theorem alD (k:Int):PC Js [.int k]=some (.bool (decide (1<=k)&&decide (k<=1024))):=by
 refine cu (ajf rfl ?_);simp;omega
theorem alE (k:Int):PC Jr [.int k]=some (.bool (decide (1<=k)&&decide (k<=1024))):=by
 refine cu (aje rfl ?_);simp;omega
theorem alF (w:List Int) (k:Int) (hl:(w.length:Int)<=9223372036854775807):PC EC [iL w,.int k]=some (.int (eD w k)):=by
 refine cu (aiM rfl ?_);have e1:=alD k
 by_cases hk:k<1\/1024<k
 ·simp[e1,show(decide (1<=k)&&decide (k<=1024))=false by simp;omega]
  simp[eD,hk]
 have e2:PC zF [iL w,.func zG [.bd (.int k)]]=some (.bool (bad w k)):=SE w zG [.bd (.int k)] (fY k) hl rfl rfl (λx _=>alC x k);simp[e1,show(decide (1<=k)&&decide (k<=1024))=true by simp;omega,e2]
 simp only[eD,ab hk];exact⟨λa=>by simp[a],λa=>⟨λb=>by simp[b];omega,λb=>by simp[b];omega⟩⟩
theorem SH (w:List Int) (k:Int) (hl:(w.length:Int)<=9223372036854775807):PC wR [iL w,.int k]=some (.int (eD w k)):=by
 refine cu (aiH rfl ?_);have e1:=alE k
 by_cases hk:k<1\/1024<k
 ·simp[e1,show(decide (1<=k)&&decide (k<=1024))=false by simp;omega]
  simp[eD,hk]
 simp[e1,show(decide (1<=k)&&decide (k<=1024))=true by simp;omega]
 refine⟨λa=>by simp[eD,hk,a],λa=>?_⟩
 refine bu (λi:Int=>[(2,.int i)]) (λ_=>[]) (λi=>0<=i/\i<=w.length/\∀j,0<=j->j<i->fY k (ix w j)=false) (λi=>(w.length-i).toNat) 0 rfl ⟨by omega,by omega,qn⟩ λi ⟨i0,i1,i2⟩=>?_
 by_cases hi:i<w.length
 ·simp[hi,i0]
  have q:fY k (ix w i)=true->1=eD w k:=λh=>by rw[eD,ab hk,ab (by omega),ae (qO i0 hi h)]
  exact⟨λb=>q (by simp[fY,b]),λb=>⟨λc=>q (by simp[fY,c]),λc=>⟨by omega,⟨by omega,by omega,kM (ET.2 ⟨b,c⟩) i2⟩,by omega⟩⟩⟩
 ·simp[hi]
  rw[eD,ab hk,ab (by omega),tp λj a b=>i2 j a (by omega)]
  rfl
theorem lj{α:Type} [Inhabited α]{w:List α}{k:Nat}(h:k<w.length):w.take (k+1)=w.take k ++ [ix w (k:Int)]:=by
 rw[nO,de h,aT h];rfl
theorem zK{α:Type} [Inhabited α]{l m:List α}(hl:l.length=m.length) (h:∀s:Int,0<=s->s<(l.length:Int)->ix l s=ix m s):l=m:=mG hl λn h1 h2=>by
 have:=h (n:Int) (by omega) (by omega)
 rwa [aT h1,aT h2]at this
def ff (l:List Int):List UInt8:=l.map λx=>UInt8.ofNat x.toNat
theorem EU:∀{l:List Int},(∀x∈l,0<=x/\x<=255)->bytesOf (l.map (AV.ik 4))=some (ff l)
 | [],_=>rfl
 |x::l,h=>by
  have hx:=h x (by simp)
  have e:=EU (l:=l) λy hy=>h y (by simp[hy])
  have hb:byteOf (.ik 4 x)=some (UInt8.ofNat x.toNat):=ae hx;rw[dd,bytesOf,hb,e];rfl
theorem EV:∀{l k:List Int},(∀x∈l,0<=x/\x<=255)->(∀x∈k,0<=x/\x<=255)->ff l=ff k->l=k
 | [],[],_,_,_=>rfl
 | [],y::k,_,_,h=>by simp[ff]at h
 |x::l,[],_,_,h=>by simp[ff]at h
 |x::l,y::k,h1,h2,h=>by
  simp only[ff,dd,List.cons.injEq]at h;have hx:=h1 x (by simp)
  have hy:=h2 y (by simp)
  have e:x.toNat=y.toNat:=by
   have:=congrArg UInt8.toNat h.1;simp only[UInt8.toNat_ofNat']at this;omega
  rw[EV (λz hz=>h1 z (by simp[hz])) (λz hz=>h2 z (by simp[hz])) h.2,show x=y by omega]
end Ab
