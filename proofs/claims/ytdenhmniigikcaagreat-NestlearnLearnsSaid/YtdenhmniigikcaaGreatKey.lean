/- Functions of the library and small laws on lists that many proofs share. Condition: none. -/
import Derived.Test.YtdenhmniigikcaaGreatIr
import Derived.Test.YtdenhmniigikcaaGreatAbL
set_option linter.all false
set_option maxRecDepth 100000
set_option maxHeartbeats 4000000
open Option renaming some->aa,none->ab
open Bool renaming true->ad,false->ae
open List renaming range->af,length->ah
namespace Ab
noncomputable abbrev PC:=Aj L
@[simp] theorem arO {n:Nat}:pZ n .live = .live:=rfl
@[simp] theorem arP {n:Nat}:pZ n .jN = .jN:=rfl
@[simp] theorem arQ {n:Nat}:pZ n .dead = .dead:=rfl
def idx{a:Type}(p:a->Bool) (xs:List a):Int:=match xs.findIdx? p with
 |some i=>i
 |none=>-1
variable{α:Type}{i:Int}
def T2 [Inhabited α]{p:α->Bool}{xs:List α}(b:0<=i) (d:i<ah xs) (h:p (ix xs i)=ad) (a:∀j,0<=j->j<i->p (ix xs j)=ae):idx p xs=i:=by
 have e:xs.findIdx? p=aa i.toNat:=by
  rw[List.findIdx?_eq_some_iff_getElem];refine⟨ax,?_,λj g=>?_⟩
  .rw[<-bt ax,show((i.toNat:Nat):Int)=i by omega];exact h
  .have:=a j ax ax
   rw[bt ax]at this
   simp[this]
 unfold idx;rw[e];simp;omega
def T4 [Inhabited α]{p:α->Bool}{xs:List α}(a:∀j,0<=j->j<(ah xs:Int)->p (ix xs j)=ae):idx p xs = -1:=by
 have e:xs.findIdx? p=ab:=by
  rw[List.findIdx?_eq_none_iff];intro x b;obtain⟨i,d,rfl⟩:=fY.1 b;rw[<-bt d];exact a i ax ax
 unfold idx;rw[e]
def T5{p:α->Bool}{xs:List α}:decide (0<=idx p xs)=xs.any p:=by
 unfold idx;cases h:xs.findIdx? p with
 |none=>
  rw[List.findIdx?_eq_none_iff]at h;simp;intro x a;simpa using h x a
 |some i=>
  rw[List.findIdx?_eq_some_iff_getElem]at h;obtain⟨b,d,_⟩:=h;simp;exact⟨_,List.getElem_mem b,d⟩
def fZ (f:Int->Int) (n:Int):Int:=(((af n.toNat).map λi=>f (i:Nat)).find? λx=>x != 0).getD 0
variable{f:Int->Int}{n:Int}
def E1(b:0<=i) (d:i<n) (h:f i ≠ 0) (a:∀j,0<=j->j<i->f j=0):fZ f n=f i:=by
 have e:(((af n.toNat).map λi=>f (i:Nat)).find? λx=>x != 0)=aa (f i):=by
  rw[List.find?_eq_some_iff_getElem];refine⟨du,i.toNat,aT,by simp;congr 1;omega,λj g=>?_⟩
  simp;exact a j ax ax
 unfold fZ;rw[e];rfl
def BU(b:∀j,0<=j->j<n->f j=0):fZ f n=0:=by
 have e:(((af n.toNat).map λi=>f (i:Nat)).find? λx=>x != 0)=ab:=by
  rw[List.find?_eq_none];simp;intro a d;exact b a ax ax
 unfold fZ;rw[e];rfl
def E3:fZ f n=0↔∀j,0<=j->j<n->f j=0:=by
 constructor
 .intro h j b d
  unfold fZ at h;cases e:(((af n.toNat).map λi=>f (i:Nat)).find? λx=>x != 0)with
  |none=>
   rw[List.find?_eq_none]at e;simp at e;have:=e j.toNat ax
   rwa [show((j.toNat:Nat):Int)=j by omega]at this
  |some x=>
   have a:=List.find?_some e;rw[e]at h;simp at h a;exact absurd h a
 .exact BU
variable{P:Int->Prop}
def iY(h:P i) (d:∀j,0<=j->j<i->P j):∀j,0<=j->j<i+1->P j:=by
 intro j a b
 by_cases e:j=i
 .subst e;exact h
 .exact d j a ax
def oQ:∀j,0<=j->j<(0:Int)->P j:=λj a b=>ax
def ame (xs:ak) (f:Nat) (d:ao) (p:Int->Bool) (q:(ah xs:Int)<=9223372036854775807) (m:aY d=ad)
  (n:∀x∈xs,PC f (.int x::d.map wk)=aa (.bool (p x))):PC Lc [iL xs,.func f d]=aa (.int (idx p xs)):=by
 refine cB (akY rfl ?_);simp;refine bB (λi:Int=>[(2,.int i)]) (λ_=>[]) (λi=>0<=i/\i<=ah xs/\∀j,0<=j->j<i->p (ix xs j)=ae) (λi=>(ah xs-i).toNat) 0 rfl aT λi ⟨g,r,l⟩=>?_
 by_cases e:i<ah xs
 .have o:=n _ (bh g e)
  simp[e,g,m,o];exact⟨λh=>(T2 g e h l).symm,λh=>⟨ax,⟨ax,ax,iY h l⟩,ax⟩⟩
 .simp[e]
  rw[T4 λj a b=>l j a ax]
def T6 (xs:ak) (f:Nat) (a:ao) (p:Int->Bool) (e:(ah xs:Int)<=9223372036854775807) (b:aY a=ad) (d:a.map wk=a)
  (g:∀x∈xs,PC f (.int x::a)=aa (.bool (p x))):PC BQ [iL xs,.func f a]=aa (.bool (xs.any p)):=by
 refine cB (akG rfl ?_);simp[b,d,ame xs f a p e b (by rw[d];exact g)]
 exact T5
def iK (k x:Int):Bool:=decide (x<0)||decide (k<=x)
variable{k x:Int}
def Lk:iK k x=ae↔0<=x/\x<k:=by simp[iK]
def bad (xs:ak) (k:Int):Bool:=xs.any (iK k)
variable{xs:ak}
def BV:bad xs k=ae↔∀x∈xs,0<=x/\x<k:=by
 simp[bad,List.any_eq_false,iK]
def rQ:bad xs k=ae↔∀j,0<=j->j<(ah xs:Int)->0<=ix xs j/\ix xs j<k:=by
 rw[BV];constructor
 .exact λh j a b=>h _ (bh a b)
 .intro h x d
  obtain⟨i,e,rfl⟩:=fY.1 d;rw[<-bt e];exact h i ax ax
def uY{j:Int}(a:0<=j) (b:j<ah xs) (h:iK k (ix xs j)=ad):bad xs k=ad:=by
 cases d:bad xs k with
 |true=>rfl
 |false=>rw[Lk.2 (rQ.1 d j a b)]at h;exact h
def xX(h:∀j,0<=j->j<(ah xs:Int)->iK k (ix xs j)=ae):bad xs k=ae:=
 rQ.2 λj a b=>Lk.1 (h j a b)
def amf:(!iK k x)=(decide (0<=x)&&decide (x<k)):=by
 rw[nm];simp[iK]
variable{β:Type}
def T7 [Inhabited β]{f:α->β->α}{a:α}{w:List β}(b:0<=i) (d:i<ah w):(w.take (i+1).toNat).foldl f a=f ((w.take i.toNat).foldl f a) (ix w i):=by
 have e:w.take (i+1).toNat=w.take i.toNat ++ [ix w i]:=by
  rw[show(i+1).toNat=i.toNat+1 by omega,pE,mf b d]
  rfl
 rw[e,List.foldl_append];rfl
def T8{f:α->β->α}{a:α}{w:List β}(h:(ah w:Int)<=i):(w.take i.toNat).foldl f a=w.foldl f a:=by
 rw[gN ax]
def iZ (w:ak) (k:Int):Int:=if k<1\/1024<k then 2 else if 1024<(ah w:Int)then 3 else if bad w k=ad then 1 else 0
def amg (x k:Int):PC BR [.int x,.bN (.int k)]=aa (.bool (iK k x)):=by
 refine cB (akH rfl ?_);simp[iK];omega
def amh (k:Int):PC K7 [.int k]=aa (.bool (decide (1<=k)&&decide (k<=1024))):=by
 refine cB (akF rfl ?_);simp;omega
def ami (w:ak) (k:Int) (g:(ah w:Int)<=9223372036854775807):PC EJ [iL w,.int k]=aa (.int (iZ w k)):=by
 refine cB (aj8 rfl ?_);have d:=amh k
 by_cases e:k<1\/1024<k
 .simp[d,show(decide (1<=k)&&decide (k<=1024))=ae by simp;omega]
  simp[iZ,e]
 have h:PC BQ [iL w,.func BR [.bN (.int k)]]=aa (.bool (bad w k)):=T6 w BR [.bN (.int k)] (iK k) g rfl rfl (λx _=>amg x k);simp[d,show(decide (1<=k)&&decide (k<=1024))=ad by simp;omega,h]
 simp only[iZ,aC e];exact⟨λa=>gf,λa=>⟨λb=>by simp[b];omega,λb=>by simp[b];omega⟩⟩
def lZ [Inhabited α]{w:List α}{k:Nat}(h:k<ah w):w.take (k+1)=w.take k ++ [ix w (k:Int)]:=by
 rw[pE,dG h,bt h];rfl
def wQ [Inhabited α]{l m:List α}(a:ah l=ah m) (h:∀s:Int,0<=s->s<(ah l:Int)->ix l s=ix m s):l=m:=gF a λn b d=>by
 have:=h (n:Int) ax ax
 rwa [bt b,bt d]at this
def fO (l:ak):List UInt8:=l.map λx=>UInt8.ofNat x.toNat
def E4:∀{l:ak},(∀x∈l,0<=x/\x<=255)->bytesOf (l.map (AV.ik 4))=aa (fO l)
 | [],_=>rfl
 |x::l,h=>by
  have a:=h x aA
  have e:=E4 (l:=l) λy b=>h y fS
  have d:byteOf (.ik 4 x)=aa (UInt8.ofNat x.toNat):=aD a;rw[da,bytesOf,d,e];rfl
def E5:∀{l k:ak},(∀x∈l,0<=x/\x<=255)->(∀x∈k,0<=x/\x<=255)->fO l=fO k->l=k
 | [],[],_,_,_=>rfl
 | [],y::k,_,_,h=>by simp[fO]at h
 |x::l,[],_,_,h=>by simp[fO]at h
 |x::l,y::k,b,d,h=>by
  simp only[fO,da,List.cons.injEq]at h;have g:=b x aA
  have i:=d y aA
  have e:x.toNat=y.toNat:=by
   have:=congrArg UInt8.toNat h.1;simp only[UInt8.toNat_ofNat']at this;omega
  rw[E5 (λz a=>b z gf) (λz a=>d z gf) h.2,show x=y by omega]
end Ab
