/- Functions of the library and small laws on lists that many proofs share. Condition: none. -/
import Derived.Test.YtdenhmniigikcaaGreatIr
import Derived.Test.YtdenhmniigikcaaGreatAbL
set_option linter.all false
set_option maxRecDepth 100000
set_option maxHeartbeats 4000000
namespace Ab
noncomputable abbrev PC:=wj L
@[simp] theorem ao4 {n:Nat}:oG n .live = .live:=rfl
@[simp] theorem ao5 {n:Nat}:oG n .jq = .jq:=rfl
@[simp] theorem ao6 {n:Nat}:oG n .dead = .dead:=rfl
def idx{a:Type}(p:a->Bool) (xs:List a):Int:=match xs.findIdx? p with
 |some i=>i
 |none=>-1
variable{α:Type}{i:Int}
theorem PG [Inhabited α]{p:α->Bool}{xs:List α}(b:0<=i) (d:i<xs.length) (h:p (ix xs i)=true) (a:∀j,0<=j->j<i->p (ix xs j)=false):idx p xs=i:=by
 have e:xs.findIdx? p=some i.toNat:=by
  rw[List.findIdx?_eq_some_iff_getElem];refine⟨by omega,?_,λj g=>?_⟩
  .rw[<-aG (by omega),show((i.toNat:Nat):Int)=i by omega];exact h
  .have:=a j (by omega) (by omega)
   rw[aG (by omega)]at this
   simp[this]
 unfold idx;rw[e];simp;omega
theorem PH [Inhabited α]{p:α->Bool}{xs:List α}(a:∀j,0<=j->j<(xs.length:Int)->p (ix xs j)=false):idx p xs = -1:=by
 have e:xs.findIdx? p=none:=by
  rw[List.findIdx?_eq_none_iff];intro x b;obtain⟨i,d,rfl⟩:=fu.1 b;rw[<-aG d];exact a i (by omega) (by omega)
 unfold idx;rw[e]
theorem PI{p:α->Bool}{xs:List α}:decide (0<=idx p xs)=xs.any p:=by
 unfold idx;cases h:xs.findIdx? p with
 |none=>
  rw[List.findIdx?_eq_none_iff]at h;simp;intro x a;simpa using h x a
 |some i=>
  rw[List.findIdx?_eq_some_iff_getElem]at h;obtain⟨b,d,_⟩:=h;simp;exact⟨_,List.getElem_mem b,d⟩
def eO (f:Int->Int) (n:Int):Int:=(((List.range n.toNat).map λi=>f (i:Nat)).find? λx=>x != 0).getD 0
variable{f:Int->Int}{n:Int}
theorem Be(b:0<=i) (d:i<n) (h:f i ≠ 0) (a:∀j,0<=j->j<i->f j=0):eO f n=f i:=by
 have e:(((List.range n.toNat).map λi=>f (i:Nat)).find? λx=>x != 0)=some (f i):=by
  rw[List.find?_eq_some_iff_getElem];refine⟨by simpa using h,i.toNat,by simp;omega,by simp;congr 1;omega,λj g=>?_⟩
  simp;exact a j (by omega) (by omega)
 unfold eO;rw[e];rfl
theorem yd(b:∀j,0<=j->j<n->f j=0):eO f n=0:=by
 have e:(((List.range n.toNat).map λi=>f (i:Nat)).find? λx=>x != 0)=none:=by
  rw[List.find?_eq_none];simp;intro a d;exact b a (by omega) (by omega)
 unfold eO;rw[e];rfl
theorem Bg:eO f n=0↔∀j,0<=j->j<n->f j=0:=by
 constructor
 .intro h j b d
  unfold eO at h;cases e:(((List.range n.toNat).map λi=>f (i:Nat)).find? λx=>x != 0)with
  |none=>
   rw[List.find?_eq_none]at e;simp at e;have:=e j.toNat (by omega)
   rwa [show((j.toNat:Nat):Int)=j by omega]at this
  |some x=>
   have a:=List.find?_some e;rw[e]at h;simp at h a;exact absurd h a
 .exact yd
variable{P:Int->Prop}
theorem gC(h:P i) (d:∀j,0<=j->j<i->P j):∀j,0<=j->j<i+1->P j:=by
 intro j a b
 by_cases e:j=i
 .subst e;exact h
 .exact d j a (by omega)
theorem kH:∀j,0<=j->j<(0:Int)->P j:=λj a b=>by omega
theorem aii (xs:List Int) (f:Nat) (d:List AV) (p:Int->Bool) (q:(xs.length:Int)<=9223372036854775807) (m:ax d=true)
  (n:∀x∈xs,PC f (.int x::d.map wk)=some (.bool (p x))):PC EX [iL xs,.func f d]=some (.int (idx p xs)):=by
 refine bP (ahd rfl ?_);simp;refine aM (λi:Int=>[(2,.int i)]) (λ_=>[]) (λi=>0<=i/\i<=xs.length/\∀j,0<=j->j<i->p (ix xs j)=false) (λi=>(xs.length-i).toNat) 0 rfl (by simp;omega) λi ⟨g,r,l⟩=>?_
 by_cases e:i<xs.length
 .have o:=n _ (aO g e)
  simp[e,g,m,o];exact⟨λh=>(PG g e h l).symm,λh=>⟨by omega,⟨by omega,by omega,gC h l⟩,by omega⟩⟩
 .simp[e]
  rw[PH λj a b=>l j a (by omega)]
theorem PJ (xs:List Int) (f:Nat) (a:List AV) (p:Int->Bool) (e:(xs.length:Int)<=9223372036854775807) (b:ax a=true) (d:a.map wk=a)
  (g:∀x∈xs,PC f (.int x::a)=some (.bool (p x))):PC xZ [iL xs,.func f a]=some (.bool (xs.any p)):=by
 refine bP (agU rfl ?_);simp[b,d,aii xs f a p e b (by rw[d];exact g)]
 exact PI
def gD (k x:Int):Bool:=decide (x<0)||decide (k<=x)
variable{k x:Int}
theorem Hx:gD k x=false↔0<=x/\x<k:=by simp[gD]
def bad (xs:List Int) (k:Int):Bool:=xs.any (gD k)
variable{xs:List Int}
theorem CT:bad xs k=false↔∀x∈xs,0<=x/\x<k:=by
 simp[bad,List.any_eq_false,gD]
theorem o8:bad xs k=false↔∀j,0<=j->j<(xs.length:Int)->0<=ix xs j/\ix xs j<k:=by
 rw[CT];constructor
 .exact λh j a b=>h _ (aO a b)
 .intro h x d
  obtain⟨i,e,rfl⟩:=fu.1 d;rw[<-aG e];exact h i (by omega) (by omega)
theorem rP{j:Int}(a:0<=j) (b:j<xs.length) (h:gD k (ix xs j)=true):bad xs k=true:=by
 cases d:bad xs k with
 |true=>rfl
 |false=>rw[Hx.2 (o8.1 d j a b)]at h;exact h
theorem uu(h:∀j,0<=j->j<(xs.length:Int)->gD k (ix xs j)=false):bad xs k=false:=
 o8.2 λj a b=>Hx.1 (h j a b)
theorem aij:(!gD k x)=(decide (0<=x)&&decide (x<k)):=by
 rw[kY];simp[gD]
variable{β:Type}
theorem PK [Inhabited β]{f:α->β->α}{a:α}{w:List β}(b:0<=i) (d:i<w.length):(w.take (i+1).toNat).foldl f a=f ((w.take i.toNat).foldl f a) (ix w i):=by
 have e:w.take (i+1).toNat=w.take i.toNat ++ [ix w i]:=by
  rw[show(i+1).toNat=i.toNat+1 by omega,k8,ko b d]
  rfl
 rw[e,List.foldl_append];rfl
theorem PL{f:α->β->α}{a:α}{w:List β}(h:(w.length:Int)<=i):(w.take i.toNat).foldl f a=w.foldl f a:=by
 rw[fc (by omega)]
def jO (w:List Int) (k:Int):Int:=if k<1\/1024<k then 2 else if 1024<(w.length:Int)then 3 else if bad w k=true then 1 else 0
theorem aik (x k:Int):PC x4 [.int x,.aV (.int k)]=some (.bool (gD k x)):=by
 refine bP (agV rfl ?_);simp[gD];omega
theorem ail (k:Int):PC Hl [.int k]=some (.bool (decide (1<=k)&&decide (k<=1024))):=by
 refine bP (agT rfl ?_);simp;omega
theorem aim (w:List Int) (k:Int) (g:(w.length:Int)<=9223372036854775807):PC AT [iL w,.int k]=some (.int (jO w k)):=by
 refine bP (agk rfl ?_);have d:=ail k
 by_cases e:k<1\/1024<k
 .simp[d,show(decide (1<=k)&&decide (k<=1024))=false by simp;omega]
  simp[jO,e]
 have h:PC xZ [iL w,.func x4 [.aV (.int k)]]=some (.bool (bad w k)):=PJ w x4 [.aV (.int k)] (gD k) g rfl rfl (λx _=>aik x k);simp[d,show(decide (1<=k)&&decide (k<=1024))=true by simp;omega,h]
 simp only[jO,aa e];exact⟨λa=>by simp[a],λa=>⟨λb=>by simp[b];omega,λb=>by simp[b];omega⟩⟩
theorem jm [Inhabited α]{w:List α}{k:Nat}(h:k<w.length):w.take (k+1)=w.take k ++ [ix w (k:Int)]:=by
 rw[k8,cO h,aG h];rfl
theorem tz [Inhabited α]{l m:List α}(a:l.length=m.length) (h:∀s:Int,0<=s->s<(l.length:Int)->ix l s=ix m s):l=m:=jJ a λn b d=>by
 have:=h (n:Int) (by omega) (by omega)
 rwa [aG b,aG d]at this
def eH (l:List Int):List UInt8:=l.map λx=>UInt8.ofNat x.toNat
theorem Bh:∀{l:List Int},(∀x∈l,0<=x/\x<=255)->bytesOf (l.map (AV.ik 4))=some (eH l)
 | [],_=>rfl
 |x::l,h=>by
  have a:=h x (by simp)
  have e:=Bh (l:=l) λy b=>h y (by simp[b])
  have d:byteOf (.ik 4 x)=some (UInt8.ofNat x.toNat):=ab a;rw[cJ,bytesOf,d,e];rfl
theorem Bj:∀{l k:List Int},(∀x∈l,0<=x/\x<=255)->(∀x∈k,0<=x/\x<=255)->eH l=eH k->l=k
 | [],[],_,_,_=>rfl
 | [],y::k,_,_,h=>by simp[eH]at h
 |x::l,[],_,_,h=>by simp[eH]at h
 |x::l,y::k,b,d,h=>by
  simp only[eH,cJ,List.cons.injEq]at h;have g:=b x (by simp)
  have i:=d y (by simp)
  have e:x.toNat=y.toNat:=by
   have:=congrArg UInt8.toNat h.1;simp only[UInt8.toNat_ofNat']at this;omega
  rw[Bj (λz a=>b z (by simp[a])) (λz a=>d z (by simp[a])) h.2,show x=y by omega]
end Ab
