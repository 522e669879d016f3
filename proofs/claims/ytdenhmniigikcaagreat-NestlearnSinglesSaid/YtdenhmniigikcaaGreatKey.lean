/- Functions of the library and small laws on lists that many proofs share. Condition: none. -/
import Derived.Test.YtdenhmniigikcaaGreatIr
import Derived.Test.YtdenhmniigikcaaGreatAbL
set_option linter.all false
set_option maxRecDepth 100000
set_option maxHeartbeats 4000000
namespace Ab
noncomputable abbrev PC:=rW L
@[simp] theorem aqA {n:Nat}:pV n .live = .live:=rfl
@[simp] theorem aqB {n:Nat}:pV n .gN = .gN:=rfl
@[simp] theorem aqC {n:Nat}:pV n .dead = .dead:=rfl
def idx{a:Type}(p:a->Bool) (xs:List a):Int:=match xs.findIdx? p with
 |some i=>i
 |none=>-1
variable{α:Type}{i:Int}
def Sg [Inhabited α]{p:α->Bool}{xs:List α}(b:0<=i) (d:i<xs.length) (h:p (ix xs i)=true) (a:∀j,0<=j->j<i->p (ix xs j)=false):idx p xs=i:=by
 have e:xs.findIdx? p=some i.toNat:=by
  rw[List.findIdx?_eq_some_iff_getElem];refine⟨aa,?_,λj g=>?_⟩
  .rw[<-aB aa,show((i.toNat:Nat):Int)=i by omega];exact h
  .have:=a j aa aa
   rw[aB aa]at this
   simp[this]
 unfold idx;rw[e];simp;omega
def Sh [Inhabited α]{p:α->Bool}{xs:List α}(a:∀j,0<=j->j<(xs.length:Int)->p (ix xs j)=false):idx p xs = -1:=by
 have e:xs.findIdx? p=none:=by
  rw[List.findIdx?_eq_none_iff];intro x b;obtain⟨i,d,rfl⟩:=eL.1 b;rw[<-aB d];exact a i aa aa
 unfold idx;rw[e]
def Si{p:α->Bool}{xs:List α}:decide (0<=idx p xs)=xs.any p:=by
 unfold idx;cases h:xs.findIdx? p with
 |none=>
  rw[List.findIdx?_eq_none_iff]at h;simp;intro x a;simpa using h x a
 |some i=>
  rw[List.findIdx?_eq_some_iff_getElem]at h;obtain⟨b,d,_⟩:=h;simp;exact⟨_,List.getElem_mem b,d⟩
def fx (f:Int->Int) (n:Int):Int:=(((List.range n.toNat).map λi=>f (i:Nat)).find? λx=>x != 0).getD 0
variable{f:Int->Int}{n:Int}
def CS(b:0<=i) (d:i<n) (h:f i ≠ 0) (a:∀j,0<=j->j<i->f j=0):fx f n=f i:=by
 have e:(((List.range n.toNat).map λi=>f (i:Nat)).find? λx=>x != 0)=some (f i):=by
  rw[List.find?_eq_some_iff_getElem];refine⟨cq,i.toNat,ax,by simp;congr 1;omega,λj g=>?_⟩
  simp;exact a j aa aa
 unfold fx;rw[e];rfl
def zO(b:∀j,0<=j->j<n->f j=0):fx f n=0:=by
 have e:(((List.range n.toNat).map λi=>f (i:Nat)).find? λx=>x != 0)=none:=by
  rw[List.find?_eq_none];simp;intro a d;exact b a aa aa
 unfold fx;rw[e];rfl
def CT:fx f n=0↔∀j,0<=j->j<n->f j=0:=by
 constructor
 .intro h j b d
  unfold fx at h;cases e:(((List.range n.toNat).map λi=>f (i:Nat)).find? λx=>x != 0)with
  |none=>
   rw[List.find?_eq_none]at e;simp at e;have:=e j.toNat aa
   rwa [show((j.toNat:Nat):Int)=j by omega]at this
  |some x=>
   have a:=List.find?_some e;rw[e]at h;simp at h a;exact absurd h a
 .exact zO
variable{P:Int->Prop}
def lN(h:P i) (d:∀j,0<=j->j<i->P j):∀j,0<=j->j<i+1->P j:=by
 intro j a b
 by_cases e:j=i
 .subst e;exact h
 .exact d j a aa
def r5:∀j,0<=j->j<(0:Int)->P j:=λj a b=>aa
def alx (xs:List Int) (f:Nat) (d:List AV) (p:Int->Bool) (q:(xs.length:Int)<=9223372036854775807) (m:aC d=true)
  (n:∀x∈xs,PC f (.int x::d.map wk)=some (.bool (p x))):PC Hp [iL xs,.func f d]=some (.int (idx p xs)):=by
 refine bZ (akd rfl ?_);simp;refine aK (λi:Int=>[(2,.int i)]) (λ_=>[]) (λi=>0<=i/\i<=xs.length/\∀j,0<=j->j<i->p (ix xs j)=false) (λi=>(xs.length-i).toNat) 0 rfl ax λi ⟨g,r,l⟩=>?_
 by_cases e:i<xs.length
 .have o:=n _ (aJ g e)
  simp[e,g,m,o];exact⟨λh=>(Sg g e h l).symm,λh=>⟨aa,⟨aa,aa,lN h l⟩,aa⟩⟩
 .simp[e]
  rw[Sh λj a b=>l j a aa]
def Sj (xs:List Int) (f:Nat) (a:List AV) (p:Int->Bool) (e:(xs.length:Int)<=9223372036854775807) (b:aC a=true) (d:a.map wk=a)
  (g:∀x∈xs,PC f (.int x::a)=some (.bool (p x))):PC zJ [iL xs,.func f a]=some (.bool (xs.any p)):=by
 refine bZ (ajV rfl ?_);simp[b,d,alx xs f a p e b (by rw[d];exact g)]
 exact Si
def ij (k x:Int):Bool:=decide (x<0)||decide (k<=x)
variable{k x:Int}
def JV:ij k x=false↔0<=x/\x<k:=by simp[ij]
def bad (xs:List Int) (k:Int):Bool:=xs.any (ij k)
variable{xs:List Int}
def EM:bad xs k=false↔∀x∈xs,0<=x/\x<k:=by
 simp[bad,List.any_eq_false,ij]
def qx:bad xs k=false↔∀j,0<=j->j<(xs.length:Int)->0<=ix xs j/\ix xs j<k:=by
 rw[EM];constructor
 .exact λh j a b=>h _ (aJ a b)
 .intro h x d
  obtain⟨i,e,rfl⟩:=eL.1 d;rw[<-aB e];exact h i aa aa
def tw{j:Int}(a:0<=j) (b:j<xs.length) (h:ij k (ix xs j)=true):bad xs k=true:=by
 cases d:bad xs k with
 |true=>rfl
 |false=>rw[JV.2 (qx.1 d j a b)]at h;exact h
def vS(h:∀j,0<=j->j<(xs.length:Int)->ij k (ix xs j)=false):bad xs k=false:=
 qx.2 λj a b=>JV.1 (h j a b)
def aly:(!ij k x)=(decide (0<=x)&&decide (x<k)):=by
 rw[mU];simp[ij]
variable{β:Type}
def Sl [Inhabited β]{f:α->β->α}{a:α}{w:List β}(b:0<=i) (d:i<w.length):(w.take (i+1).toNat).foldl f a=f ((w.take i.toNat).foldl f a) (ix w i):=by
 have e:w.take (i+1).toNat=w.take i.toNat ++ [ix w i]:=by
  rw[show(i+1).toNat=i.toNat+1 by omega,nh,mw b d]
  rfl
 rw[e,List.foldl_append];rfl
def Sp{f:α->β->α}{a:α}{w:List β}(h:(w.length:Int)<=i):(w.take i.toNat).foldl f a=w.foldl f a:=by
 rw[eZ aa]
def kD (w:List Int) (k:Int):Int:=if k<1\/1024<k then 2 else if 1024<(w.length:Int)then 3 else if bad w k=true then 1 else 0
def alz (x k:Int):PC zK [.int x,.a8 (.int k)]=some (.bool (ij k x)):=by
 refine bZ (ajW rfl ?_);simp[ij];omega
def alA (k:Int):PC JM [.int k]=some (.bool (decide (1<=k)&&decide (k<=1024))):=by
 refine bZ (ajU rfl ?_);simp;omega
def alB (w:List Int) (k:Int) (g:(w.length:Int)<=9223372036854775807):PC CC [iL w,.int k]=some (.int (kD w k)):=by
 refine bZ (ajh rfl ?_);have d:=alA k
 by_cases e:k<1\/1024<k
 .simp[d,show(decide (1<=k)&&decide (k<=1024))=false by simp;omega]
  simp[kD,e]
 have h:PC zJ [iL w,.func zK [.a8 (.int k)]]=some (.bool (bad w k)):=Sj w zK [.a8 (.int k)] (ij k) g rfl rfl (λx _=>alz x k);simp[d,show(decide (1<=k)&&decide (k<=1024))=true by simp;omega,h]
 simp only[kD,ad e];exact⟨λa=>fm,λa=>⟨λb=>by simp[b];omega,λb=>by simp[b];omega⟩⟩
def gx [Inhabited α]{w:List α}{k:Nat}(h:k<w.length):w.take (k+1)=w.take k ++ [ix w (k:Int)]:=by
 rw[nh,db h,aB h];rfl
def xc [Inhabited α]{l m:List α}(a:l.length=m.length) (h:∀s:Int,0<=s->s<(l.length:Int)->ix l s=ix m s):l=m:=me a λn b d=>by
 have:=h (n:Int) aa aa
 rwa [aB b,aB d]at this
def fg (l:List Int):List UInt8:=l.map λx=>UInt8.ofNat x.toNat
def CU:∀{l:List Int},(∀x∈l,0<=x/\x<=255)->bytesOf (l.map (AV.ik 4))=some (fg l)
 | [],_=>rfl
 |x::l,h=>by
  have a:=h x ab
  have e:=CU (l:=l) λy b=>h y fj
  have d:byteOf (.ik 4 x)=some (UInt8.ofNat x.toNat):=ae a;rw[cS,bytesOf,d,e];rfl
def CV:∀{l k:List Int},(∀x∈l,0<=x/\x<=255)->(∀x∈k,0<=x/\x<=255)->fg l=fg k->l=k
 | [],[],_,_,_=>rfl
 | [],y::k,_,_,h=>by simp[fg]at h
 |x::l,[],_,_,h=>by simp[fg]at h
 |x::l,y::k,b,d,h=>by
  simp only[fg,cS,List.cons.injEq]at h;have g:=b x ab
  have i:=d y ab
  have e:x.toNat=y.toNat:=by
   have:=congrArg UInt8.toNat h.1;simp only[UInt8.toNat_ofNat']at this;omega
  rw[CV (λz a=>b z fm) (λz a=>d z fm) h.2,show x=y by omega]
end Ab
