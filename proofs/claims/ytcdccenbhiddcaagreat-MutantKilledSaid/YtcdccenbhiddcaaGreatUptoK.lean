/- Functions of the library and small laws on lists that many proofs share; and what it leans on. Condition: none. -/
import Derived.Test.YtcdccenbhiddcaaGreatIr
import Derived.Test.YtcdccenbhiddcaaGreatAbL
import Derived.Test.YtcdccenbhiddcaaGreatSuiOk
set_option linter.all false
set_option maxRecDepth 100000
set_option maxHeartbeats 4000000
namespace Ab
noncomputable abbrev PC:=jN L
@[simp] theorem abt {n:Nat}:kN n .live = .live:=rfl
@[simp] theorem abu {n:Nat}:kN n .fN = .fN:=rfl
@[simp] theorem abv {n:Nat}:kN n .dead = .dead:=rfl
def idx{a:Type}(p:a->Bool) (xs:List a):Int:=match xs.findIdx? p with
 |some i=>i
 |none=>-1
variable{α:Type}{i:Int}
def Xg [Inhabited α]{p:α->Bool}{xs:List α}(b:0<=i) (d:i<xs.length) (h:p (ix xs i)=true) (a:∀j,0<=j->j<i->p (ix xs j)=false):idx p xs=i:=by
 have e:xs.findIdx? p=some i.toNat:=by
  rw[List.findIdx?_eq_some_iff_getElem];refine⟨aa,?_,λj f=>?_⟩
  .rw[<-aK aa,show((i.toNat:Nat):Int)=i by omega];exact h
  .have:=a j aa aa
   rw[aK aa]at this
   simp[this]
 unfold idx;rw[e];simp;omega
def Xh [Inhabited α]{p:α->Bool}{xs:List α}(a:∀j,0<=j->j<(xs.length:Int)->p (ix xs j)=false):idx p xs = -1:=by
 have e:xs.findIdx? p=none:=by
  rw[List.findIdx?_eq_none_iff];intro x b;obtain⟨i,d,rfl⟩:=cd.1 b;rw[<-aK d];exact a i aa aa
 unfold idx;rw[e]
def Xi{p:α->Bool}{xs:List α}:decide (0<=idx p xs)=xs.any p:=by
 unfold idx;cases h:xs.findIdx? p with
 |none=>
  rw[List.findIdx?_eq_none_iff]at h;simp;intro x a;simpa using h x a
 |some i=>
  rw[List.findIdx?_eq_some_iff_getElem]at h;obtain⟨b,d,_⟩:=h;simp;exact⟨_,List.getElem_mem b,d⟩
def dv (f:Int->Int) (n:Int):Int:=(((List.range n.toNat).map λi=>f (i:Nat)).find? λx=>x != 0).getD 0
variable{f:Int->Int}{n:Int}
def uW(b:0<=i) (d:i<n) (h:f i ≠ 0) (a:∀j,0<=j->j<i->f j=0):dv f n=f i:=by
 have e:(((List.range n.toNat).map λi=>f (i:Nat)).find? λx=>x != 0)=some (f i):=by
  rw[List.find?_eq_some_iff_getElem];refine⟨ch,i.toNat,ai,by simp;congr 1;omega,λj g=>?_⟩
  simp;exact a j aa aa
 unfold dv;rw[e];rfl
def oH(b:∀j,0<=j->j<n->f j=0):dv f n=0:=by
 have e:(((List.range n.toNat).map λi=>f (i:Nat)).find? λx=>x != 0)=none:=by
  rw[List.find?_eq_none];simp;intro a d;exact b a aa aa
 unfold dv;rw[e];rfl
def Xj:dv f n=0↔∀j,0<=j->j<n->f j=0:=by
 constructor
 .intro h j b d
  unfold dv at h;cases e:(((List.range n.toNat).map λi=>f (i:Nat)).find? λx=>x != 0)with
  |none=>
   rw[List.find?_eq_none]at e;simp at e;have:=e j.toNat aa
   rwa [show((j.toNat:Nat):Int)=j by omega]at this
  |some x=>
   have a:=List.find?_some e;rw[e]at h;simp at h a;exact absurd h a
 .exact oH
variable{P:Int->Prop}
def kB(h:P i) (d:∀j,0<=j->j<i->P j):∀j,0<=j->j<i+1->P j:=by
 intro j a b
 by_cases e:j=i
 .subst e;exact h
 .exact d j a aa
def nE:∀j,0<=j->j<(0:Int)->P j:=λj a b=>aa
def Xk (xs:List Int) (f:Nat) (d:List AV) (p:Int->Bool) (q:(xs.length:Int)<=9223372036854775807) (m:aq d=true)
  (n:∀x∈xs,PC f (.int x::d.map wk)=some (.bool (p x))):PC yJ [iL xs,.func f d]=some (.int (idx p xs)):=by
 refine ba (WG rfl ?_);simp;refine a6 (λi:Int=>[(2,.int i)]) (λ_=>[]) (λi=>0<=i/\i<=xs.length/\∀j,0<=j->j<i->p (ix xs j)=false) (λi=>(xs.length-i).toNat) 0 rfl ai λi ⟨g,r,l⟩=>?_
 by_cases e:i<xs.length
 .have o:=n _ (bt g e)
  simp[e,g,m,o];exact⟨λh=>(Xg g e h l).symm,λh=>⟨aa,⟨aa,aa,kB h l⟩,aa⟩⟩
 .simp[e]
  rw[Xh λj a b=>l j a aa]
def Xl (xs:List Int) (f:Nat) (a:List AV) (p:Int->Bool) (e:(xs.length:Int)<=9223372036854775807) (b:aq a=true) (d:a.map wk=a)
  (g:∀x∈xs,PC f (.int x::a)=some (.bool (p x))):PC uD [iL xs,.func f a]=some (.bool (xs.any p)):=by
 refine ba (Wl rfl ?_);simp[b,d,Xk xs f a p e b (by rw[d];exact g)]
 exact Xi
def ed (k x:Int):Bool:=decide (x<0)||decide (k<=x)
variable{k:Int}
def uX{x:Int}:ed k x=false↔0<=x/\x<k:=by simp[ed]
def bad (xs:List Int) (k:Int):Bool:=xs.any (ed k)
variable{xs:List Int}
def sA:bad xs k=false↔∀x∈xs,0<=x/\x<k:=by
 simp[bad,List.any_eq_false,ed]
def qm:bad xs k=false↔∀j,0<=j->j<(xs.length:Int)->0<=ix xs j/\ix xs j<k:=by
 rw[sA];constructor
 .exact λh j a b=>h _ (bt a b)
 .intro h x d
  obtain⟨i,e,rfl⟩:=cd.1 d;rw[<-aK e];exact h i aa aa
def wa{j:Int}(a:0<=j) (b:j<xs.length) (h:ed k (ix xs j)=true):bad xs k=true:=by
 cases d:bad xs k with
 |true=>rfl
 |false=>rw[uX.2 (qm.1 d j a b)]at h;exact h
def wc(h:∀j,0<=j->j<(xs.length:Int)->ed k (ix xs j)=false):bad xs k=false:=
 qm.2 λj a b=>uX.1 (h j a b)
def cL (w:List Int) (k:Int):Int:=if k<1\/1024<k then 2 else if 1024<(w.length:Int)then 3 else if bad w k=true then 1 else 0
def Xm (x k:Int):PC sj [.int x,.ar (.int k)]=some (.bool (ed k x)):=by
 refine ba (Wm rfl ?_);simp[ed];omega
def Xn (k:Int):PC yz [.int k]=some (.bool (decide (1<=k)&&decide (k<=1024))):=by
 refine ba (Wk rfl ?_);simp;omega
def Hv (w:List Int) (k:Int) (f:(w.length:Int)<=9223372036854775807):PC qh [iL w,.int k]=some (.int (cL w k)):=by
 refine ba (V1 rfl ?_);have d:=Xn k
 by_cases e:k<1\/1024<k
 .simp[d,show(decide (1<=k)&&decide (k<=1024))=false by simp;omega]
  simp[cL,e]
 have g:PC uD [iL w,.func sj [.ar (.int k)]]=some (.bool (bad w k)):=Xl w sj [.ar (.int k)] (ed k) f rfl rfl (λx _=>Xm x k);simp[d,show(decide (1<=k)&&decide (k<=1024))=true by simp;omega,g]
 simp only[cL,ae e];exact⟨λa=>by simp[a],λa=>⟨λb=>by simp[b];omega,λb=>by simp[b];omega⟩⟩
def Hw [Inhabited α]{w:List α}{k:Nat}(h:k<w.length):w.take (k+1)=w.take k ++ [ix w (k:Int)]:=by
 rw[eD,cG h,aK h];rfl
def Hx [Inhabited α]{l m:List α}(a:l.length=m.length) (h:∀s:Int,0<=s->s<(l.length:Int)->ix l s=ix m s):l=m:=List.ext_getElem a λn b d=>by
 have:=h (n:Int) aa aa
 rwa [aK b,aK d]at this
def mE (k:Nat):List (List Int):=[]::((List.range k).map (λ(a:Nat)=>[(a:Int)])++(List.range k).flatMap λ(a:Nat)=>(List.range k).map λ(b:Nat)=>[(a:Int),(b:Int)])
def Cp (o:Option (AV×List aj)):Option (List (List Int)):=match o with
 |some (.bz [a,.int n],b)=>if n=0 then(view b false vd a).bind VI else none
 |_=>none
def up1:Cp (cN G Q 14 kz [.int 1,.int 2] [])=some (mE 1):=by decide +kernel
def up2:Cp (cN G Q 14 kz [.int 2,.int 2] [])=some (mE 2):=by decide +kernel
def up3:Cp (cN G Q 14 kz [.int 3,.int 2] [])=some (mE 3):=by decide +kernel
def sB{N:Nat}{ws:List (List Int)}(h:Cp (cN G Q N kz [.int k,.int 2] [])=some ws):PC kz [.int k,.int 2]=some (.bz [aW ws,.int 0]):=by
 cases hc:cN G Q N kz [.int k,.int 2] []with
 |none=>rw[hc]at h;simp[Cp]at h
 |some p=>
  have hL:L kz [.int k,.int 2] []=some p:=ug jB hc;rw[hc]at h;unfold Cp at h;split at h
  case h_2=>simp at h
  rename_i a n σ he;simp only[aS]at he;subst he;split at h
  case isFalse=>simp at h
  rename_i hn;subst hn;simp only[dX]at h;obtain⟨y,h1,h2⟩:=h;unfold PC jN;rw[hL];have hz:view σ false vd (.int 0)=some (.int 0):=rfl;simp only[bu,aM,h1,hz];rw[W4 h2]
def Xo(a:1<=k) (b:k<=3):PC kz [.int k,.int 2]=some (.bz [aW (mE k.toNat),.int 0]):=by
 obtain rfl|rfl|rfl:k=1\/k=2\/k=3:=aa
 .exact sB up1
 .exact sB up2
 .exact sB up3
variable{v:List Int}
def Hy(g:v.length<=2) (d:∀x∈v,0<=x/\x<k):v∈mE k.toNat:=by
 unfold mE;have key:∀x,0<=x->x<k->∃n,n∈List.range k.toNat/\(n:Int)=x:=λx j e=>⟨x.toNat,by rw[gw];omega,aa⟩
 match v,g,d with
 | [],_,_=>simp
 | [a],_,d=>
  obtain⟨n,e,f⟩:=key a (d a ab).1 (d a ab).2
  exact List.mem_cons_of_mem _ (List.mem_append_left _ (cB.2 ⟨n,e,by rw[f]⟩))
 | [a,b],_,d=>
  obtain⟨n,e,f⟩:=key a (d a ab).1 (d a ab).2
  obtain⟨m,h,i⟩:=key b (d b ab).1 (d b ab).2
  exact List.mem_cons_of_mem _ (List.mem_append_right _ (jS.2 ⟨n,e,cB.2 ⟨m,h,by rw[f,i]⟩⟩))
def we(h:v∈mE k.toNat):v.length<=2/\∀x∈v,0<=x/\x<k:=by
 unfold mE at h;rcases bR.1 h with rfl|h
 .exact⟨ab,ab⟩
 .rcases cp.1 h with h|h
  .obtain⟨n,a,rfl⟩:=cB.1 h
   rw[gw]at a;exact⟨ab,λx b=>by simp at b;omega⟩
  .obtain⟨n,a,h⟩:=jS.1 h
   obtain⟨m,d,rfl⟩:=cB.1 h;rw[gw]at a d;exact⟨ab,λx b=>by simp at b;omega⟩
end Ab
