/- Functions of the library that are known by what they do: the sorting of a slice of words, the copy of a slice of lists. Orders of words, and sorted lists. The sorting of words: more fuel gives the same answer; with as much as is wanted. Condition: none. -/
import Derived.Test.YtcdccenbhiddcaaGreatAbCore
import Derived.Test.YtcdccenbhiddcaaGreatAbL
set_option linter.all false
namespace Ab
def fv:List AV->Option (List Int)
 | []=>some []
 |.int n::r=>match fv r with
  |some s=>some (n::s)
  |none=>none
 |_::_=>none
def bg:AV->Option (List Int)
 |.aA false l=>fv l
 |_=>none
def bh:List Int->List Int->Int
 | [],[]=>0
 | [],_::_=>-1
 |_::_,[]=>1
 |x::a,y::b=>if x<y then -1 else if y<x then 1 else bh a b
def bp (a b:List Int):Int:=if a.length<b.length then -1 else if b.length<a.length then 1 else bh a b
def kR (ce:CE) (g:Nat) (a:List AV) (x y:AV):Option Int:=match iu ce g (x::y::a)with
 |some (.int c)=>some c
 |_=>none
def agree (ce:CE) (g:Nat) (a:List AV) (K:List Int->List Int->Int) (d:List AV):Bool:=
 d.all λx=>d.all λy=>match bg x,bg y with
  |some u,some v=>(match kR ce g a x y with
   |some c=>c==K u v
   |none=>false)
  |_,_=>false
def qI (K:List Int->List Int->Int) (x y:AV):Bool:=match bg x,bg y with
 |some u,some v=>decide (K u v<=0)
 |_,_=>true
def lW (K:List Int->List Int->Int) (x:AV):List AV->List AV
 | []=>[x]
 |y::r=>if qI K x y then x::y::r else y::lW K x r
def cx (K:List Int->List Int->Int):List AV->List AV
 | []=>[]
 |x::r=>lW K x (cx K r)
def dV:Option Nat->Bool
 |none=>true
 |some _=>false
def iB:CE->List AV->List aj->Option (AV×List aj):=λce args d=>match args with
 | [.ag,.func _ _]=>some (.bz [],d)
 | [.aA _ [],.func _ _]=>some (.bz [],d)
 | [.sl b u off len,.func g a]=>match upto d b u with
  |some B=>if B.st.isLive&&dV B.k&&decide (0<len)&&decide (off+len<=B.cells.length)&&decide (B.cells.length<=cE)then
    (if agree ce g a bp ((B.cells.drop off).take len)then some (.bz [],az d b ⟨B.k,putAt B.cells off (cx bp ((B.cells.drop off).take len)),B.st⟩)
     else if agree ce g a bh ((B.cells.drop off).take len)then some (.bz [],az d b ⟨B.k,putAt B.cells off (cx bh ((B.cells.drop off).take len)),B.st⟩)
     else none)else none
  |none=>none
 |_=>none
def lG:AV->Bool
 |.int _ | .bool _ | .str _ | .aA _ _ | .ag=>true
 |_=>false
def dP:CE->List AV->List aj->Option (AV×List aj):=λ_ args a=>match args with
 | [.ag]=>some (.aA false [],a)
 | [.aA _ []]=>some (.aA false [],a)
 | [.aA _ (x::l)]=>if(x::l).all lG&&aq (x::l)&&decide ((x::l).length<=cE)then some (.sl a.length (x::l).length 0 (x::l).length,a ++ [⟨none,(x::l).map dr,.live⟩])else none
 |_=>none
def db:CE->List AV->List aj->Option (AV×List aj):=λ_ args a=>match args with
 | [.ag]=>some (.emp,a)
 | [.emp]=>some (.emp,a)
 | [.aA _ []]=>some (.emp,a)
 | [.aA _ (x::l)]=>if(x::l).all isScalar&&decide ((x::l).length<=cE)then some (.sl a.length (x::l).length 0 (x::l).length,a ++ [⟨none,x::l,.live⟩])else none
 | [.sl b u off len]=>match upto a b u with
  |some B=>if B.st.isLive&&ob B.k none&&decide (off+len<=B.cells.length)&&decide (len<=cE)then(if len==0 then some (.emp,a)else some (.sl a.length len 0 len,a ++ [⟨none,(B.cells.drop off).take len,.live⟩]))else none
  |none=>none
 |_=>none
def jK:CE->List AV->List aj->Option (AV×List aj):=λ_ args a=>match args with
 | [.ag,.int n]=>if n==0 then some (.ag,a)else if 0<n/\n<=cE then some (.sl a.length n.toNat 0 0,a ++ [⟨none,List.replicate n.toNat (.int 0),.live⟩])else none
 |_=>none
structure my (K:List Int->List Int->Int):Prop where
 refl:∀u,K u u=0
 iC:∀u v,K u v = - K v u
 eq:∀u v,K u v=0->u=v
 trans:∀u v w,K u v<=0->K v w<=0->K u w<=0
def tP:∀u,bh u u=0
 | []=>rfl
 |x::u=>by unfold bh;simp[tP u]
def xb:∀u v,bh u v = - bh v u
 | [],[]=>rfl
 | [],_::_=>rfl
 |_::_,[]=>rfl
 |x::u,y::v=>by
  unfold bh;have:=xb u v;rcases lY x y with h|h|h
  .rw[ah h,ae aa,ah h]
  .subst h;simp;exact this
  .rw[ae aa,ah h,ah h];rfl
def xc:∀u v,bh u v=0->u=v
 | [],[],_=>rfl
 | [],_::_,h=>by simp[bh]at h
 |_::_,[],h=>by simp[bh]at h
 |x::u,y::v,h=>by
  unfold bh at h;rcases lY x y with a|a|a
  .rw[ah a]at h;omega
  .subst a;simp at h;rw[xc u v h]
  .rw[ae aa,ah a]at h;omega
def xd:∀u v w,bh u v<=0->bh v w<=0->bh u w<=0
 | [],[],_,_,h=>h
 | [],_::_,[],_,h=>by simp[bh]at h
 | [],_::_,_::_,_,_=>by simp[bh]
 |_::_,[],_,h,_=>by simp[bh]at h
 |_::_,_::_,[],_,h=>by simp[bh]at h
 |x::u,y::v,z::w,e,d=>by
  unfold bh at e d ⊢;rcases lY x y with a|a|a
  .rcases lY y z with b|b|b
   .rw[ah aa];omega
   .subst b;rw[ah a];omega
   .rw[ae aa,ah b]at d;omega
  .subst a
   rcases lY x z with b|b|b
   .rw[ah b];omega
   .subst b;simp at e d ⊢;exact xd u v w e d
   .rw[ae aa,ah b]at d;omega
  .rw[ae aa,ah a]at e;omega
def pJ:my bh:=⟨tP,xb,xc,xd⟩
def fe:my bp:=by
 refine⟨λu=>by simp[bp,tP],λu v=>?_,λu v h=>?_,λu v w e d=>?_⟩
 .unfold bp
  have:=xb u v;rcases Nat.lt_trichotomy u.length v.length with h|h|h
  .rw[ah h,ae aa,ah h]
  .rw[ae aa,ae aa,ae aa,ae aa];exact this
  .rw[ae aa,ah h,ah h];rfl
 .unfold bp at h
  split at h
  .omega
  split at h
  .omega
  exact xc u v h
 .unfold bp at e d ⊢
  rcases Nat.lt_trichotomy u.length v.length with a|a|a
  .rcases Nat.lt_trichotomy v.length w.length with b|b|b
   .rw[ah aa];omega
   .rw[ah aa];omega
   .rw[ae aa,ah b]at d;omega
  .rcases Nat.lt_trichotomy v.length w.length with b|b|b
   .rw[ah aa];omega
   .rw[ae aa,ae aa]at e d ⊢;exact xd u v w e d
   .rw[ae aa,ah b]at d;omega
  .rw[ae aa,ah a]at e;omega
def xe:∀{l:List AV}{u:List Int},fv l=some u->l=u.map .int
 | [],u,h=>by simp[fv]at h;subst h;rfl
 |x::r,u,h=>by
  unfold fv at h;split at h
  .rename_i a;simp at a
  .rename_i n d a
   simp at a;obtain⟨rfl,rfl⟩:=a;cases b:fv r with
   |none=>simp[b]at h
   |some s=>simp[b]at h;subst h;simp[xe b]
  .simp at h
def xg:∀(u:List Int),fv (u.map .int)=some u
 | []=>rfl
 |x::u=>by simp[fv,xg u]
def Dg{x:AV}{u:List Int}(h:bg x=some u):x = .aA false (u.map .int):=by
 unfold bg at h;split at h
 .rw[xe h]
 .simp at h
def tQ (u:List Int):bg (.aA false (u.map .int))=some u:=xg u
section
variable{K:List Int->List Int->Int}
def xh (x:AV):∀l,(lW K x l).Perm (x::l)
 | []=>.refl _
 |y::r=>by
  unfold lW;split
  .exact .refl _
  .exact((xh x r).cons y).trans (.swap x y r)
def om:∀l,(cx K l).Perm l
 | []=>.refl _
 |x::r=>(xh x _).trans ((om r).cons x)
def gb (l:List AV):Prop:=∀x∈l,∃u,bg x=some u
variable{x y:AV}{u v:List Int}
def lZ(h:bg x=some u) (k:bg y=some v):qI K x y=true↔K u v<=0:=by simp[qI,h,k]
def Mt (d:my K)(a:bg x=some u) (b:bg y=some v) (h:qI K x y=true) (k:qI K y x=true):x=y:=by
 rw[lZ a b]at h;rw[lZ b a,d.iC]at k;have:=d.eq u v aa
 subst this;rw[Dg a,Dg b]
def Dh (g:my K){x:AV}:∀{l:List AV},gb (x::l)->l.Pairwise (λx y=>qI K x y=true)->(lW K x l).Pairwise (λx y=>qI K x y=true)
 | [],_,_=>by simp[lW]
 |y::r,d,h=>by
  obtain⟨u,e⟩:=d x ab
  obtain⟨v,f⟩:=d y ab
  unfold lW;split
  .rename_i a
   refine ff.2 ⟨λz b=>?_,h⟩;rcases bR.1 b with rfl|b
   .exact a
   .obtain⟨t,i⟩:=d z dS
    have:=(ff.1 h).1 z b;rw[lZ f i]at this;rw[lZ e f]at a;rw[lZ e i];exact g.trans _ _ _ a this
  .rename_i a
   have j:=Dh g (x:=x) (l:=r) (λz b=>d z (by rcases bR.1 b with rfl|b<;>simp[*])) (ff.1 h).2
   refine ff.2 ⟨λz b=>?_,j⟩;rcases bR.1 ((xh x r).mem_iff.1 b)with rfl|b
   .rw[lZ e f]at a
    rw[lZ f e,g.iC];omega
   .exact(ff.1 h).1 z b
def xi (d:my K):∀{l:List AV},gb l->(cx K l).Pairwise (λx y=>qI K x y=true)
 | [],_=>by simp[cx]
 |x::r,e=>by
  have a : gb r:=λz b=>e z dS
  refine Dh d (λz b=>?_) (xi d a);rcases bR.1 b with rfl|b
  .exact e z ab
  .exact a z ((om r).mem_iff.1 b)
def Di (b:my K){l m:List AV}(a:gb l) (d:m.Perm l) (e:m.Pairwise (λx y=>qI K x y=true)):m=cx K l:=by
 refine List.Perm.eq_of_pairwise (le:=λx y=>qI K x y=true) (λx y f g h k=>?_) e (xi b a) (d.trans (om l).symm);obtain⟨u,i⟩:=a x (d.mem_iff.1 f);obtain⟨v,j⟩:=a y ((om l).mem_iff.1 g);exact Mt b i j h k
end
variable{g:Nat}{cT d:List AV}{x y:AV}
def l0{ce:CE}{K:List Int->List Int->Int}(h:agree ce g cT K d=true)(a:x∈d) (b:y∈d):∃u v,bg x=some u/\bg y=some v/\kR ce g cT x y=some (K u v):=by
 simp only[agree,eS]at h;have:=h x a y b;split at this
 .rename_i u v e f
  split at this
  .rename_i c i
   simp only[bJ]at this;subst this;exact⟨u,v,e,f,i⟩
  .simp at this
 .simp at this
variable{a b:CE}
def Dj(h:CE.le a b){c:Int}(e:kR a g cT x y=some c):kR b g cT x y=some c:=by
 unfold kR at e ⊢;cases d:iu a g (x::y::cT)with
 |none=>rw[d]at e;simp at e
 |some r=>rw[pK h d];rw[d]at e;exact e
def Dk(h:CE.le a b){K:List Int->List Int->Int}(e:agree a g cT K d=true):agree b g cT K d=true:=by
 simp only[agree,eS];intro x f y i;obtain⟨u,v,j,l,m⟩:=l0 e f i;simp[j,l,Dj h m]
def Mu(h:CE.le a b){K i : List Int->List Int->Int}(e:agree a g cT K d=true) (r : agree b g cT i d=true):agree a g cT i d=true:=by
 simp only[agree,eS];intro x j y l;obtain⟨u,v,m,n,o⟩:=l0 e j l;obtain⟨s, w, p,q,f⟩:=l0 r j l;rw[m]at p;rw[n]at q;cases p;cases q
 have:=Dj h o;rw[this]at f;simp only[aS]at f;simp[m,n,o,f]
def Mv:∀a b:CE,CE.le a b->∀args σ v,iB a args σ=some v->iB b args σ=some v:=by
 intro a b h args σ v d;unfold iB at d ⊢;split at d
 .exact d
 .exact d
 .split at d
  .rename_i B j
   split at d
   .rename_i i
    rw[ah i];split at d
    .rename_i f
     rw[ah (Dk h f)];exact d
    .rename_i g
     split at d
     .rename_i f
      rw[ae (λe=>g (Mu h f e)),ah (Dk h f)];exact d
     .simp at d
   .simp at d
  .simp at d
 .simp at d
def Mw:∀a b:CE,CE.le a b->∀args σ v,db a args σ=some v->db b args σ=some v:=λ_ _ _ _ _ _ h=>h
def Mx:∀a b:CE,CE.le a b->∀args σ v,dP a args σ=some v->dP b args σ=some v:=λ_ _ _ _ _ _ h=>h
def My:∀a b:CE,CE.le a b->∀args σ v,jK a args σ=some v->jK b args σ=some v:=λ_ _ _ _ _ _ h=>h
def common{f:Type}{p:Nat->f->Prop}(d:∀n m x,n<=m->p n x->p m x):∀{l:List f},(∀x∈l,∃n,p n x)->∃n,∀x∈l,p n x
 | [],_=>⟨0,ab⟩
 |a::l,h=>by
  obtain⟨n,g⟩:=h a ab
  obtain⟨m,e⟩:=common d (l:=l) λx b=>h x dS
  refine⟨max n m,λx b=>?_⟩;rcases bR.1 b with rfl|b
  .exact d _ _ _ (Nat.le_max_left n m) g
  .exact d _ _ _ (Nat.le_max_right n m) (e x b)
section
variable{G:Nat->Option Fn}{Q:gH}
def Mz (j:cH Q){g:Nat}{cT:List AV}{K:List Int->List Int->Int}{d:List AV}(h:∀x∈d,∀y∈d,∃u v,bg x=some u/\bg y=some v/\iu (lim G Q) g (x::y::cT)=some (.int (K u v))):∃N,agree (cN G Q N) g cT K d=true:=by
 have o:∀x∈d,∃N,∀y∈d,∃u v,bg x=some u/\bg y=some v/\iu (cN G Q N) g (x::y::cT)=some (.int (K u v)):=λx f=>by
  refine common (p:=λN y=>∃u v,bg x=some u/\bg y=some v/\iu (cN G Q N) g (x::y::cT)=some (.int (K u v))) (λn m y e ⟨u,v,a,b,c⟩=>⟨u,v,a,b,pK (mQ j e) c⟩) λy i=>?_;obtain⟨u,v,a,b,c⟩:=h x f y i;obtain⟨N,l⟩:=tR j c;exact⟨N,u,v,a,b,l⟩
 obtain⟨N,l⟩:=common (p:=λN x=>∀y∈d,∃u v,bg x=some u/\bg y=some v/\iu (cN G Q N) g (x::y::cT)=some (.int (K u v))) (λn m x e f y i=>by
  obtain⟨u,v,a,b,c⟩:=f y i;exact⟨u,v,a,b,pK (mQ j e) c⟩) o
 refine⟨N,?_⟩;simp only[agree,eS];intro x f y i;obtain⟨u,v,a,b,c⟩:=l x f y i;simp[a,b,kR,c]
end
def oo (x:Int):List Int->List Int
 | []=>[x]
 |y::r=>if x<=y then x::y::r else y::oo x r
def bl:List Int->List Int
 | []=>[]
 |x::r=>oo x (bl r)
def xj (x:Int):∀l:List Int,(oo x l).Perm (x::l)
 | []=>List.Perm.refl _
 |y::r=>by
  unfold oo;split
  .exact List.Perm.refl _
  .exact((xj x r).cons y).trans (List.Perm.swap x y r)
def kS:∀l:List Int,(bl l).Perm l
 | []=>List.Perm.refl _
 |x::r=>(xj x _).trans ((kS r).cons x)
def Dl{x:Int}:∀{l:List Int},l.Pairwise (·<=·)->(oo x l).Pairwise (·<=·)
 | [],_=>by simp[oo]
 |y::r,h=>by
  unfold oo;rw[ff]at h;split
  .rename_i b
   rw[ff,ff];refine⟨λz a=>?_,h⟩;rcases bR.1 a with rfl|a
   .exact b
   .have:=h.1 z a;omega
  .rename_i b
   rw[ff];refine⟨λz a=>?_,Dl h.2⟩;rcases bR.1 ((xj x r).mem_iff.1 a)with rfl|a
   .omega
   .exact h.1 z a
def Dm:∀l:List Int,(bl l).Pairwise (·<=·)
 | []=>List.Pairwise.nil
 |_::r=>Dl (Dm r)
def MA{l m:List Int}(a:m.Perm l) (b:m.Pairwise (·<=·)):m=bl l:=
 List.Perm.eq_of_pairwise (le:=(·<=·)) (λx y _ _ h k=>aa) b (Dm l) (a.trans (kS l).symm)
def MB (l:List Int):(l.mergeSort λx y=>decide (x<=y))=bl l:=by
 refine MA (List.mergeSort_perm l _) ?_;have:=List.pairwise_mergeSort (le:=λx y:Int=>decide (x<=y)) (λa b c d e=>by simp at d e ⊢;omega) (λa b=>ai) l
 exact this.imp λh=>ch
def gd:CE->List AV->List aj->Option (AV×List aj):=λ_ args a=>match args with
 | [.ag]=>some (.bz [],a)
 | [.sl b u off len]=>match upto a b u with
  |some B=>if B.st.isLive&&dV B.k&&decide (0<len)&&decide (off+len<=B.cells.length)&&decide (B.cells.length<=cE)then
    (match fv ((B.cells.drop off).take len)with
    |some d=>some (.bz [],az a b ⟨B.k,putAt B.cells off ((bl d).map .int),B.st⟩)
    |none=>none)else none
  |none=>none
 |_=>none
def MC:∀a b:CE,CE.le a b->∀args σ v,gd a args σ=some v->gd b args σ=some v:=λ_ _ _ _ _ _ h=>h
end Ab
