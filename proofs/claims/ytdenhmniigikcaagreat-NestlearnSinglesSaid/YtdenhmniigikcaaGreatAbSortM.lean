/- Functions of the library that are known by what they do: the sorting of a slice of words, the copy of a slice of lists. Orders of words, and sorted lists. The sorting of words: more fuel gives the same answer; with as much as is wanted. Condition: none. -/
import Derived.Test.YtdenhmniigikcaaGreatAbCore
import Derived.Test.YtdenhmniigikcaaGreatAbL
set_option linter.all false
namespace Ab
def jz:List AV->Option (List Int)
 | []=>some []
 |.int n::r=>match jz r with
  |some s=>some (n::s)
  |none=>none
 |_::_=>none
def cd:AV->Option (List Int)
 |.aF false l=>jz l
 |_=>none
def cy:List Int->List Int->Int
 | [],[]=>0
 | [],_::_=>-1
 |_::_,[]=>1
 |x::a,y::b=>if x<y then -1 else if y<x then 1 else cy a b
def aI (a b:List Int):Int:=if a.length<b.length then -1 else if b.length<a.length then 1 else cy a b
def iM (ce:CE) (g:Nat) (a:List AV) (x y:AV):Option Int:=match jq ce g (x::y::a)with
 |some (.int c)=>some c
 |_=>none
def agree (ce:CE) (g:Nat) (a:List AV) (K:List Int->List Int->Int) (d:List AV):Bool:=
 d.all λx=>d.all λy=>match cd x,cd y with
  |some u,some v=>(match iM ce g a x y with
   |some c=>c==K u v
   |none=>false)
  |_,_=>false
def ua (K:List Int->List Int->Int) (x y:AV):Bool:=match cd x,cd y with
 |some u,some v=>decide (K u v<=0)
 |_,_=>true
def rB (K:List Int->List Int->Int) (x:AV):List AV->List AV
 | []=>[x]
 |y::r=>if ua K x y then x::y::r else y::rB K x r
def ee (K:List Int->List Int->Int):List AV->List AV
 | []=>[]
 |x::r=>rB K x (ee K r)
def hZ:Option Nat->Bool
 |none=>true
 |some _=>false
def mb:CE->List AV->List al->Option (AV×List al):=λce args d=>match args with
 | [.ag,.func _ _]=>some (.bM [],d)
 | [.aF _ [],.func _ _]=>some (.bM [],d)
 | [.sl b u off len,.func g a]=>match upto d b u with
  |some B=>if B.st.isLive&&hZ B.k&&decide (0<len)&&decide (off+len<=B.cells.length)&&decide (B.cells.length<=dK)then
    (if agree ce g a aI ((B.cells.drop off).take len)then some (.bM [],ar d b ⟨B.k,putAt B.cells off (ee aI ((B.cells.drop off).take len)),B.st⟩)
     else if agree ce g a cy ((B.cells.drop off).take len)then some (.bM [],ar d b ⟨B.k,putAt B.cells off (ee cy ((B.cells.drop off).take len)),B.st⟩)
     else none)else none
  |none=>none
 |_=>none
def qW:AV->Bool
 |.int _ | .bool _ | .str _ | .aF _ _ | .ag=>true
 |_=>false
def gP:CE->List AV->List al->Option (AV×List al):=λ_ args a=>match args with
 | [.ag]=>some (.aF false [],a)
 | [.aF _ []]=>some (.aF false [],a)
 | [.aF _ (x::l)]=>if(x::l).all qW&&aC (x::l)&&decide ((x::l).length<=dK)then some (.sl a.length (x::l).length 0 (x::l).length,a ++ [⟨none,(x::l).map gh,.live⟩])else none
 |_=>none
def gu:CE->List AV->List al->Option (AV×List al):=λ_ args a=>match args with
 | [.ag]=>some (.emp,a)
 | [.emp]=>some (.emp,a)
 | [.aF _ []]=>some (.emp,a)
 | [.aF _ (x::l)]=>if(x::l).all isScalar&&decide ((x::l).length<=dK)then some (.sl a.length (x::l).length 0 (x::l).length,a ++ [⟨none,x::l,.live⟩])else none
 | [.sl b u off len]=>match upto a b u with
  |some B=>if B.st.isLive&&tX B.k none&&decide (off+len<=B.cells.length)&&decide (len<=dK)then(if len==0 then some (.emp,a)else some (.sl a.length len 0 len,a ++ [⟨none,(B.cells.drop off).take len,.live⟩]))else none
  |none=>none
 |_=>none
def nT:CE->List AV->List al->Option (AV×List al):=λ_ args a=>match args with
 | [.ag,.int n]=>if n==0 then some (.ag,a)else if 0<n/\n<=dK then some (.sl a.length n.toNat 0 0,a ++ [⟨none,List.replicate n.toNat (.int 0),.live⟩])else none
 |_=>none
def kq:CE->List AV->List al->Option (AV×List al):=λ_ args a=>match args with
 | [.ag,.int n]=>if n==0 then some (.ag,a)else if 0<n/\n<=dK then some (.sl a.length n.toNat 0 0,a ++ [⟨none,List.replicate n.toNat .ag,.live⟩])else none
 |_=>none
structure BE (K:List Int->List Int->Int):Prop where
 refl:∀u,K u u=0
 fL:∀u v,K u v = - K v u
 eq:∀u v,K u v=0->u=v
 trans:∀u v w,K u v<=0->K v w<=0->K u w<=0
def yH:∀u,cy u u=0
 | []=>rfl
 |x::u=>by unfold cy;simp[yH u]
def FK:∀u v,cy u v = - cy v u
 | [],[]=>rfl
 | [],_::_=>rfl
 |_::_,[]=>rfl
 |x::u,y::v=>by
  unfold cy;have:=FK u v;rcases Int.lt_trichotomy x y with h|h|h
  .rw[ae h,ad aa,ae h]
  .subst h;simp;exact this
  .rw[ad aa,ae h,ae h];rfl
def FL:∀u v,cy u v=0->u=v
 | [],[],_=>rfl
 | [],_::_,h=>by simp[cy]at h
 |_::_,[],h=>by simp[cy]at h
 |x::u,y::v,h=>by
  unfold cy at h;rcases Int.lt_trichotomy x y with a|a|a
  .rw[ae a]at h;omega
  .subst a;simp at h;rw[FL u v h]
  .rw[ad aa,ae a]at h;omega
def FM:∀u v w,cy u v<=0->cy v w<=0->cy u w<=0
 | [],[],_,_,h=>h
 | [],_::_,[],_,h=>by simp[cy]at h
 | [],_::_,_::_,_,_=>by simp[cy]
 |_::_,[],_,h,_=>by simp[cy]at h
 |_::_,_::_,[],_,h=>by simp[cy]at h
 |x::u,y::v,z::w,e,d=>by
  unfold cy at e d ⊢;rcases Int.lt_trichotomy x y with a|a|a
  .rcases Int.lt_trichotomy y z with b|b|b
   .rw[ae aa];omega
   .subst b;rw[ae a];omega
   .rw[ad aa,ae b]at d;omega
  .subst a
   rcases Int.lt_trichotomy x z with b|b|b
   .rw[ae b];omega
   .subst b;simp at e d ⊢;exact FM u v w e d
   .rw[ad aa,ae b]at d;omega
  .rw[ad aa,ae a]at e;omega
def NM:BE cy:=⟨yH,FK,FL,FM⟩
def cC:BE aI:=by
 refine⟨λu=>by simp[aI,yH],λu v=>?_,λu v h=>?_,λu v w e d=>?_⟩
 .unfold aI
  have:=FK u v;rcases Nat.lt_trichotomy u.length v.length with h|h|h
  .rw[ae h,ad aa,ae h]
  .rw[ad aa,ad aa,ad aa,ad aa];exact this
  .rw[ad aa,ae h,ae h];rfl
 .unfold aI at h
  split at h
  .omega
  split at h
  .omega
  exact FL u v h
 .unfold aI at e d ⊢
  rcases Nat.lt_trichotomy u.length v.length with a|a|a
  .rcases Nat.lt_trichotomy v.length w.length with b|b|b
   .rw[ae aa];omega
   .rw[ae aa];omega
   .rw[ad aa,ae b]at d;omega
  .rcases Nat.lt_trichotomy v.length w.length with b|b|b
   .rw[ae aa];omega
   .rw[ad aa,ad aa]at e d ⊢;exact FM u v w e d
   .rw[ad aa,ae b]at d;omega
  .rw[ad aa,ae a]at e;omega
def FN:∀{l:List AV}{u:List Int},jz l=some u->l=u.map .int
 | [],u,h=>by simp[jz]at h;subst h;rfl
 |x::r,u,h=>by
  unfold jz at h;split at h
  .rename_i a;simp at a
  .rename_i n d a
   simp at a;obtain⟨rfl,rfl⟩:=a;cases b:jz r with
   |none=>simp[b]at h
   |some s=>simp[b]at h;subst h;simp[FN b]
  .simp at h
def FO:∀(u:List Int),jz (u.map .int)=some u
 | []=>rfl
 |x::u=>by simp[jz,FO u]
def NN{x:AV}{u:List Int}(h:cd x=some u):x = .aF false (u.map .int):=by
 unfold cd at h;split at h
 .rw[FN h]
 .simp at h
def wE (u:List Int):cd (.aF false (u.map .int))=some u:=FO u
section
variable{K:List Int->List Int->Int}
def FP (x:AV):∀l,(rB K x l).Perm (x::l)
 | []=>.refl _
 |y::r=>by
  unfold rB;split
  .exact .refl _
  .exact((FP x r).cons y).trans (.swap x y r)
def uv:∀l,(ee K l).Perm l
 | []=>.refl _
 |x::r=>(FP x _).trans ((uv r).cons x)
def kr (l:List AV):Prop:=∀x∈l,∃u,cd x=some u
variable{x y:AV}{u v:List Int}
def rC(h:cd x=some u) (k:cd y=some v):ua K x y=true↔K u v<=0:=by simp[ua,h,k]
def ZM (d:BE K)(a:cd x=some u) (b:cd y=some v) (h:ua K x y=true) (k:ua K y x=true):x=y:=by
 rw[rC a b]at h;rw[rC b a,d.fL]at k;have:=d.eq u v aa
 subst this;rw[NN a,NN b]
def NO (i:BE K){x:AV}:∀{l:List AV},kr (x::l)->l.Pairwise (λx y=>ua K x y=true)->(rB K x l).Pairwise (λx y=>ua K x y=true)
 | [],_,_=>by simp[rB]
 |y::r,d,h=>by
  obtain⟨u,e⟩:=d x ab
  obtain⟨v,g⟩:=d y ab
  unfold rB;split
  .rename_i a
   refine ku.2 ⟨λz b=>?_,h⟩;rcases b5.1 b with rfl|b
   .exact a
   .obtain⟨t,j⟩:=d z fj
    have:=(ku.1 h).1 z b;rw[rC g j]at this;rw[rC e g]at a;rw[rC e j];exact i.trans _ _ _ a this
  .rename_i a
   have m:=NO i (x:=x) (l:=r) (λz b=>d z (by rcases b5.1 b with rfl|b<;>simp[*])) (ku.1 h).2
   refine ku.2 ⟨λz b=>?_,m⟩;rcases b5.1 ((FP x r).mem_iff.1 b)with rfl|b
   .rw[rC e g]at a
    rw[rC g e,i.fL];omega
   .exact(ku.1 h).1 z b
def FQ (d:BE K):∀{l:List AV},kr l->(ee K l).Pairwise (λx y=>ua K x y=true)
 | [],_=>by simp[ee]
 |x::r,e=>by
  have a : kr r:=λz b=>e z fj
  refine NO d (λz b=>?_) (FQ d a);rcases b5.1 b with rfl|b
  .exact e z ab
  .exact a z ((uv r).mem_iff.1 b)
def NP (b:BE K){l m:List AV}(a:kr l) (d:m.Perm l) (e:m.Pairwise (λx y=>ua K x y=true)):m=ee K l:=by
 refine List.Perm.eq_of_pairwise (le:=λx y=>ua K x y=true) (λx y g i h k=>?_) e (FQ b a) (d.trans (uv l).symm);obtain⟨u,j⟩:=a x (d.mem_iff.1 g);obtain⟨v,n⟩:=a y ((uv l).mem_iff.1 i);exact ZM b j n h k
end
variable{g:Nat}{cz d:List AV}{x y:AV}
def rD{ce:CE}{K:List Int->List Int->Int}(h:agree ce g cz K d=true)(a:x∈d) (b:y∈d):∃u v,cd x=some u/\cd y=some v/\iM ce g cz x y=some (K u v):=by
 simp only[agree,rE]at h;have:=h x a y b;split at this
 .rename_i u v e i
  split at this
  .rename_i c j
   simp only[cT]at this;subst this;exact⟨u,v,e,i,j⟩
  .simp at this
 .simp at this
variable{a b:CE}
def FT(h:CE.le a b){c:Int}(e:iM a g cz x y=some c):iM b g cz x y=some c:=by
 unfold iM at e ⊢;cases d:jq a g (x::y::cz)with
 |none=>rw[d]at e;simp at e
 |some r=>rw[uw h d];rw[d]at e;exact e
def NQ(h:CE.le a b){K:List Int->List Int->Int}(e:agree a g cz K d=true):agree b g cz K d=true:=by
 simp only[agree,rE];intro x i y j;obtain⟨u,v,l,m,n⟩:=rD e i j;simp[l,m,FT h n]
def ZN(h:CE.le a b){K j : List Int->List Int->Int}(e:agree a g cz K d=true) (s : agree b g cz j d=true):agree a g cz j d=true:=by
 simp only[agree,rE];intro x l y m;obtain⟨u,v,n,o,p⟩:=rD e l m;obtain⟨w, z, q,r,i⟩:=rD s l m;rw[n]at q;rw[o]at r;cases q;cases r
 have:=FT h p;rw[this]at i;simp only[bT]at i;simp[n,o,p,i]
def ZO:∀a b:CE,CE.le a b->∀args σ v,mb a args σ=some v->mb b args σ=some v:=by
 intro a b h args σ v d;unfold mb at d ⊢;split at d
 .exact d
 .exact d
 .split at d
  .rename_i B l
   split at d
   .rename_i j
    rw[ae j];split at d
    .rename_i g
     rw[ae (NQ h g)];exact d
    .rename_i i
     split at d
     .rename_i g
      rw[ad (λe=>i (ZN h g e)),ae (NQ h g)];exact d
     .simp at d
   .simp at d
  .simp at d
 .simp at d
def ZP:∀a b:CE,CE.le a b->∀args σ v,gu a args σ=some v->gu b args σ=some v:=λ_ _ _ _ _ _ h=>h
def ZQ:∀a b:CE,CE.le a b->∀args σ v,gP a args σ=some v->gP b args σ=some v:=λ_ _ _ _ _ _ h=>h
def ZR:∀a b:CE,CE.le a b->∀args σ v,kq a args σ=some v->kq b args σ=some v:=λ_ _ _ _ _ _ h=>h
def ZS:∀a b:CE,CE.le a b->∀args σ v,nT a args σ=some v->nT b args σ=some v:=λ_ _ _ _ _ _ h=>h
def common{g:Type}{p:Nat->g->Prop}(d:∀n m x,n<=m->p n x->p m x):∀{l:List g},(∀x∈l,∃n,p n x)->∃n,∀x∈l,p n x
 | [],_=>⟨0,ab⟩
 |a::l,h=>by
  obtain⟨n,i⟩:=h a ab
  obtain⟨m,e⟩:=common d (l:=l) λx b=>h x fj
  refine⟨max n m,λx b=>?_⟩;rcases b5.1 b with rfl|b
  .exact d _ _ _ (Nat.le_max_left n m) i
  .exact d _ _ _ (Nat.le_max_right n m) (e x b)
section
variable{G:Nat->Option Fn}{Q:kv}
def ZT (l:dX Q){g:Nat}{cz:List AV}{K:List Int->List Int->Int}{d:List AV}(h:∀x∈d,∀y∈d,∃u v,cd x=some u/\cd y=some v/\jq (lim G Q) g (x::y::cz)=some (.int (K u v))):∃N,agree (cN G Q N) g cz K d=true:=by
 have q:∀x∈d,∃N,∀y∈d,∃u v,cd x=some u/\cd y=some v/\jq (cN G Q N) g (x::y::cz)=some (.int (K u v)):=λx i=>by
  refine common (p:=λN y=>∃u v,cd x=some u/\cd y=some v/\jq (cN G Q N) g (x::y::cz)=some (.int (K u v))) (λn m y e ⟨u,v,a,b,c⟩=>⟨u,v,a,b,uw (sS l e) c⟩) λy j=>?_;obtain⟨u,v,a,b,c⟩:=h x i y j;obtain⟨N,o⟩:=yI l c;exact⟨N,u,v,a,b,o⟩
 obtain⟨N,o⟩:=common (p:=λN x=>∀y∈d,∃u v,cd x=some u/\cd y=some v/\jq (cN G Q N) g (x::y::cz)=some (.int (K u v))) (λn m x e i y j=>by
  obtain⟨u,v,a,b,c⟩:=i y j;exact⟨u,v,a,b,uw (sS l e) c⟩) q
 refine⟨N,?_⟩;simp only[agree,rE];intro x i y j;obtain⟨u,v,a,b,c⟩:=o x i y j;simp[a,b,iM,c]
end
def ux (x:Int):List Int->List Int
 | []=>[x]
 |y::r=>if x<=y then x::y::r else y::ux x r
def cB:List Int->List Int
 | []=>[]
 |x::r=>ux x (cB r)
def FU (x:Int):∀l:List Int,(ux x l).Perm (x::l)
 | []=>List.Perm.refl _
 |y::r=>by
  unfold ux;split
  .exact List.Perm.refl _
  .exact((FU x r).cons y).trans (List.Perm.swap x y r)
def wF:∀l:List Int,(cB l).Perm l
 | []=>List.Perm.refl _
 |x::r=>(FU x _).trans ((wF r).cons x)
def NR{x:Int}:∀{l:List Int},l.Pairwise (·<=·)->(ux x l).Pairwise (·<=·)
 | [],_=>by simp[ux]
 |y::r,h=>by
  unfold ux;rw[ku]at h;split
  .rename_i b
   rw[ku,ku];refine⟨λz a=>?_,h⟩;rcases b5.1 a with rfl|a
   .exact b
   .have:=h.1 z a;omega
  .rename_i b
   rw[ku];refine⟨λz a=>?_,NR h.2⟩;rcases b5.1 ((FU x r).mem_iff.1 a)with rfl|a
   .omega
   .exact h.1 z a
def FV:∀l:List Int,(cB l).Pairwise (·<=·)
 | []=>List.Pairwise.nil
 |_::r=>NR (FV r)
def ZU{l m:List Int}(a:m.Perm l) (b:m.Pairwise (·<=·)):m=cB l:=
 List.Perm.eq_of_pairwise (le:=(·<=·)) (λx y _ _ h k=>aa) b (FV l) (a.trans (wF l).symm)
def ZV (l:List Int):(l.mergeSort λx y=>decide (x<=y))=cB l:=by
 refine ZU (List.mergeSort_perm l _) ?_;have:=List.pairwise_mergeSort (le:=λx y:Int=>decide (x<=y)) (λa b c d e=>by simp at d e ⊢;omega) (λa b=>ax) l
 exact this.imp λh=>cq
def kz:CE->List AV->List al->Option (AV×List al):=λ_ args a=>match args with
 | [.ag]=>some (.bM [],a)
 | [.sl b u off len]=>match upto a b u with
  |some B=>if B.st.isLive&&hZ B.k&&decide (0<len)&&decide (off+len<=B.cells.length)&&decide (B.cells.length<=dK)then
    (match jz ((B.cells.drop off).take len)with
    |some d=>some (.bM [],ar a b ⟨B.k,putAt B.cells off ((cB d).map .int),B.st⟩)
    |none=>none)else none
  |none=>none
 |_=>none
def ZW:∀a b:CE,CE.le a b->∀args σ v,kz a args σ=some v->kz b args σ=some v:=λ_ _ _ _ _ _ h=>h
def jA (ce:CE) (g:Nat) (cz:List AV) (d:List AV):Bool:=
 (List.range d.length).all λi=>(List.range d.length).all λj=>match d[i]?,d[j]? with
  |some x,some y=>(match iM ce g cz x y with
   |some c=>decide (c<0)==decide (i<j)
   |none=>false)
  |_,_=>false
variable{g:Nat}{cz d:List AV}
def BF{ce:CE}(h:jA ce g cz d=true){i j:Nat}{x y:AV}(a:d[i]? = some x) (b:d[j]? = some y):∃c,iM ce g cz x y=some c/\(c<0↔i<j):=by
 simp only[jA,rE,bQ]at h;have:=h i (dC.1 a).1 j (dC.1 b).1;rw[a,b]at this;simp only at this;split at this
 .rename_i c e
  refine⟨c,e,?_⟩;simpa using this
 .simp at this
def ZX{a b:CE}(h:CE.le a b)(e:jA a g cz d=true):jA b g cz d=true:=by
 simp only[jA,rE,bQ];intro i l j m;obtain⟨c,n,o⟩:=BF e (db l) (db m);rw[db l,db m];simp[FT h n,o]
def ZY{G:Nat->Option Fn}{Q:kv}(w:dX Q)(h:∀(i j:Nat) x y,d[i]? = some x->d[j]? = some y->∃c,jq (lim G Q) g (x::y::cz)=some (.int c)/\(c<0↔i<j)):∃N,jA (cN G Q N) g cz d=true:=by
 have z:∀n m (q:Nat×Nat),n<=m->(∀x y,d[q.1]? = some x->d[q.2]? = some y->∃c,jq (cN G Q n) g (x::y::cz)=some (.int c)/\(c<0↔q.1<q.2))->∀x y,d[q.1]? = some x->d[q.2]? = some y->∃c,jq (cN G Q m) g (x::y::cz)=some (.int c)/\(c<0↔q.1<q.2):=λn m q u a x y o p=>by
  obtain⟨c,r,s⟩:=a x y o p;exact⟨c,uw (sS w u) r,s⟩
 obtain⟨N,A⟩:=common z (l:=(List.range d.length).flatMap λi=>(List.range d.length).map λj=>(i,j)) λq a=>by
  simp only[mW,bQ,cx]at a;obtain⟨i,b,j,e,rfl⟩:=a;obtain⟨c,r,s⟩:=h i j _ _ (db b) (db e);obtain⟨n,B⟩:=yI w r;exact⟨n,λx y o p=>by
   simp only at o p;rw[db b]at o;rw[db e]at p;cases o;cases p
   exact⟨c,B,s⟩⟩
 refine⟨N,?_⟩;simp only[jA,rE,bQ];intro i b j e;have a:(i,j)∈(List.range d.length).flatMap λi=>(List.range d.length).map λj=>(i,j):=by
  simp only[mW,bQ,cx];exact⟨i,b,j,e,rfl⟩
 obtain⟨c,r,s⟩:=A (i,j) a _ _ (db b) (db e);rw[db b,db e];simp[iM,r,s]
def NS (x y:AV):Bool:=match x,y with
 |.agg [.int _,.int _,a],.agg [.int _,.int _,b]=>ua aI a b
 |.agg (a::_),.agg (b::_)=>ua cy a b
 |_,_=>true
def wG (x:AV):List AV->List AV
 | []=>[x]
 |y::r=>if NS x y then x::y::r else y::wG x r
def kA:List AV->List AV
 | []=>[]
 |x::r=>wG x (kA r)
def NT (x:AV):∀l,(wG x l).Perm (x::l)
 | []=>.refl _
 |y::r=>by
  unfold wG;split
  .exact .refl _
  .exact((NT x r).cons y).trans (.swap x y r)
def NU:∀l,(kA l).Perm l
 | []=>.refl _
 |x::r=>(NT x _).trans ((NU r).cons x)
def jB (k:Nat):CE->List AV->List al->Option (AV×List al):=λce args a=>match args with
 | [.ag,.func _ _]=>some (.bM [],a)
 | [.aF _ [],.func _ _]=>some (.bM [],a)
 | [.sl b u off len,.func g cz]=>match upto a b u with
  |some B=>if len==0 then some (.bM [],a)else if tX B.k (some k)&&B.st.isLive&&decide (0<k)&&decide (off+len*k<=B.cells.length)&&decide (B.cells.length<=dK)&&jA ce g cz (kA (chunk (some k) len (B.cells.drop off)))then some (.bM [],ar a b ⟨B.k,putAt B.cells off ((kA (chunk (some k) len (B.cells.drop off))).flatMap AV.cells),B.st⟩)else none
  |none=>none
 |_=>none
def ZZ (k:Nat):∀a b:CE,CE.le a b->∀args σ v,jB k a args σ=some v->jB k b args σ=some v:=by
 intro a b h args σ v d;unfold jB at d ⊢;split at d
 .exact d
 .exact d
 .split at d
  .rename_i B i
   split at d
   .rename_i e
    rw[ae e];exact d
   .rename_i e
    rw[ad e];split at d
    .rename_i g
     simp only[aH]at g;rw[ae (by simp only[aH];exact⟨g.1,ZX h g.2⟩)];exact d
    .simp at d
  .simp at d
 .simp at d
end Ab
