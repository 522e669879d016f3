/- Functions of the library that are known by what they do: the sorting of a slice of words, the copy of a slice of lists. Orders of words, and sorted lists. The sorting of words: more fuel gives the same answer; with as much as is wanted. Condition: none. -/
import Derived.Test.YtdenhmniigikcaaGreatAbCore
import Derived.Test.YtdenhmniigikcaaGreatAbL
set_option linter.all false
namespace Ab
def iJ:List AV->Option (List Int)
 | []=>some []
 |.int n::r=>match iJ r with
  |some s=>some (n::s)
  |none=>none
 |_::_=>none
def bS:AV->Option (List Int)
 |.au false l=>iJ l
 |_=>none
def b8:List Int->List Int->Int
 | [],[]=>0
 | [],_::_=>-1
 |_::_,[]=>1
 |x::a,y::b=>if x<y then -1 else if y<x then 1 else b8 a b
def aP (a b:List Int):Int:=if a.length<b.length then -1 else if b.length<a.length then 1 else b8 a b
def gZ (ce:CE) (g:Nat) (a:List AV) (x y:AV):Option Int:=match iE ce g (x::y::a)with
 |some (.int c)=>some c
 |_=>none
def agree (ce:CE) (g:Nat) (a:List AV) (K:List Int->List Int->Int) (d:List AV):Bool:=
 d.all λx=>d.all λy=>match bS x,bS y with
  |some u,some v=>(match gZ ce g a x y with
   |some c=>c==K u v
   |none=>false)
  |_,_=>false
def sB (K:List Int->List Int->Int) (x y:AV):Bool:=match bS x,bS y with
 |some u,some v=>decide (K u v<=0)
 |_,_=>true
def qb (K:List Int->List Int->Int) (x:AV):List AV->List AV
 | []=>[x]
 |y::r=>if sB K x y then x::y::r else y::qb K x r
def dP (K:List Int->List Int->Int):List AV->List AV
 | []=>[]
 |x::r=>qb K x (dP K r)
def gv:Option Nat->Bool
 |none=>true
 |some _=>false
def kZ:CE->List AV->List ah->Option (AV×List ah):=λce args σ=>match args with
 | [.ae,.func _ _]=>some (.bF [],σ)
 | [.au _ [],.func _ _]=>some (.bF [],σ)
 | [.sl b u off len,.func g a]=>match upto σ b u with
  |some B=>if B.st.isLive&&gv B.k&&decide (0<len)&&decide (off+len<=B.cells.length)&&decide (B.cells.length<=dz)then
    (if agree ce g a aP ((B.cells.drop off).take len)then some (.bF [],ar σ b ⟨B.k,putAt B.cells off (dP aP ((B.cells.drop off).take len)),B.st⟩)
     else if agree ce g a b8 ((B.cells.drop off).take len)then some (.bF [],ar σ b ⟨B.k,putAt B.cells off (dP b8 ((B.cells.drop off).take len)),B.st⟩)
     else none)else none
  |none=>none
 |_=>none
def pH:AV->Bool
 |.int _ | .bool _ | .str _ | .au _ _ | .ae=>true
 |_=>false
def gf:CE->List AV->List ah->Option (AV×List ah):=λ_ args σ=>match args with
 | [.ae]=>some (.au false [],σ)
 | [.au _ []]=>some (.au false [],σ)
 | [.au _ (x::l)]=>if(x::l).all pH&&ax (x::l)&&decide ((x::l).length<=dz)then some (.sl σ.length (x::l).length 0 (x::l).length,σ ++ [⟨none,(x::l).map fD,.live⟩])else none
 |_=>none
def fP:CE->List AV->List ah->Option (AV×List ah):=λ_ args σ=>match args with
 | [.ae]=>some (.emp,σ)
 | [.emp]=>some (.emp,σ)
 | [.au _ []]=>some (.emp,σ)
 | [.au _ (x::l)]=>if(x::l).all isScalar&&decide ((x::l).length<=dz)then some (.sl σ.length (x::l).length 0 (x::l).length,σ ++ [⟨none,x::l,.live⟩])else none
 | [.sl b u off len]=>match upto σ b u with
  |some B=>if B.st.isLive&&sz B.k none&&decide (off+len<=B.cells.length)&&decide (len<=dz)then(if len==0 then some (.emp,σ)else some (.sl σ.length len 0 len,σ ++ [⟨none,(B.cells.drop off).take len,.live⟩]))else none
  |none=>none
 |_=>none
def mA:CE->List AV->List ah->Option (AV×List ah):=λ_ args σ=>match args with
 | [.ae,.int n]=>if n==0 then some (.ae,σ)else if 0<n/\n<=dz then some (.sl σ.length n.toNat 0 0,σ ++ [⟨none,List.replicate n.toNat (.int 0),.live⟩])else none
 |_=>none
def jD:CE->List AV->List ah->Option (AV×List ah):=λ_ args σ=>match args with
 | [.ae,.int n]=>if n==0 then some (.ae,σ)else if 0<n/\n<=dz then some (.sl σ.length n.toNat 0 0,σ ++ [⟨none,List.replicate n.toNat .ae,.live⟩])else none
 |_=>none
structure zS (K:List Int->List Int->Int):Prop where
 refl:∀u,K u u=0
 gg:∀u v,K u v = - K v u
 eq:∀u v,K u v=0->u=v
 trans:∀u v w,K u v<=0->K v w<=0->K u w<=0
def w3:∀u,b8 u u=0
 | []=>rfl
 |x::u=>by unfold b8;simp[w3 u]
def DR:∀u v,b8 u v = - b8 v u
 | [],[]=>rfl
 | [],_::_=>rfl
 |_::_,[]=>rfl
 |x::u,y::v=>by
  unfold b8;have:=DR u v;rcases Int.lt_trichotomy x y with h|h|h
  .rw[ab h,aa (by omega),ab h]
  .subst h;simp;exact this
  .rw[aa (by omega),ab h,ab h];rfl
def DS:∀u v,b8 u v=0->u=v
 | [],[],_=>rfl
 | [],_::_,h=>by simp[b8]at h
 |_::_,[],h=>by simp[b8]at h
 |x::u,y::v,h=>by
  unfold b8 at h;rcases Int.lt_trichotomy x y with a|a|a
  .rw[ab a]at h;omega
  .subst a;simp at h;rw[DS u v h]
  .rw[aa (by omega),ab a]at h;omega
def DU:∀u v w,b8 u v<=0->b8 v w<=0->b8 u w<=0
 | [],[],_,_,h=>h
 | [],_::_,[],_,h=>by simp[b8]at h
 | [],_::_,_::_,_,_=>by simp[b8]
 |_::_,[],_,h,_=>by simp[b8]at h
 |_::_,_::_,[],_,h=>by simp[b8]at h
 |x::u,y::v,z::w,e,d=>by
  unfold b8 at e d ⊢;rcases Int.lt_trichotomy x y with a|a|a
  .rcases Int.lt_trichotomy y z with b|b|b
   .rw[ab (by omega)];omega
   .subst b;rw[ab a];omega
   .rw[aa (by omega),ab b]at d;omega
  .subst a
   rcases Int.lt_trichotomy x z with b|b|b
   .rw[ab b];omega
   .subst b;simp at e d ⊢;exact DU u v w e d
   .rw[aa (by omega),ab b]at d;omega
  .rw[aa (by omega),ab a]at e;omega
def Lc:zS b8:=⟨w3,DR,DS,DU⟩
def dE:zS aP:=by
 refine⟨λu=>by simp[aP,w3],λu v=>?_,λu v h=>?_,λu v w e d=>?_⟩
 .unfold aP
  have:=DR u v;rcases Nat.lt_trichotomy u.length v.length with h|h|h
  .rw[ab h,aa (by omega),ab h]
  .rw[aa (by omega),aa (by omega),aa (by omega),aa (by omega)];exact this
  .rw[aa (by omega),ab h,ab h];rfl
 .unfold aP at h
  split at h
  .omega
  split at h
  .omega
  exact DS u v h
 .unfold aP at e d ⊢
  rcases Nat.lt_trichotomy u.length v.length with a|a|a
  .rcases Nat.lt_trichotomy v.length w.length with b|b|b
   .rw[ab (by omega)];omega
   .rw[ab (by omega)];omega
   .rw[aa (by omega),ab b]at d;omega
  .rcases Nat.lt_trichotomy v.length w.length with b|b|b
   .rw[ab (by omega)];omega
   .rw[aa (by omega),aa (by omega)]at e d ⊢;exact DU u v w e d
   .rw[aa (by omega),ab b]at d;omega
  .rw[aa (by omega),ab a]at e;omega
def DV:∀{l:List AV}{u:List Int},iJ l=some u->l=u.map .int
 | [],u,h=>by simp[iJ]at h;subst h;rfl
 |x::r,u,h=>by
  unfold iJ at h;split at h
  .rename_i a;simp at a
  .rename_i n d a
   simp at a;obtain⟨rfl,rfl⟩:=a;cases b:iJ r with
   |none=>simp[b]at h
   |some s=>simp[b]at h;subst h;simp[DV b]
  .simp at h
def DW:∀(u:List Int),iJ (u.map .int)=some u
 | []=>rfl
 |x::u=>by simp[iJ,DW u]
def Ld{x:AV}{u:List Int}(h:bS x=some u):x = .au false (u.map .int):=by
 unfold bS at h;split at h
 .rw[DV h]
 .simp at h
def uS (u:List Int):bS (.au false (u.map .int))=some u:=DW u
section
variable{K:List Int->List Int->Int}
theorem DX (x:AV):∀l,(qb K x l).Perm (x::l)
 | []=>.refl _
 |y::r=>by
  unfold qb;split
  .exact .refl _
  .exact((DX x r).cons y).trans (.swap x y r)
theorem sR:∀l,(dP K l).Perm l
 | []=>.refl _
 |x::r=>(DX x _).trans ((sR r).cons x)
def jE (l:List AV):Prop:=∀x∈l,∃u,bS x=some u
variable{x y:AV}{u v:List Int}
theorem qc(h:bS x=some u) (k:bS y=some v):sB K x y=true↔K u v<=0:=by simp[sB,h,k]
theorem WA (d:zS K)(a:bS x=some u) (b:bS y=some v) (h:sB K x y=true) (k:sB K y x=true):x=y:=by
 rw[qc a b]at h;rw[qc b a,d.gg]at k;have:=d.eq u v (by omega)
 subst this;rw[Ld a,Ld b]
theorem Le (i:zS K){x:AV}:∀{l:List AV},jE (x::l)->l.Pairwise (λx y=>sB K x y=true)->(qb K x l).Pairwise (λx y=>sB K x y=true)
 | [],_,_=>by simp[qb]
 |y::r,d,h=>by
  obtain⟨u,e⟩:=d x (by simp)
  obtain⟨v,g⟩:=d y (by simp)
  unfold qb;split
  .rename_i a
   refine kD.2 ⟨λz b=>?_,h⟩;rcases b5.1 b with rfl|b
   .exact a
   .obtain⟨t,j⟩:=d z (by simp[b])
    have:=(kD.1 h).1 z b;rw[qc g j]at this;rw[qc e g]at a;rw[qc e j];exact i.trans _ _ _ a this
  .rename_i a
   have m:=Le i (x:=x) (l:=r) (λz b=>d z (by rcases b5.1 b with rfl|b<;>simp[*])) (kD.1 h).2
   refine kD.2 ⟨λz b=>?_,m⟩;rcases b5.1 ((DX x r).mem_iff.1 b)with rfl|b
   .rw[qc e g]at a
    rw[qc g e,i.gg];omega
   .exact(kD.1 h).1 z b
theorem DY (d:zS K):∀{l:List AV},jE l->(dP K l).Pairwise (λx y=>sB K x y=true)
 | [],_=>by simp[dP]
 |x::r,e=>by
  have a : jE r:=λz b=>e z (by simp[b])
  refine Le d (λz b=>?_) (DY d a);rcases b5.1 b with rfl|b
  .exact e z (by simp)
  .exact a z ((sR r).mem_iff.1 b)
theorem Lf (b:zS K){l m:List AV}(a:jE l) (d:m.Perm l) (e:m.Pairwise (λx y=>sB K x y=true)):m=dP K l:=by
 refine List.Perm.eq_of_pairwise (le:=λx y=>sB K x y=true) (λx y g i h k=>?_) e (DY b a) (d.trans (sR l).symm);obtain⟨u,j⟩:=a x (d.mem_iff.1 g);obtain⟨v,n⟩:=a y ((sR l).mem_iff.1 i);exact WA b j n h k
end
variable{g:Nat}{cc d:List AV}{x y:AV}
theorem qd{ce:CE}{K:List Int->List Int->Int}(h:agree ce g cc K d=true)(a:x∈d) (b:y∈d):∃u v,bS x=some u/\bS y=some v/\gZ ce g cc x y=some (K u v):=by
 simp only[agree,qf]at h;have:=h x a y b;split at this
 .rename_i u v e i
  split at this
  .rename_i c j
   simp only[cF]at this;subst this;exact⟨u,v,e,i,j⟩
  .simp at this
 .simp at this
variable{a b:CE}
theorem DZ(h:CE.le a b){c:Int}(e:gZ a g cc x y=some c):gZ b g cc x y=some c:=by
 unfold gZ at e ⊢;cases d:iE a g (x::y::cc)with
 |none=>rw[d]at e;simp at e
 |some r=>rw[sS h d];rw[d]at e;exact e
theorem Lh(h:CE.le a b){K:List Int->List Int->Int}(e:agree a g cc K d=true):agree b g cc K d=true:=by
 simp only[agree,qf];intro x i y j;obtain⟨u,v,l,m,n⟩:=qd e i j;simp[l,m,DZ h n]
theorem WB(h:CE.le a b){K j : List Int->List Int->Int}(e:agree a g cc K d=true) (s : agree b g cc j d=true):agree a g cc j d=true:=by
 simp only[agree,qf];intro x l y m;obtain⟨u,v,n,o,p⟩:=qd e l m;obtain⟨u', w, q,r,i⟩:=qd s l m;rw[n]at q;rw[o]at r;cases q;cases r
 have:=DZ h p;rw[this]at i;simp only[bJ]at i;simp[n,o,p,i]
theorem WC:∀a b:CE,CE.le a b->∀args σ v,kZ a args σ=some v->kZ b args σ=some v:=by
 intro a b h args σ v d;unfold kZ at d ⊢;split at d
 .exact d
 .exact d
 .split at d
  .rename_i B l
   split at d
   .rename_i j
    rw[ab j];split at d
    .rename_i g
     rw[ab (Lh h g)];exact d
    .rename_i i
     split at d
     .rename_i g
      rw[aa (λe=>i (WB h g e)),ab (Lh h g)];exact d
     .simp at d
   .simp at d
  .simp at d
 .simp at d
theorem WD:∀a b:CE,CE.le a b->∀args σ v,fP a args σ=some v->fP b args σ=some v:=λ_ _ _ _ _ _ h=>h
theorem WE:∀a b:CE,CE.le a b->∀args σ v,gf a args σ=some v->gf b args σ=some v:=λ_ _ _ _ _ _ h=>h
theorem WG:∀a b:CE,CE.le a b->∀args σ v,jD a args σ=some v->jD b args σ=some v:=λ_ _ _ _ _ _ h=>h
theorem WH:∀a b:CE,CE.le a b->∀args σ v,mA a args σ=some v->mA b args σ=some v:=λ_ _ _ _ _ _ h=>h
theorem common{g:Type}{p:Nat->g->Prop}(d:∀n m x,n<=m->p n x->p m x):∀{l:List g},(∀x∈l,∃n,p n x)->∃n,∀x∈l,p n x
 | [],_=>⟨0,by simp⟩
 |a::l,h=>by
  obtain⟨n,i⟩:=h a (by simp)
  obtain⟨m,e⟩:=common d (l:=l) λx b=>h x (by simp[b])
  refine⟨max n m,λx b=>?_⟩;rcases b5.1 b with rfl|b
  .exact d _ _ _ (Nat.le_max_left n m) i
  .exact d _ _ _ (Nat.le_max_right n m) (e x b)
section
variable{G:Nat->Option Fn}{Q:jF}
theorem WI (l:dL Q){g:Nat}{cc:List AV}{K:List Int->List Int->Int}{d:List AV}(h:∀x∈d,∀y∈d,∃u v,bS x=some u/\bS y=some v/\iE (lim G Q) g (x::y::cc)=some (.int (K u v))):∃N,agree (cN G Q N) g cc K d=true:=by
 have q:∀x∈d,∃N,∀y∈d,∃u v,bS x=some u/\bS y=some v/\iE (cN G Q N) g (x::y::cc)=some (.int (K u v)):=λx i=>by
  refine common (p:=λN y=>∃u v,bS x=some u/\bS y=some v/\iE (cN G Q N) g (x::y::cc)=some (.int (K u v))) (λn m y e ⟨u,v,a,b,c⟩=>⟨u,v,a,b,sS (q9 l e) c⟩) λy j=>?_;obtain⟨u,v,a,b,c⟩:=h x i y j;obtain⟨N,o⟩:=w4 l c;exact⟨N,u,v,a,b,o⟩
 obtain⟨N,o⟩:=common (p:=λN x=>∀y∈d,∃u v,bS x=some u/\bS y=some v/\iE (cN G Q N) g (x::y::cc)=some (.int (K u v))) (λn m x e i y j=>by
  obtain⟨u,v,a,b,c⟩:=i y j;exact⟨u,v,a,b,sS (q9 l e) c⟩) q
 refine⟨N,?_⟩;simp only[agree,qf];intro x i y j;obtain⟨u,v,a,b,c⟩:=o x i y j;simp[a,b,gZ,c]
end
def sT (x:Int):List Int->List Int
 | []=>[x]
 |y::r=>if x<=y then x::y::r else y::sT x r
def cg:List Int->List Int
 | []=>[]
 |x::r=>sT x (cg r)
theorem D0 (x:Int):∀l:List Int,(sT x l).Perm (x::l)
 | []=>List.Perm.refl _
 |y::r=>by
  unfold sT;split
  .exact List.Perm.refl _
  .exact((D0 x r).cons y).trans (List.Perm.swap x y r)
theorem uT:∀l:List Int,(cg l).Perm l
 | []=>List.Perm.refl _
 |x::r=>(D0 x _).trans ((uT r).cons x)
theorem Li{x:Int}:∀{l:List Int},l.Pairwise (·<=·)->(sT x l).Pairwise (·<=·)
 | [],_=>by simp[sT]
 |y::r,h=>by
  unfold sT;rw[kD]at h;split
  .rename_i b
   rw[kD,kD];refine⟨λz a=>?_,h⟩;rcases b5.1 a with rfl|a
   .exact b
   .have:=h.1 z a;omega
  .rename_i b
   rw[kD];refine⟨λz a=>?_,Li h.2⟩;rcases b5.1 ((D0 x r).mem_iff.1 a)with rfl|a
   .omega
   .exact h.1 z a
theorem D1:∀l:List Int,(cg l).Pairwise (·<=·)
 | []=>List.Pairwise.nil
 |_::r=>Li (D1 r)
theorem WJ{l m:List Int}(a:m.Perm l) (b:m.Pairwise (·<=·)):m=cg l:=
 List.Perm.eq_of_pairwise (le:=(·<=·)) (λx y _ _ h k=>by omega) b (D1 l) (a.trans (uT l).symm)
theorem WL (l:List Int):(l.mergeSort λx y=>decide (x<=y))=cg l:=by
 refine WJ (List.mergeSort_perm l _) ?_;have:=List.pairwise_mergeSort (le:=λx y:Int=>decide (x<=y)) (λa b c d e=>by simp at d e ⊢;omega) (λa b=>by simp;omega) l
 exact this.imp λh=>by simpa using h
def jG:CE->List AV->List ah->Option (AV×List ah):=λ_ args σ=>match args with
 | [.ae]=>some (.bF [],σ)
 | [.sl b u off len]=>match upto σ b u with
  |some B=>if B.st.isLive&&gv B.k&&decide (0<len)&&decide (off+len<=B.cells.length)&&decide (B.cells.length<=dz)then
    (match iJ ((B.cells.drop off).take len)with
    |some zs=>some (.bF [],ar σ b ⟨B.k,putAt B.cells off ((cg zs).map .int),B.st⟩)
    |none=>none)else none
  |none=>none
 |_=>none
theorem WM:∀a b:CE,CE.le a b->∀args σ v,jG a args σ=some v->jG b args σ=some v:=λ_ _ _ _ _ _ h=>h
def iK (ce:CE) (g:Nat) (cc:List AV) (d:List AV):Bool:=
 (List.range d.length).all λi=>(List.range d.length).all λj=>match d[i]?,d[j]? with
  |some x,some y=>(match gZ ce g cc x y with
   |some c=>decide (c<0)==decide (i<j)
   |none=>false)
  |_,_=>false
variable{g:Nat}{cc d:List AV}
theorem zT{ce:CE}(h:iK ce g cc d=true){i j:Nat}{x y:AV}(a:d[i]? = some x) (b:d[j]? = some y):∃c,gZ ce g cc x y=some c/\(c<0↔i<j):=by
 simp only[iK,qf,bT]at h;have:=h i (dq.1 a).1 j (dq.1 b).1;rw[a,b]at this;simp only at this;split at this
 .rename_i c e
  refine⟨c,e,?_⟩;simpa using this
 .simp at this
theorem WN{a b:CE}(h:CE.le a b)(e:iK a g cc d=true):iK b g cc d=true:=by
 simp only[iK,qf,bT];intro i l j m;obtain⟨c,n,o⟩:=zT e (cO l) (cO m);rw[cO l,cO m];simp[DZ h n,o]
theorem WO{G:Nat->Option Fn}{Q:jF}(w:dL Q)(h:∀(i j:Nat) x y,d[i]? = some x->d[j]? = some y->∃c,iE (lim G Q) g (x::y::cc)=some (.int c)/\(c<0↔i<j)):∃N,iK (cN G Q N) g cc d=true:=by
 have z:∀n m (q:Nat×Nat),n<=m->(∀x y,d[q.1]? = some x->d[q.2]? = some y->∃c,iE (cN G Q n) g (x::y::cc)=some (.int c)/\(c<0↔q.1<q.2))->∀x y,d[q.1]? = some x->d[q.2]? = some y->∃c,iE (cN G Q m) g (x::y::cc)=some (.int c)/\(c<0↔q.1<q.2):=λn m q u a x y o p=>by
  obtain⟨c,r,s⟩:=a x y o p;exact⟨c,sS (q9 w u) r,s⟩
 obtain⟨N,A⟩:=common z (l:=(List.range d.length).flatMap λi=>(List.range d.length).map λj=>(i,j)) λq a=>by
  simp only[qh,bT,cB]at a;obtain⟨i,b,j,e,rfl⟩:=a;obtain⟨c,r,s⟩:=h i j _ _ (cO b) (cO e);obtain⟨n,B⟩:=w4 w r;exact⟨n,λx y o p=>by
   simp only at o p;rw[cO b]at o;rw[cO e]at p;cases o;cases p
   exact⟨c,B,s⟩⟩
 refine⟨N,?_⟩;simp only[iK,qf,bT];intro i b j e;have a:(i,j)∈(List.range d.length).flatMap λi=>(List.range d.length).map λj=>(i,j):=by
  simp only[qh,bT,cB];exact⟨i,b,j,e,rfl⟩
 obtain⟨c,r,s⟩:=A (i,j) a _ _ (cO b) (cO e);rw[cO b,cO e];simp[gZ,r,s]
def Lj (x y:AV):Bool:=match x,y with
 |.agg [.int _,.int _,a],.agg [.int _,.int _,b]=>sB aP a b
 |.agg (a::_),.agg (b::_)=>sB b8 a b
 |_,_=>true
def uU (x:AV):List AV->List AV
 | []=>[x]
 |y::r=>if Lj x y then x::y::r else y::uU x r
def jH:List AV->List AV
 | []=>[]
 |x::r=>uU x (jH r)
theorem Lk (x:AV):∀l,(uU x l).Perm (x::l)
 | []=>.refl _
 |y::r=>by
  unfold uU;split
  .exact .refl _
  .exact((Lk x r).cons y).trans (.swap x y r)
theorem Ll:∀l,(jH l).Perm l
 | []=>.refl _
 |x::r=>(Lk x _).trans ((Ll r).cons x)
def iM (k:Nat):CE->List AV->List ah->Option (AV×List ah):=λce args σ=>match args with
 | [.ae,.func _ _]=>some (.bF [],σ)
 | [.au _ [],.func _ _]=>some (.bF [],σ)
 | [.sl b u off len,.func g cc]=>match upto σ b u with
  |some B=>if len==0 then some (.bF [],σ)else if sz B.k (some k)&&B.st.isLive&&decide (0<k)&&decide (off+len*k<=B.cells.length)&&decide (B.cells.length<=dz)&&iK ce g cc (jH (chunk (some k) len (B.cells.drop off)))then some (.bF [],ar σ b ⟨B.k,putAt B.cells off ((jH (chunk (some k) len (B.cells.drop off))).flatMap AV.cells),B.st⟩)else none
  |none=>none
 |_=>none
theorem WQ (k:Nat):∀a b:CE,CE.le a b->∀args σ v,iM k a args σ=some v->iM k b args σ=some v:=by
 intro a b h args σ v d;unfold iM at d ⊢;split at d
 .exact d
 .exact d
 .split at d
  .rename_i B i
   split at d
   .rename_i e
    rw[ab e];exact d
   .rename_i e
    rw[aa e];split at d
    .rename_i g
     simp only[aA]at g;rw[ab (by simp only[aA];exact⟨g.1,WN h g.2⟩)];exact d
    .simp at d
  .simp at d
 .simp at d
end Ab
