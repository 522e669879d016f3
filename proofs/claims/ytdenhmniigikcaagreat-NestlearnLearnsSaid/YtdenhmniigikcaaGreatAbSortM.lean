/- Functions of the library that are known by what they do: the sorting of a slice of words, the copy of a slice of lists. Orders of words, and sorted lists. The sorting of words: more fuel gives the same answer; with as much as is wanted. Condition: none. -/
import Derived.Test.YtdenhmniigikcaaGreatAbCore
import Derived.Test.YtdenhmniigikcaaGreatAbL
set_option linter.all false
open Option renaming some->aa,none->ab
open Bool renaming true->ad,false->ae
open List renaming range->af,replicate->ag,length->ah
open Int renaming toNat->aj
namespace Ab
def kg:ao->Option ak
 | []=>aa []
 |.int n::r=>match kg r with
  |some s=>aa (n::s)
  |none=>ab
 |_::_=>ab
def cD:AV->Option ak
 |.aX ae l=>kg l
 |_=>ab
def dx:ak->ak->Int
 | [],[]=>0
 | [],_::_=>-1
 |_::_,[]=>1
 |x::a,y::b=>if x<y then -1 else if y<x then 1 else dx a b
def bD (a b:ak):Int:=if (ah a)<ah b then -1 else if (ah b)<ah a then 1 else dx a b
def jF (ce:CE) (g:Nat) (a:ao) (x y:AV):Option Int:=match j7 ce g (x::y::a)with
 |some (.int c)=>aa c
 |_=>ab
def agree (ce:CE) (g:Nat) (a:ao) (K:ak->ak->Int) (d:ao):Bool:=
 d.all λx=>d.all λy=>match cD x,cD y with
  |some u,aa v=>(match jF ce g a x y with
   |some c=>c==K u v
   |none=>ae)
  |_,_=>ae
def vG (K:ak->ak->Int) (x y:AV):Bool:=match cD x,cD y with
 |some u,aa v=>decide (K u v<=0)
 |_,_=>ad
def sR (K:ak->ak->Int) (x:AV):ao->ao
 | []=>[x]
 |y::r=>if vG K x y then x::y::r else y::sR K x r
def eU (K:ak->ak->Int):ao->ao
 | []=>[]
 |x::r=>sR K x (eU K r)
def iS:Option Nat->Bool
 |none=>ad
 |some _=>ae
def nq:CE->ao->aq->Option (AV×aq):=λce args d=>match args with
 | [.aJ,.func _ _]=>aa (.bY [],d)
 | [.aX _ [],.func _ _]=>aa (.bY [],d)
 | [.sl b u off len,.func g a]=>match upto d b u with
  |some B=>if B.st.isLive&&iS B.k&&decide (0<len)&&decide (off+len<=ah B.cells)&&decide (ah B.cells<=eE)then
    (if agree ce g a bD ((B.cells.drop off).take len)then aa (.bY [],aV d b ⟨B.k,putAt B.cells off (eU bD ((B.cells.drop off).take len)),B.st⟩)
     else if agree ce g a dx ((B.cells.drop off).take len)then aa (.bY [],aV d b ⟨B.k,putAt B.cells off (eU dx ((B.cells.drop off).take len)),B.st⟩)
     else ab)else ab
  |none=>ab
 |_=>ab
def sj:AV->Bool
 |.int _ | .bool _ | .str _ | .aX _ _ | .aJ=>ad
 |_=>ae
def iI:CE->ao->aq->Option (AV×aq):=λ_ args a=>match args with
 | [.aJ]=>aa (.aX ae [],a)
 | [.aX _ []]=>aa (.aX ae [],a)
 | [.aX _ (x::l)]=>if(x::l).all sj&&aY (x::l)&&decide (ah (x::l)<=eE)then aa (.sl (ah a) (ah (x::l)) 0 (ah (x::l)),a ++ [⟨ab,(x::l).map gJ,.live⟩])else ab
 |_=>ab
def gw:CE->ao->aq->Option (AV×aq):=λ_ args a=>match args with
 | [.aJ]=>aa (.emp,a)
 | [.emp]=>aa (.emp,a)
 | [.aX _ []]=>aa (.emp,a)
 | [.aX _ (x::l)]=>if(x::l).all isScalar&&decide (ah (x::l)<=eE)then aa (.sl (ah a) (ah (x::l)) 0 (ah (x::l)),a ++ [⟨ab,x::l,.live⟩])else ab
 | [.sl b u off len]=>match upto a b u with
  |some B=>if B.st.isLive&&vD B.k ab&&decide (off+len<=ah B.cells)&&decide (len<=eE)then(if len==0 then aa (.emp,a)else aa (.sl (ah a) len 0 len,a ++ [⟨ab,(B.cells.drop off).take len,.live⟩]))else ab
  |none=>ab
 |_=>ab
def o9:CE->ao->aq->Option (AV×aq):=λ_ args a=>match args with
 | [.aJ,.int n]=>if n==0 then aa (.aJ,a)else if 0<n/\n<=eE then aa (.sl (ah a) (aj n) 0 0,a ++ [⟨ab,ag (aj n) (.int 0),.live⟩])else ab
 |_=>ab
def ll:CE->ao->aq->Option (AV×aq):=λ_ args a=>match args with
 | [.aJ,.int n]=>if n==0 then aa (.aJ,a)else if 0<n/\n<=eE then aa (.sl (ah a) (aj n) 0 0,a ++ [⟨ab,ag (aj n) .aJ,.live⟩])else ab
 |_=>ab
structure v7 (K:ak->ak->Int):Prop where
 refl:∀u,K u u=0
 gV:∀u v,K u v = - K v u
 eq:∀u v,K u v=0->u=v
 trans:∀u v w,K u v<=0->K v w<=0->K u w<=0
def AM:∀u,dx u u=0
 | []=>rfl
 |x::u=>by unfold dx;simp[AM u]
def HV:∀u v,dx u v = - dx v u
 | [],[]=>rfl
 | [],_::_=>rfl
 |_::_,[]=>rfl
 |x::u,y::v=>by
  unfold dx;have:=HV u v;rcases Int.lt_trichotomy x y with h|h|h
  .rw[aD h,aC ax,aD h]
  .subst h;simp;exact this
  .rw[aC ax,aD h,aD h];rfl
def HW:∀u v,dx u v=0->u=v
 | [],[],_=>rfl
 | [],_::_,h=>by simp[dx]at h
 |_::_,[],h=>by simp[dx]at h
 |x::u,y::v,h=>by
  unfold dx at h;rcases Int.lt_trichotomy x y with a|a|a
  .rw[aD a]at h;omega
  .subst a;simp at h;rw[HW u v h]
  .rw[aC ax,aD a]at h;omega
def HX:∀u v w,dx u v<=0->dx v w<=0->dx u w<=0
 | [],[],_,_,h=>h
 | [],_::_,[],_,h=>by simp[dx]at h
 | [],_::_,_::_,_,_=>by simp[dx]
 |_::_,[],_,h,_=>by simp[dx]at h
 |_::_,_::_,[],_,h=>by simp[dx]at h
 |x::u,y::v,z::w,e,d=>by
  unfold dx at e d ⊢;rcases Int.lt_trichotomy x y with a|a|a
  .rcases Int.lt_trichotomy y z with b|b|b
   .rw[aD ax];omega
   .subst b;rw[aD a];omega
   .rw[aC ax,aD b]at d;omega
  .subst a
   rcases Int.lt_trichotomy x z with b|b|b
   .rw[aD b];omega
   .subst b;simp at e d ⊢;exact HX u v w e d
   .rw[aC ax,aD b]at d;omega
  .rw[aC ax,aD a]at e;omega
def Pn:v7 dx:=⟨AM,HV,HW,HX⟩
def dO:v7 bD:=by
 refine⟨λu=>by simp[bD,AM],λu v=>?_,λu v h=>?_,λu v w e d=>?_⟩
 .unfold bD
  have:=HV u v;rcases Nat.lt_trichotomy (ah u) (ah v) with h|h|h
  .rw[aD h,aC ax,aD h]
  .rw[aC ax,aC ax,aC ax,aC ax];exact this
  .rw[aC ax,aD h,aD h];rfl
 .unfold bD at h
  split at h
  .omega
  split at h
  .omega
  exact HW u v h
 .unfold bD at e d ⊢
  rcases Nat.lt_trichotomy (ah u) (ah v) with a|a|a
  .rcases Nat.lt_trichotomy (ah v) (ah w) with b|b|b
   .rw[aD ax];omega
   .rw[aD ax];omega
   .rw[aC ax,aD b]at d;omega
  .rcases Nat.lt_trichotomy (ah v) (ah w) with b|b|b
   .rw[aD ax];omega
   .rw[aC ax,aC ax]at e d ⊢;exact HX u v w e d
   .rw[aC ax,aD b]at d;omega
  .rw[aC ax,aD a]at e;omega
def HY:∀{l:ao}{u:ak},kg l=aa u->l=u.map .int
 | [],u,h=>by simp[kg]at h;subst h;rfl
 |x::r,u,h=>by
  unfold kg at h;split at h
  .rename_i a;simp at a
  .rename_i n d a
   simp at a;obtain⟨rfl,rfl⟩:=a;cases b:kg r with
   |none=>simp[b]at h
   |some s=>simp[b]at h;subst h;simp[HY b]
  .simp at h
def HZ:∀(u:ak),kg (u.map .int)=aa u
 | []=>rfl
 |x::u=>by simp[kg,HZ u]
def Po{x:AV}{u:ak}(h:cD x=aa u):x = .aX ae (u.map .int):=by
 unfold cD at h;split at h
 .rw[HY h]
 .simp at h
def yJ (u:ak):cD (.aX ae (u.map .int))=aa u:=HZ u
section
variable{K:ak->ak->Int}
def H0 (x:AV):∀l,(sR K x l).Perm (x::l)
 | []=>.refl _
 |y::r=>by
  unfold sR;split
  .exact .refl _
  .exact((H0 x r).cons y).trans (.swap x y r)
def wa:∀l,(eU K l).Perm l
 | []=>.refl _
 |x::r=>(H0 x _).trans ((wa r).cons x)
def lq (l:ao):Prop:=∀x∈l,∃u,cD x=aa u
variable{x y:AV}{u v:ak}
def sS(h:cD x=aa u) (k:cD y=aa v):vG K x y=ad↔K u v<=0:=by simp[vG,h,k]
def abt (d:v7 K)(a:cD x=aa u) (b:cD y=aa v) (h:vG K x y=ad) (k:vG K y x=ad):x=y:=by
 rw[sS a b]at h;rw[sS b a,d.gV]at k;have:=d.eq u v ax
 subst this;rw[Po a,Po b]
def Pp (i:v7 K){x:AV}:∀{l:ao},lq (x::l)->l.Pairwise (λx y=>vG K x y=ad)->(sR K x l).Pairwise (λx y=>vG K x y=ad)
 | [],_,_=>by simp[sR]
 |y::r,d,h=>by
  obtain⟨u,e⟩:=d x aA
  obtain⟨v,g⟩:=d y aA
  unfold sR;split
  .rename_i a
   refine jV.2 ⟨λz b=>?_,h⟩;rcases cC.1 b with rfl|b
   .exact a
   .obtain⟨t,j⟩:=d z fS
    have:=(jV.1 h).1 z b;rw[sS g j]at this;rw[sS e g]at a;rw[sS e j];exact i.trans _ _ _ a this
  .rename_i a
   have m:=Pp i (x:=x) (l:=r) (λz b=>d z (by rcases cC.1 b with rfl|b<;>simp[*])) (jV.1 h).2
   refine jV.2 ⟨λz b=>?_,m⟩;rcases cC.1 ((H0 x r).mem_iff.1 b)with rfl|b
   .rw[sS e g]at a
    rw[sS g e,i.gV];omega
   .exact(jV.1 h).1 z b
def H2 (d:v7 K):∀{l:ao},lq l->(eU K l).Pairwise (λx y=>vG K x y=ad)
 | [],_=>by simp[eU]
 |x::r,e=>by
  have a : lq r:=λz b=>e z fS
  refine Pp d (λz b=>?_) (H2 d a);rcases cC.1 b with rfl|b
  .exact e z aA
  .exact a z ((wa r).mem_iff.1 b)
def Pq (b:v7 K){l m:ao}(a:lq l) (d:m.Perm l) (e:m.Pairwise (λx y=>vG K x y=ad)):m=eU K l:=by
 refine List.Perm.eq_of_pairwise (le:=λx y=>vG K x y=ad) (λx y g i h k=>?_) e (H2 b a) (d.trans (wa l).symm);obtain⟨u,j⟩:=a x (d.mem_iff.1 g);obtain⟨v,n⟩:=a y ((wa l).mem_iff.1 i);exact abt b j n h k
end
variable{g:Nat}{cU d:ao}{x y:AV}
def sT{ce:CE}{K:ak->ak->Int}(h:agree ce g cU K d=ad)(a:x∈d) (b:y∈d):∃u v,cD x=aa u/\cD y=aa v/\jF ce g cU x y=aa (K u v):=by
 simp only[agree,sU]at h;have:=h x a y b;split at this
 .rename_i u v e i
  split at this
  .rename_i c j
   simp only[dA]at this;subst this;exact⟨u,v,e,i,j⟩
  .simp at this
 .simp at this
variable{a b:CE}
def H3(h:CE.le a b){c:Int}(e:jF a g cU x y=aa c):jF b g cU x y=aa c:=by
 unfold jF at e ⊢;cases d:j7 a g (x::y::cU)with
 |none=>rw[d]at e;simp at e
 |some r=>rw[wb h d];rw[d]at e;exact e
def Pr(h:CE.le a b){K:ak->ak->Int}(e:agree a g cU K d=ad):agree b g cU K d=ad:=by
 simp only[agree,sU];intro x i y j;obtain⟨u,v,l,m,n⟩:=sT e i j;simp[l,m,H3 h n]
def abu(h:CE.le a b){K j : ak->ak->Int}(e:agree a g cU K d=ad) (s : agree b g cU j d=ad):agree a g cU j d=ad:=by
 simp only[agree,sU];intro x l y m;obtain⟨u,v,n,o,p⟩:=sT e l m;obtain⟨w, z, q,r,i⟩:=sT s l m;rw[n]at q;rw[o]at r;cases q;cases r
 have:=H3 h p;rw[this]at i;simp only[ct]at i;simp[n,o,p,i]
def abv:∀a b:CE,CE.le a b->∀args σ v,nq a args σ=aa v->nq b args σ=aa v:=by
 intro a b h args σ v d;unfold nq at d ⊢;split at d
 .exact d
 .exact d
 .split at d
  .rename_i B l
   split at d
   .rename_i j
    rw[aD j];split at d
    .rename_i g
     rw[aD (Pr h g)];exact d
    .rename_i i
     split at d
     .rename_i g
      rw[aC (λe=>i (abu h g e)),aD (Pr h g)];exact d
     .simp at d
   .simp at d
  .simp at d
 .simp at d
def abw:∀a b:CE,CE.le a b->∀args σ v,gw a args σ=aa v->gw b args σ=aa v:=λ_ _ _ _ _ _ h=>h
def abx:∀a b:CE,CE.le a b->∀args σ v,iI a args σ=aa v->iI b args σ=aa v:=λ_ _ _ _ _ _ h=>h
def aby:∀a b:CE,CE.le a b->∀args σ v,ll a args σ=aa v->ll b args σ=aa v:=λ_ _ _ _ _ _ h=>h
def abz:∀a b:CE,CE.le a b->∀args σ v,o9 a args σ=aa v->o9 b args σ=aa v:=λ_ _ _ _ _ _ h=>h
def common{g:Type}{p:Nat->g->Prop}(d:∀n m x,n<=m->p n x->p m x):∀{l:List g},(∀x∈l,∃n,p n x)->∃n,∀x∈l,p n x
 | [],_=>⟨0,aA⟩
 |a::l,h=>by
  obtain⟨n,i⟩:=h a aA
  obtain⟨m,e⟩:=common d (l:=l) λx b=>h x fS
  refine⟨max n m,λx b=>?_⟩;rcases cC.1 b with rfl|b
  .exact d _ _ _ (Nat.le_max_left n m) i
  .exact d _ _ _ (Nat.le_max_right n m) (e x b)
section
variable{G:Nat->Option Fn}{Q:lr}
def abA (l:eR Q){g:Nat}{cU:ao}{K:ak->ak->Int}{d:ao}(h:∀x∈d,∀y∈d,∃u v,cD x=aa u/\cD y=aa v/\j7 (lim G Q) g (x::y::cU)=aa (.int (K u v))):∃N,agree (cN G Q N) g cU K d=ad:=by
 have q:∀x∈d,∃N,∀y∈d,∃u v,cD x=aa u/\cD y=aa v/\j7 (cN G Q N) g (x::y::cU)=aa (.int (K u v)):=λx i=>by
  refine common (p:=λN y=>∃u v,cD x=aa u/\cD y=aa v/\j7 (cN G Q N) g (x::y::cU)=aa (.int (K u v))) (λn m y e ⟨u,v,a,b,c⟩=>⟨u,v,a,b,wb (uw l e) c⟩) λy j=>?_;obtain⟨u,v,a,b,c⟩:=h x i y j;obtain⟨N,o⟩:=AN l c;exact⟨N,u,v,a,b,o⟩
 obtain⟨N,o⟩:=common (p:=λN x=>∀y∈d,∃u v,cD x=aa u/\cD y=aa v/\j7 (cN G Q N) g (x::y::cU)=aa (.int (K u v))) (λn m x e i y j=>by
  obtain⟨u,v,a,b,c⟩:=i y j;exact⟨u,v,a,b,wb (uw l e) c⟩) q
 refine⟨N,?_⟩;simp only[agree,sU];intro x i y j;obtain⟨u,v,a,b,c⟩:=o x i y j;simp[a,b,jF,c]
end
def we (x:Int):ak->ak
 | []=>[x]
 |y::r=>if x<=y then x::y::r else y::we x r
def cY:ak->ak
 | []=>[]
 |x::r=>we x (cY r)
def H4 (x:Int):∀l:ak,(we x l).Perm (x::l)
 | []=>List.Perm.refl _
 |y::r=>by
  unfold we;split
  .exact List.Perm.refl _
  .exact((H4 x r).cons y).trans (List.Perm.swap x y r)
def yK:∀l:ak,(cY l).Perm l
 | []=>List.Perm.refl _
 |x::r=>(H4 x _).trans ((yK r).cons x)
def Ps{x:Int}:∀{l:ak},l.Pairwise (·<=·)->(we x l).Pairwise (·<=·)
 | [],_=>by simp[we]
 |y::r,h=>by
  unfold we;rw[jV]at h;split
  .rename_i b
   rw[jV,jV];refine⟨λz a=>?_,h⟩;rcases cC.1 a with rfl|a
   .exact b
   .have:=h.1 z a;omega
  .rename_i b
   rw[jV];refine⟨λz a=>?_,Ps h.2⟩;rcases cC.1 ((H4 x r).mem_iff.1 a)with rfl|a
   .omega
   .exact h.1 z a
def H5:∀l:ak,(cY l).Pairwise (·<=·)
 | []=>List.Pairwise.nil
 |_::r=>Ps (H5 r)
def abB{l m:ak}(a:m.Perm l) (b:m.Pairwise (·<=·)):m=cY l:=
 List.Perm.eq_of_pairwise (le:=(·<=·)) (λx y _ _ h k=>ax) b (H5 l) (a.trans (yK l).symm)
def abC (l:ak):(l.mergeSort λx y=>decide (x<=y))=cY l:=by
 refine abB (List.mergeSort_perm l _) ?_;have:=List.pairwise_mergeSort (le:=λx y:Int=>decide (x<=y)) (λa b c d e=>by simp at d e ⊢;omega) (λa b=>aT) l
 exact this.imp λh=>du
def lu:CE->ao->aq->Option (AV×aq):=λ_ args a=>match args with
 | [.aJ]=>aa (.bY [],a)
 | [.sl b u off len]=>match upto a b u with
  |some B=>if B.st.isLive&&iS B.k&&decide (0<len)&&decide (off+len<=ah B.cells)&&decide (ah B.cells<=eE)then
    (match kg ((B.cells.drop off).take len)with
    |some d=>aa (.bY [],aV a b ⟨B.k,putAt B.cells off ((cY d).map .int),B.st⟩)
    |none=>ab)else ab
  |none=>ab
 |_=>ab
def abD:∀a b:CE,CE.le a b->∀args σ v,lu a args σ=aa v->lu b args σ=aa v:=λ_ _ _ _ _ _ h=>h
def kh (ce:CE) (g:Nat) (cU:ao) (d:ao):Bool:=
 (af (ah d)).all λi=>(af (ah d)).all λj=>match d[i]?,d[j]? with
  |some x,aa y=>(match jF ce g cU x y with
   |some c=>decide (c<0)==decide (i<j)
   |none=>ae)
  |_,_=>ae
variable{g:Nat}{cU d:ao}
def D3{ce:CE}(h:kh ce g cU d=ad){i j:Nat}{x y:AV}(a:d[i]? = aa x) (b:d[j]? = aa y):∃c,jF ce g cU x y=aa c/\(c<0↔i<j):=by
 simp only[kh,sU,cE]at h;have:=h i (dp.1 a).1 j (dp.1 b).1;rw[a,b]at this;simp only at this;split at this
 .rename_i c e
  refine⟨c,e,?_⟩;simpa using this
 .simp at this
def abE{a b:CE}(h:CE.le a b)(e:kh a g cU d=ad):kh b g cU d=ad:=by
 simp only[kh,sU,cE];intro i l j m;obtain⟨c,n,o⟩:=D3 e (dG l) (dG m);rw[dG l,dG m];simp[H3 h n,o]
def abF{G:Nat->Option Fn}{Q:lr}(w:eR Q)(h:∀(i j:Nat) x y,d[i]? = aa x->d[j]? = aa y->∃c,j7 (lim G Q) g (x::y::cU)=aa (.int c)/\(c<0↔i<j)):∃N,kh (cN G Q N) g cU d=ad:=by
 have z:∀n m (q:Nat×Nat),n<=m->(∀x y,d[q.1]? = aa x->d[q.2]? = aa y->∃c,j7 (cN G Q n) g (x::y::cU)=aa (.int c)/\(c<0↔q.1<q.2))->∀x y,d[q.1]? = aa x->d[q.2]? = aa y->∃c,j7 (cN G Q m) g (x::y::cU)=aa (.int c)/\(c<0↔q.1<q.2):=λn m q u a x y o p=>by
  obtain⟨c,r,s⟩:=a x y o p;exact⟨c,wb (uw w u) r,s⟩
 obtain⟨N,A⟩:=common z (l:=(af (ah d)).flatMap λi=>(af (ah d)).map λj=>(i,j)) λq a=>by
  simp only[oF,cE,cJ]at a;obtain⟨i,b,j,e,rfl⟩:=a;obtain⟨c,r,s⟩:=h i j _ _ (dG b) (dG e);obtain⟨n,B⟩:=AN w r;exact⟨n,λx y o p=>by
   simp only at o p;rw[dG b]at o;rw[dG e]at p;cases o;cases p
   exact⟨c,B,s⟩⟩
 refine⟨N,?_⟩;simp only[kh,sU,cE];intro i b j e;have a:(i,j)∈(af (ah d)).flatMap λi=>(af (ah d)).map λj=>(i,j):=by
  simp only[oF,cE,cJ];exact⟨i,b,j,e,rfl⟩
 obtain⟨c,r,s⟩:=A (i,j) a _ _ (dG b) (dG e);rw[dG b,dG e];simp[jF,r,s]
def Pt (x y:AV):Bool:=match x,y with
 |.agg [.int _,.int _,a],.agg [.int _,.int _,b]=>vG bD a b
 |.agg (a::_),.agg (b::_)=>vG dx a b
 |_,_=>ad
def yL (x:AV):ao->ao
 | []=>[x]
 |y::r=>if Pt x y then x::y::r else y::yL x r
def lz:ao->ao
 | []=>[]
 |x::r=>yL x (lz r)
def Pu (x:AV):∀l,(yL x l).Perm (x::l)
 | []=>.refl _
 |y::r=>by
  unfold yL;split
  .exact .refl _
  .exact((Pu x r).cons y).trans (.swap x y r)
def Pv:∀l,(lz l).Perm l
 | []=>.refl _
 |x::r=>(Pu x _).trans ((Pv r).cons x)
def ki (k:Nat):CE->ao->aq->Option (AV×aq):=λce args a=>match args with
 | [.aJ,.func _ _]=>aa (.bY [],a)
 | [.aX _ [],.func _ _]=>aa (.bY [],a)
 | [.sl b u off len,.func g cU]=>match upto a b u with
  |some B=>if len==0 then aa (.bY [],a)else if vD B.k (aa k)&&B.st.isLive&&decide (0<k)&&decide (off+len*k<=ah B.cells)&&decide (ah B.cells<=eE)&&kh ce g cU (lz (chunk (aa k) len (B.cells.drop off)))then aa (.bY [],aV a b ⟨B.k,putAt B.cells off ((lz (chunk (aa k) len (B.cells.drop off))).flatMap AV.cells),B.st⟩)else ab
  |none=>ab
 |_=>ab
def abG (k:Nat):∀a b:CE,CE.le a b->∀args σ v,ki k a args σ=aa v->ki k b args σ=aa v:=by
 intro a b h args σ v d;unfold ki at d ⊢;split at d
 .exact d
 .exact d
 .split at d
  .rename_i B i
   split at d
   .rename_i e
    rw[aD e];exact d
   .rename_i e
    rw[aC e];split at d
    .rename_i g
     simp only[bd]at g;rw[aD (by simp only[bd];exact⟨g.1,abE h g.2⟩)];exact d
    .simp at d
  .simp at d
 .simp at d
end Ab
