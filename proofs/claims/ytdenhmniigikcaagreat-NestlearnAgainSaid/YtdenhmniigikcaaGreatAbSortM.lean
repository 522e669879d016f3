/- Functions of the library that are known by what they do: the sorting of a slice of words, the copy of a slice of lists. Orders of words, and sorted lists. The sorting of words: more fuel gives the same answer; with as much as is wanted. Condition: none. -/
import Derived.Test.YtdenhmniigikcaaGreatAbCore
import Derived.Test.YtdenhmniigikcaaGreatAbL
set_option linter.all false
namespace Ab
def jj:List AV->Option (List Int)
 | []=>some []
 |.int n::r=>match jj r with
  |some s=>some (n::s)
  |none=>none
 |_::_=>none
def cj:AV->Option (List Int)
 |.aE false l=>jj l
 |_=>none
def cP:List Int->List Int->Int
 | [],[]=>0
 | [],_::_=>-1
 |_::_,[]=>1
 |x::a,y::b=>if x<y then -1 else if y<x then 1 else cP a b
def aV (a b:List Int):Int:=if a.length<b.length then -1 else if b.length<a.length then 1 else cP a b
def iF (ce:CE) (g:Nat) (aI:List AV) (x y:AV):Option Int:=match iZ ce g (x::y::aI)with
 |some (.int c)=>some c
 |_=>none
def agree (ce:CE) (g:Nat) (aI:List AV) (K:List Int->List Int->Int) (d:List AV):Bool:=
 d.all λx=>d.all λy=>match cj x,cj y with
  |some u,some v=>(match iF ce g aI x y with
   |some c=>c==K u v
   |none=>false)
  |_,_=>false
def tT (K:List Int->List Int->Int) (x y:AV):Bool:=match cj x,cj y with
 |some u,some v=>decide (K u v<=0)
 |_,_=>true
def rk (K:List Int->List Int->Int) (x:AV):List AV->List AV
 | []=>[x]
 |y::r=>if tT K x y then x::y::r else y::rk K x r
def dZ (K:List Int->List Int->Int):List AV->List AV
 | []=>[]
 |x::r=>rk K x (dZ K r)
def gR:Option Nat->Bool
 |none=>true
 |some _=>false
def lL:CE->List AV->List ag->Option (AV×List ag):=λce args σ=>match args with
 | [.ah,.func _ _]=>some (.bQ [],σ)
 | [.aE _ [],.func _ _]=>some (.bQ [],σ)
 | [.sl b u off len,.func g aI]=>match upto σ b u with
  |some B=>if B.st.isLive&&gR B.k&&decide (0<len)&&decide (off+len<=B.cells.length)&&decide (B.cells.length<=dE)then
    (if agree ce g aI aV ((B.cells.drop off).take len)then some (.bQ [],ay σ b ⟨B.k,putAt B.cells off (dZ aV ((B.cells.drop off).take len)),B.st⟩)
     else if agree ce g aI cP ((B.cells.drop off).take len)then some (.bQ [],ay σ b ⟨B.k,putAt B.cells off (dZ cP ((B.cells.drop off).take len)),B.st⟩)
     else none)else none
  |none=>none
 |_=>none
def qE:AV->Bool
 |.int _ | .bool _ | .str _ | .aE _ _ | .ah=>true
 |_=>false
def gE:CE->List AV->List ag->Option (AV×List ag):=λ_ args σ=>match args with
 | [.ah]=>some (.aE false [],σ)
 | [.aE _ []]=>some (.aE false [],σ)
 | [.aE _ (x::l)]=>if(x::l).all qE&&ax (x::l)&&decide ((x::l).length<=dE)then some (.sl σ.length (x::l).length 0 (x::l).length,σ ++ [⟨none,(x::l).map fR,.live⟩])else none
 |_=>none
def fZ:CE->List AV->List ag->Option (AV×List ag):=λ_ args σ=>match args with
 | [.ah]=>some (.emp,σ)
 | [.emp]=>some (.emp,σ)
 | [.aE _ []]=>some (.emp,σ)
 | [.aE _ (x::l)]=>if(x::l).all isScalar&&decide ((x::l).length<=dE)then some (.sl σ.length (x::l).length 0 (x::l).length,σ ++ [⟨none,x::l,.live⟩])else none
 | [.sl b u off len]=>match upto σ b u with
  |some B=>if B.st.isLive&&tQ B.k none&&decide (off+len<=B.cells.length)&&decide (len<=dE)then(if len==0 then some (.emp,σ)else some (.sl σ.length len 0 len,σ ++ [⟨none,(B.cells.drop off).take len,.live⟩]))else none
  |none=>none
 |_=>none
def na:CE->List AV->List ag->Option (AV×List ag):=λ_ args σ=>match args with
 | [.ah,.int n]=>if n==0 then some (.ah,σ)else if 0<n/\n<=dE then some (.sl σ.length n.toNat 0 0,σ ++ [⟨none,List.replicate n.toNat (.int 0),.live⟩])else none
 |_=>none
def j8:CE->List AV->List ag->Option (AV×List ag):=λ_ args σ=>match args with
 | [.ah,.int n]=>if n==0 then some (.ah,σ)else if 0<n/\n<=dE then some (.sl σ.length n.toNat 0 0,σ ++ [⟨none,List.replicate n.toNat .ah,.live⟩])else none
 |_=>none
structure BE (K:List Int->List Int->Int):Prop where
 refl:∀u,K u u=0
 gF:∀u v,K u v = - K v u
 eq:∀u v,K u v=0->u=v
 trans:∀u v w,K u v<=0->K v w<=0->K u w<=0
theorem yu:∀u,cP u u=0
 | []=>rfl
 |x::u=>by unfold cP;simp[yu u]
theorem Ho:∀u v,cP u v = - cP v u
 | [],[]=>rfl
 | [],_::_=>rfl
 |_::_,[]=>rfl
 |x::u,y::v=>by
  unfold cP;have:=Ho u v;rcases Int.lt_trichotomy x y with h|h|h
  ·rw[ab h,aa (by omega),ab h]
  ·subst h;simp;exact this
  ·rw[aa (by omega),ab h,ab h];rfl
theorem Hp:∀u v,cP u v=0->u=v
 | [],[],_=>rfl
 | [],_::_,h=>by simp[cP]at h
 |_::_,[],h=>by simp[cP]at h
 |x::u,y::v,h=>by
  unfold cP at h;rcases Int.lt_trichotomy x y with h1|h1|h1
  ·rw[ab h1]at h;omega
  ·subst h1;simp at h;rw[Hp u v h]
  ·rw[aa (by omega),ab h1]at h;omega
theorem Hq:∀u v w,cP u v<=0->cP v w<=0->cP u w<=0
 | [],[],_,_,h=>h
 | [],_::_,[],_,h=>by simp[cP]at h
 | [],_::_,_::_,_,_=>by simp[cP]
 |_::_,[],_,h,_=>by simp[cP]at h
 |_::_,_::_,[],_,h=>by simp[cP]at h
 |x::u,y::v,z::w,h1,h2=>by
  unfold cP at h1 h2 ⊢;rcases Int.lt_trichotomy x y with a|a|a
  ·rcases Int.lt_trichotomy y z with b|b|b
   ·rw[ab (by omega)];omega
   ·subst b;rw[ab a];omega
   ·rw[aa (by omega),ab b]at h2;omega
  ·subst a
   rcases Int.lt_trichotomy x z with b|b|b
   ·rw[ab b];omega
   ·subst b;simp at h1 h2 ⊢;exact Hq u v w h1 h2
   ·rw[aa (by omega),ab b]at h2;omega
  ·rw[aa (by omega),ab a]at h1;omega
theorem ME:BE cP:=⟨yu,Ho,Hp,Hq⟩
theorem dJ:BE aV:=by
 refine⟨λu=>by simp[aV,yu],λu v=>?_,λu v h=>?_,λu v w h1 h2=>?_⟩
 ·unfold aV
  have:=Ho u v;rcases Nat.lt_trichotomy u.length v.length with h|h|h
  ·rw[ab h,aa (by omega),ab h]
  ·rw[aa (by omega),aa (by omega),aa (by omega),aa (by omega)];exact this
  ·rw[aa (by omega),ab h,ab h];rfl
 ·unfold aV at h
  split at h
  ·omega
  split at h
  ·omega
  exact Hp u v h
 ·unfold aV at h1 h2 ⊢
  rcases Nat.lt_trichotomy u.length v.length with a|a|a
  ·rcases Nat.lt_trichotomy v.length w.length with b|b|b
   ·rw[ab (by omega)];omega
   ·rw[ab (by omega)];omega
   ·rw[aa (by omega),ab b]at h2;omega
  ·rcases Nat.lt_trichotomy v.length w.length with b|b|b
   ·rw[ab (by omega)];omega
   ·rw[aa (by omega),aa (by omega)]at h1 h2 ⊢;exact Hq u v w h1 h2
   ·rw[aa (by omega),ab b]at h2;omega
  ·rw[aa (by omega),ab a]at h1;omega
theorem Hr:∀{l:List AV}{u:List Int},jj l=some u->l=u.map .int
 | [],u,h=>by simp[jj]at h;subst h;rfl
 |x::r,u,h=>by
  unfold jj at h;split at h
  ·rename_i h1;simp at h1
  ·rename_i n r' h1
   simp at h1;obtain⟨rfl,rfl⟩:=h1;cases hr:jj r with
   |none=>simp[hr]at h
   |some s=>simp[hr]at h;subst h;simp[Hr hr]
  ·simp at h
theorem Ht:∀(u:List Int),jj (u.map .int)=some u
 | []=>rfl
 |x::u=>by simp[jj,Ht u]
theorem MF{x:AV}{u:List Int}(h:cj x=some u):x = .aE false (u.map .int):=by
 unfold cj at h;split at h
 ·rw[Hr h]
 ·simp at h
theorem v8 (u:List Int):cj (.aE false (u.map .int))=some u:=Ht u
section
variable{K:List Int->List Int->Int}
theorem Hu (x:AV):∀l,(rk K x l).Perm (x::l)
 | []=>.refl _
 |y::r=>by
  unfold rk;split
  ·exact .refl _
  ·exact((Hu x r).cons y).trans (.swap x y r)
theorem uh:∀l,(dZ K l).Perm l
 | []=>.refl _
 |x::r=>(Hu x _).trans ((uh r).cons x)
def j9 (l:List AV):Prop:=∀x∈l,∃u,cj x=some u
theorem rm{x y:AV}{u v:List Int}(h:cj x=some u) (k:cj y=some v):tT K x y=true↔K u v<=0:=by simp[tT,h,k]
theorem YU (hK:BE K){x y:AV}{u v:List Int}(hx:cj x=some u) (hy:cj y=some v) (h:tT K x y=true) (k:tT K y x=true):x=y:=by
 rw[rm hx hy]at h;rw[rm hy hx,hK.gF]at k;have:=hK.eq u v (by omega)
 subst this;rw[MF hx,MF hy]
theorem MG (hK:BE K){x:AV}:∀{l:List AV},j9 (x::l)->l.Pairwise (λx y=>tT K x y=true)->(rk K x l).Pairwise (λx y=>tT K x y=true)
 | [],_,_=>by simp[rk]
 |y::r,hw,h=>by
  obtain⟨u,hu⟩:=hw x (by simp)
  obtain⟨v,hv⟩:=hw y (by simp)
  unfold rk;split
  ·rename_i wa
   refine kV.2 ⟨λz hz=>?_,h⟩;rcases cB.1 hz with rfl|hz
   ·exact wa
   ·obtain⟨t,ht⟩:=hw z (by simp[hz])
    have:=(kV.1 h).1 z hz;rw[rm hv ht]at this;rw[rm hu hv]at wa;rw[rm hu ht];exact hK.trans _ _ _ wa this
  ·rename_i wa
   have ih:=MG hK (x:=x) (l:=r) (λz hz=>hw z (by rcases cB.1 hz with rfl|hz<;>simp[*])) (kV.1 h).2
   refine kV.2 ⟨λz hz=>?_,ih⟩;rcases cB.1 ((Hu x r).mem_iff.1 hz)with rfl|hz
   ·rw[rm hu hv]at wa
    rw[rm hv hu,hK.gF];omega
   ·exact(kV.1 h).1 z hz
theorem Hv (hK:BE K):∀{l:List AV},j9 l->(dZ K l).Pairwise (λx y=>tT K x y=true)
 | [],_=>by simp[dZ]
 |x::r,hw=>by
  have ui : j9 r:=λz hz=>hw z (by simp[hz])
  refine MG hK (λz hz=>?_) (Hv hK ui);rcases cB.1 hz with rfl|hz
  ·exact hw z (by simp)
  ·exact ui z ((uh r).mem_iff.1 hz)
theorem MH (hK:BE K){l m:List AV}(hw:j9 l) (hp:m.Perm l) (hs:m.Pairwise (λx y=>tT K x y=true)):m=dZ K l:=by
 refine List.Perm.eq_of_pairwise (le:=λx y=>tT K x y=true) (λx y hx hy h k=>?_) hs (Hv hK hw) (hp.trans (uh l).symm);obtain⟨u,hu⟩:=hw x (hp.mem_iff.1 hx);obtain⟨v,hv⟩:=hw y ((uh l).mem_iff.1 hy);exact YU hK hu hv h k
end
theorem rn{ce:CE}{g:Nat}{aI:List AV}{K:List Int->List Int->Int}{d:List AV}(h:agree ce g aI K d=true){x y:AV}(hx:x∈d) (hy:y∈d):∃u v,cj x=some u/\cj y=some v/\iF ce g aI x y=some (K u v):=by
 simp only[agree,rp]at h;have:=h x hx y hy;split at this
 ·rename_i u v h1 h2
  split at this
  ·rename_i c h3
   simp only[cL]at this;subst this;exact⟨u,v,h1,h2,h3⟩
  ·simp at this
 ·simp at this
theorem Hw{a b:CE}(h:CE.le a b){g:Nat}{aI:List AV}{x y:AV}{c:Int}(e:iF a g aI x y=some c):iF b g aI x y=some c:=by
 unfold iF at e ⊢;cases hp:iZ a g (x::y::aI)with
 |none=>rw[hp]at e;simp at e
 |some r=>rw[uj h hp];rw[hp]at e;exact e
theorem MI{a b:CE}(h:CE.le a b){g:Nat}{aI:List AV}{K:List Int->List Int->Int}{d:List AV}(e:agree a g aI K d=true):agree b g aI K d=true:=by
 simp only[agree,rp];intro x hx y hy;obtain⟨u,v,h1,h2,h3⟩:=rn e hx hy;simp[h1,h2,Hw h h3]
theorem YV{a b:CE}(h:CE.le a b){g:Nat}{aI:List AV}{K K' : List Int->List Int->Int}{d:List AV}(e:agree a g aI K d=true) (e' : agree b g aI K' d=true):agree a g aI K' d=true:=by
 simp only[agree,rp];intro x hx y hy;obtain⟨u,v,h1,h2,h3⟩:=rn e hx hy;obtain⟨u', v', k1,k2,k3⟩:=rn e' hx hy;rw[h1]at k1;rw[h2]at k2;cases k1;cases k2
 have:=Hw h h3;rw[this]at k3;simp only[bF]at k3;simp[h1,h2,h3,k3]
theorem YW:∀a b:CE,CE.le a b->∀args σ v,lL a args σ=some v->lL b args σ=some v:=by
 intro a b h args σ v hp;unfold lL at hp ⊢;split at hp
 ·exact hp
 ·exact hp
 ·split at hp
  ·rename_i B hu
   split at hp
   ·rename_i hc
    rw[ab hc];split at hp
    ·rename_i pL
     rw[ab (MI h pL)];exact hp
    ·rename_i FQ
     split at hp
     ·rename_i pL
      rw[aa (λe=>FQ (YV h pL e)),ab (MI h pL)];exact hp
     ·simp at hp
   ·simp at hp
  ·simp at hp
 ·simp at hp
theorem YX:∀a b:CE,CE.le a b->∀args σ v,fZ a args σ=some v->fZ b args σ=some v:=λ_ _ _ _ _ _ h=>h
theorem YY:∀a b:CE,CE.le a b->∀args σ v,gE a args σ=some v->gE b args σ=some v:=λ_ _ _ _ _ _ h=>h
theorem YZ:∀a b:CE,CE.le a b->∀args σ v,j8 a args σ=some v->j8 b args σ=some v:=λ_ _ _ _ _ _ h=>h
theorem Y0:∀a b:CE,CE.le a b->∀args σ v,na a args σ=some v->na b args σ=some v:=λ_ _ _ _ _ _ h=>h
theorem common{α:Type}{p:Nat->α->Prop}(hm:∀n m x,n<=m->p n x->p m x):∀{l:List α},(∀x∈l,∃n,p n x)->∃n,∀x∈l,p n x
 | [],_=>⟨0,by simp⟩
 |a::l,h=>by
  obtain⟨n,hn⟩:=h a (by simp)
  obtain⟨m,nE⟩:=common hm (l:=l) λx hx=>h x (by simp[hx])
  refine⟨max n m,λx hx=>?_⟩;rcases cB.1 hx with rfl|hx
  ·exact hm _ _ _ (Nat.le_max_left n m) hn
  ·exact hm _ _ _ (Nat.le_max_right n m) (nE x hx)
section
variable{G:Nat->Option Fn}{Q:ke}
theorem Y1 (hQ:dV Q){g:Nat}{aI:List AV}{K:List Int->List Int->Int}{d:List AV}(h:∀x∈d,∀y∈d,∃u v,cj x=some u/\cj y=some v/\iZ (lim G Q) g (x::y::aI)=some (.int (K u v))):∃N,agree (cN G Q N) g aI K d=true:=by
 have h1:∀x∈d,∃N,∀y∈d,∃u v,cj x=some u/\cj y=some v/\iZ (cN G Q N) g (x::y::aI)=some (.int (K u v)):=λx hx=>by
  refine common (p:=λN y=>∃u v,cj x=some u/\cj y=some v/\iZ (cN G Q N) g (x::y::aI)=some (.int (K u v))) (λn m y FL ⟨u,v,a,b,c⟩=>⟨u,v,a,b,uj (sI hQ FL) c⟩) λy hy=>?_;obtain⟨u,v,a,b,c⟩:=h x hx y hy;obtain⟨N,hN⟩:=yw hQ c;exact⟨N,u,v,a,b,hN⟩
 obtain⟨N,hN⟩:=common (p:=λN x=>∀y∈d,∃u v,cj x=some u/\cj y=some v/\iZ (cN G Q N) g (x::y::aI)=some (.int (K u v))) (λn m x FL hx y hy=>by
  obtain⟨u,v,a,b,c⟩:=hx y hy;exact⟨u,v,a,b,uj (sI hQ FL) c⟩) h1
 refine⟨N,?_⟩;simp only[agree,rp];intro x hx y hy;obtain⟨u,v,a,b,c⟩:=hN x hx y hy;simp[a,b,iF,c]
end
def uk (x:Int):List Int->List Int
 | []=>[x]
 |y::r=>if x<=y then x::y::r else y::uk x r
def cA:List Int->List Int
 | []=>[]
 |x::r=>uk x (cA r)
theorem Hx (x:Int):∀l:List Int,(uk x l).Perm (x::l)
 | []=>List.Perm.refl _
 |y::r=>by
  unfold uk;split
  ·exact List.Perm.refl _
  ·exact((Hx x r).cons y).trans (List.Perm.swap x y r)
theorem wb:∀l:List Int,(cA l).Perm l
 | []=>List.Perm.refl _
 |x::r=>(Hx x _).trans ((wb r).cons x)
theorem MJ{x:Int}:∀{l:List Int},l.Pairwise (·<=·)->(uk x l).Pairwise (·<=·)
 | [],_=>by simp[uk]
 |y::r,h=>by
  unfold uk;rw[kV]at h;split
  ·rename_i wa
   rw[kV,kV];refine⟨λz hz=>?_,h⟩;rcases cB.1 hz with rfl|hz
   ·exact wa
   ·have:=h.1 z hz;omega
  ·rename_i wa
   rw[kV];refine⟨λz hz=>?_,MJ h.2⟩;rcases cB.1 ((Hx x r).mem_iff.1 hz)with rfl|hz
   ·omega
   ·exact h.1 z hz
theorem Hy:∀l:List Int,(cA l).Pairwise (·<=·)
 | []=>List.Pairwise.nil
 |_::r=>MJ (Hy r)
theorem Y2{l m:List Int}(hp:m.Perm l) (hs:m.Pairwise (·<=·)):m=cA l:=
 List.Perm.eq_of_pairwise (le:=(·<=·)) (λx y _ _ h k=>by omega) hs (Hy l) (hp.trans (wb l).symm)
theorem Y3 (l:List Int):(l.mergeSort λx y=>decide (x<=y))=cA l:=by
 refine Y2 (List.mergeSort_perm l _) ?_;have:=List.pairwise_mergeSort (le:=λx y:Int=>decide (x<=y)) (λa b c h1 h2=>by simp at h1 h2 ⊢;omega) (λa b=>by simp;omega) l
 exact this.imp λh=>by simpa using h
def kf:CE->List AV->List ag->Option (AV×List ag):=λ_ args σ=>match args with
 | [.ah]=>some (.bQ [],σ)
 | [.sl b u off len]=>match upto σ b u with
  |some B=>if B.st.isLive&&gR B.k&&decide (0<len)&&decide (off+len<=B.cells.length)&&decide (B.cells.length<=dE)then
    (match jj ((B.cells.drop off).take len)with
    |some zs=>some (.bQ [],ay σ b ⟨B.k,putAt B.cells off ((cA zs).map .int),B.st⟩)
    |none=>none)else none
  |none=>none
 |_=>none
theorem Y4:∀a b:CE,CE.le a b->∀args σ v,kf a args σ=some v->kf b args σ=some v:=λ_ _ _ _ _ _ h=>h
def jl (ce:CE) (g:Nat) (aI:List AV) (d:List AV):Bool:=
 (List.range d.length).all λi=>(List.range d.length).all λj=>match d[i]?,d[j]? with
  |some x,some y=>(match iF ce g aI x y with
   |some c=>decide (c<0)==decide (i<j)
   |none=>false)
  |_,_=>false
theorem BF{ce:CE}{g:Nat}{aI d:List AV}(h:jl ce g aI d=true){i j:Nat}{x y:AV}(hx:d[i]? = some x) (hy:d[j]? = some y):∃c,iF ce g aI x y=some c/\(c<0↔i<j):=by
 simp only[jl,rp,cy]at h;have:=h i (cT.1 hx).1 j (cT.1 hy).1;rw[hx,hy]at this;simp only at this;split at this
 ·rename_i c hc
  refine⟨c,hc,?_⟩;simpa using this
 ·simp at this
theorem Y5{a b:CE}(h:CE.le a b){g:Nat}{aI d:List AV}(e:jl a g aI d=true):jl b g aI d=true:=by
 simp only[jl,rp,cy];intro i hi j hj;obtain⟨c,h1,h2⟩:=BF e (dc hi) (dc hj);rw[dc hi,dc hj];simp[Hw h h1,h2]
theorem Y6{G:Nat->Option Fn}{Q:ke}(hQ:dV Q){g:Nat}{aI d:List AV}(h:∀(i j:Nat) x y,d[i]? = some x->d[j]? = some y->∃c,iZ (lim G Q) g (x::y::aI)=some (.int c)/\(c<0↔i<j)):∃N,jl (cN G Q N) g aI d=true:=by
 have hm:∀n m (q:Nat×Nat),n<=m->(∀x y,d[q.1]? = some x->d[q.2]? = some y->∃c,iZ (cN G Q n) g (x::y::aI)=some (.int c)/\(c<0↔q.1<q.2))->∀x y,d[q.1]? = some x->d[q.2]? = some y->∃c,iZ (cN G Q m) g (x::y::aI)=some (.int c)/\(c<0↔q.1<q.2):=λn m q FL hq x y hx hy=>by
  obtain⟨c,h1,h2⟩:=hq x y hx hy;exact⟨c,uj (sI hQ FL) h1,h2⟩
 obtain⟨N,hN⟩:=common hm (l:=(List.range d.length).flatMap λi=>(List.range d.length).map λj=>(i,j)) λq hq=>by
  simp only[rq,cy,cR]at hq;obtain⟨i,hi,j,hj,rfl⟩:=hq;obtain⟨c,h1,h2⟩:=h i j _ _ (dc hi) (dc hj);obtain⟨n,hn⟩:=yw hQ h1;exact⟨n,λx y hx hy=>by
   simp only at hx hy;rw[dc hi]at hx;rw[dc hj]at hy;cases hx;cases hy
   exact⟨c,hn,h2⟩⟩
 refine⟨N,?_⟩;simp only[jl,rp,cy];intro i hi j hj;have hq:(i,j)∈(List.range d.length).flatMap λi=>(List.range d.length).map λj=>(i,j):=by
  simp only[rq,cy,cR];exact⟨i,hi,j,hj,rfl⟩
 obtain⟨c,h1,h2⟩:=hN (i,j) hq _ _ (dc hi) (dc hj);rw[dc hi,dc hj];simp[iF,h1,h2]
def MK (x y:AV):Bool:=match x,y with
 |.agg [.int _,.int _,a],.agg [.int _,.int _,b]=>tT aV a b
 |.agg (a::_),.agg (b::_)=>tT cP a b
 |_,_=>true
def we (x:AV):List AV->List AV
 | []=>[x]
 |y::r=>if MK x y then x::y::r else y::we x r
def kg:List AV->List AV
 | []=>[]
 |x::r=>we x (kg r)
theorem ML (x:AV):∀l,(we x l).Perm (x::l)
 | []=>.refl _
 |y::r=>by
  unfold we;split
  ·exact .refl _
  ·exact((ML x r).cons y).trans (.swap x y r)
theorem MM:∀l,(kg l).Perm l
 | []=>.refl _
 |x::r=>(ML x _).trans ((MM r).cons x)
def jm (k:Nat):CE->List AV->List ag->Option (AV×List ag):=λce args σ=>match args with
 | [.ah,.func _ _]=>some (.bQ [],σ)
 | [.aE _ [],.func _ _]=>some (.bQ [],σ)
 | [.sl b u off len,.func g aI]=>match upto σ b u with
  |some B=>if len==0 then some (.bQ [],σ)else if tQ B.k (some k)&&B.st.isLive&&decide (0<k)&&decide (off+len*k<=B.cells.length)&&decide (B.cells.length<=dE)&&jl ce g aI (kg (chunk (some k) len (B.cells.drop off)))then some (.bQ [],ay σ b ⟨B.k,putAt B.cells off ((kg (chunk (some k) len (B.cells.drop off))).flatMap AV.cells),B.st⟩)else none
  |none=>none
 |_=>none
theorem Y7 (k:Nat):∀a b:CE,CE.le a b->∀args σ v,jm k a args σ=some v->jm k b args σ=some v:=by
 intro a b h args σ v hp;unfold jm at hp ⊢;split at hp
 ·exact hp
 ·exact hp
 ·split at hp
  ·rename_i B hu
   split at hp
   ·rename_i h0
    rw[ab h0];exact hp
   ·rename_i h0
    rw[aa h0];split at hp
    ·rename_i hc
     simp only[aD]at hc;rw[ab (by simp only[aD];exact⟨hc.1,Y5 h hc.2⟩)];exact hp
    ·simp at hp
  ·simp at hp
 ·simp at hp
end Ab
