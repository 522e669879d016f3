/- Functions of the library that are known by what they do: the sorting of a slice of words, the copy of a slice of lists. Orders of words, and sorted lists. The sorting of words: more fuel gives the same answer; with as much as is wanted. Condition: none. -/
import Derived.Test.YtdenhmniigikcaaGreatAbCore
import Derived.Test.YtdenhmniigikcaaGreatAbL
set_option linter.all false
namespace Ab
def jo:List AV->Option (List Int)
 | []=>some []
 |.int n::r=>match jo r with
  |some s=>some (n::s)
  |none=>none
 |_::_=>none
def cp:AV->Option (List Int)
 |.aE false l=>jo l
 |_=>none
def cS:List Int->List Int->Int
 | [],[]=>0
 | [],_::_=>-1
 |_::_,[]=>1
 |x::a,y::b=>if x<y then -1 else if y<x then 1 else cS a b
def aW (a b:List Int):Int:=if a.length<b.length then -1 else if b.length<a.length then 1 else cS a b
def iK (ce:CE) (g:Nat) (aI:List AV) (x y:AV):Option Int:=match je ce g (x::y::aI)with
 |some (.int c)=>some c
 |_=>none
def agree (ce:CE) (g:Nat) (aI:List AV) (K:List Int->List Int->Int) (d:List AV):Bool:=
 d.all λx=>d.all λy=>match cp x,cp y with
  |some u,some v=>(match iK ce g aI x y with
   |some c=>c==K u v
   |none=>false)
  |_,_=>false
def tX (K:List Int->List Int->Int) (x y:AV):Bool:=match cp x,cp y with
 |some u,some v=>decide (K u v<=0)
 |_,_=>true
def rq (K:List Int->List Int->Int) (x:AV):List AV->List AV
 | []=>[x]
 |y::r=>if tX K x y then x::y::r else y::rq K x r
def ef (K:List Int->List Int->Int):List AV->List AV
 | []=>[]
 |x::r=>rq K x (ef K r)
def gX:Option Nat->Bool
 |none=>true
 |some _=>false
def lO:CE->List AV->List ag->Option (AV×List ag):=λce args σ=>match args with
 | [.ah,.func _ _]=>some (.bS [],σ)
 | [.aE _ [],.func _ _]=>some (.bS [],σ)
 | [.sl b u off len,.func g aI]=>match upto σ b u with
  |some B=>if B.st.isLive&&gX B.k&&decide (0<len)&&decide (off+len<=B.cells.length)&&decide (B.cells.length<=dG)then
    (if agree ce g aI aW ((B.cells.drop off).take len)then some (.bS [],az σ b ⟨B.k,putAt B.cells off (ef aW ((B.cells.drop off).take len)),B.st⟩)
     else if agree ce g aI cS ((B.cells.drop off).take len)then some (.bS [],az σ b ⟨B.k,putAt B.cells off (ef cS ((B.cells.drop off).take len)),B.st⟩)
     else none)else none
  |none=>none
 |_=>none
def qI:AV->Bool
 |.int _ | .bool _ | .str _ | .aE _ _ | .ah=>true
 |_=>false
def gI:CE->List AV->List ag->Option (AV×List ag):=λ_ args σ=>match args with
 | [.ah]=>some (.aE false [],σ)
 | [.aE _ []]=>some (.aE false [],σ)
 | [.aE _ (x::l)]=>if(x::l).all qI&&ay (x::l)&&decide ((x::l).length<=dG)then some (.sl σ.length (x::l).length 0 (x::l).length,σ ++ [⟨none,(x::l).map fU,.live⟩])else none
 |_=>none
def gg:CE->List AV->List ag->Option (AV×List ag):=λ_ args σ=>match args with
 | [.ah]=>some (.emp,σ)
 | [.emp]=>some (.emp,σ)
 | [.aE _ []]=>some (.emp,σ)
 | [.aE _ (x::l)]=>if(x::l).all isScalar&&decide ((x::l).length<=dG)then some (.sl σ.length (x::l).length 0 (x::l).length,σ ++ [⟨none,x::l,.live⟩])else none
 | [.sl b u off len]=>match upto σ b u with
  |some B=>if B.st.isLive&&tU B.k none&&decide (off+len<=B.cells.length)&&decide (len<=dG)then(if len==0 then some (.emp,σ)else some (.sl σ.length len 0 len,σ ++ [⟨none,(B.cells.drop off).take len,.live⟩]))else none
  |none=>none
 |_=>none
def nj:CE->List AV->List ag->Option (AV×List ag):=λ_ args σ=>match args with
 | [.ah,.int n]=>if n==0 then some (.ah,σ)else if 0<n/\n<=dG then some (.sl σ.length n.toNat 0 0,σ ++ [⟨none,List.replicate n.toNat (.int 0),.live⟩])else none
 |_=>none
def ke:CE->List AV->List ag->Option (AV×List ag):=λ_ args σ=>match args with
 | [.ah,.int n]=>if n==0 then some (.ah,σ)else if 0<n/\n<=dG then some (.sl σ.length n.toNat 0 0,σ ++ [⟨none,List.replicate n.toNat .ah,.live⟩])else none
 |_=>none
structure BP (K:List Int->List Int->Int):Prop where
 refl:∀u,K u u=0
 gJ:∀u v,K u v = - K v u
 eq:∀u v,K u v=0->u=v
 trans:∀u v w,K u v<=0->K v w<=0->K u w<=0
theorem yG:∀u,cS u u=0
 | []=>rfl
 |x::u=>by unfold cS;simp[yG u]
theorem HW:∀u v,cS u v = - cS v u
 | [],[]=>rfl
 | [],_::_=>rfl
 |_::_,[]=>rfl
 |x::u,y::v=>by
  unfold cS;have:=HW u v;rcases Int.lt_trichotomy x y with h|h|h
  ·rw[ae h,ab (by omega),ae h]
  ·subst h;simp;exact this
  ·rw[ab (by omega),ae h,ae h];rfl
theorem HX:∀u v,cS u v=0->u=v
 | [],[],_=>rfl
 | [],_::_,h=>by simp[cS]at h
 |_::_,[],h=>by simp[cS]at h
 |x::u,y::v,h=>by
  unfold cS at h;rcases Int.lt_trichotomy x y with h1|h1|h1
  ·rw[ae h1]at h;omega
  ·subst h1;simp at h;rw[HX u v h]
  ·rw[ab (by omega),ae h1]at h;omega
theorem HY:∀u v w,cS u v<=0->cS v w<=0->cS u w<=0
 | [],[],_,_,h=>h
 | [],_::_,[],_,h=>by simp[cS]at h
 | [],_::_,_::_,_,_=>by simp[cS]
 |_::_,[],_,h,_=>by simp[cS]at h
 |_::_,_::_,[],_,h=>by simp[cS]at h
 |x::u,y::v,z::w,h1,h2=>by
  unfold cS at h1 h2 ⊢;rcases Int.lt_trichotomy x y with a|a|a
  ·rcases Int.lt_trichotomy y z with b|b|b
   ·rw[ae (by omega)];omega
   ·subst b;rw[ae a];omega
   ·rw[ab (by omega),ae b]at h2;omega
  ·subst a
   rcases Int.lt_trichotomy x z with b|b|b
   ·rw[ae b];omega
   ·subst b;simp at h1 h2 ⊢;exact HY u v w h1 h2
   ·rw[ab (by omega),ae b]at h2;omega
  ·rw[ab (by omega),ae a]at h1;omega
theorem Nk:BP cS:=⟨yG,HW,HX,HY⟩
theorem dK:BP aW:=by
 refine⟨λu=>by simp[aW,yG],λu v=>?_,λu v h=>?_,λu v w h1 h2=>?_⟩
 ·unfold aW
  have:=HW u v;rcases Nat.lt_trichotomy u.length v.length with h|h|h
  ·rw[ae h,ab (by omega),ae h]
  ·rw[ab (by omega),ab (by omega),ab (by omega),ab (by omega)];exact this
  ·rw[ab (by omega),ae h,ae h];rfl
 ·unfold aW at h
  split at h
  ·omega
  split at h
  ·omega
  exact HX u v h
 ·unfold aW at h1 h2 ⊢
  rcases Nat.lt_trichotomy u.length v.length with a|a|a
  ·rcases Nat.lt_trichotomy v.length w.length with b|b|b
   ·rw[ae (by omega)];omega
   ·rw[ae (by omega)];omega
   ·rw[ab (by omega),ae b]at h2;omega
  ·rcases Nat.lt_trichotomy v.length w.length with b|b|b
   ·rw[ae (by omega)];omega
   ·rw[ab (by omega),ab (by omega)]at h1 h2 ⊢;exact HY u v w h1 h2
   ·rw[ab (by omega),ae b]at h2;omega
  ·rw[ab (by omega),ae a]at h1;omega
theorem HZ:∀{l:List AV}{u:List Int},jo l=some u->l=u.map .int
 | [],u,h=>by simp[jo]at h;subst h;rfl
 |x::r,u,h=>by
  unfold jo at h;split at h
  ·rename_i h1;simp at h1
  ·rename_i n r' h1
   simp at h1;obtain⟨rfl,rfl⟩:=h1;cases hr:jo r with
   |none=>simp[hr]at h
   |some s=>simp[hr]at h;subst h;simp[HZ hr]
  ·simp at h
theorem H0:∀(u:List Int),jo (u.map .int)=some u
 | []=>rfl
 |x::u=>by simp[jo,H0 u]
theorem Nl{x:AV}{u:List Int}(h:cp x=some u):x = .aE false (u.map .int):=by
 unfold cp at h;split at h
 ·rw[HZ h]
 ·simp at h
theorem wg (u:List Int):cp (.aE false (u.map .int))=some u:=H0 u
section
variable{K:List Int->List Int->Int}
theorem H2 (x:AV):∀l,(rq K x l).Perm (x::l)
 | []=>.refl _
 |y::r=>by
  unfold rq;split
  ·exact .refl _
  ·exact((H2 x r).cons y).trans (.swap x y r)
theorem um:∀l,(ef K l).Perm l
 | []=>.refl _
 |x::r=>(H2 x _).trans ((um r).cons x)
def kf (l:List AV):Prop:=∀x∈l,∃u,cp x=some u
theorem rr{x y:AV}{u v:List Int}(h:cp x=some u) (k:cp y=some v):tX K x y=true↔K u v<=0:=by simp[tX,h,k]
theorem Zy (hK:BP K){x y:AV}{u v:List Int}(hx:cp x=some u) (hy:cp y=some v) (h:tX K x y=true) (k:tX K y x=true):x=y:=by
 rw[rr hx hy]at h;rw[rr hy hx,hK.gJ]at k;have:=hK.eq u v (by omega)
 subst this;rw[Nl hx,Nl hy]
theorem Nn (hK:BP K){x:AV}:∀{l:List AV},kf (x::l)->l.Pairwise (λx y=>tX K x y=true)->(rq K x l).Pairwise (λx y=>tX K x y=true)
 | [],_,_=>by simp[rq]
 |y::r,hw,h=>by
  obtain⟨u,hu⟩:=hw x (by simp)
  obtain⟨v,hv⟩:=hw y (by simp)
  unfold rq;split
  ·rename_i wh
   refine kY.2 ⟨λz hz=>?_,h⟩;rcases cD.1 hz with rfl|hz
   ·exact wh
   ·obtain⟨t,ht⟩:=hw z (by simp[hz])
    have:=(kY.1 h).1 z hz;rw[rr hv ht]at this;rw[rr hu hv]at wh;rw[rr hu ht];exact hK.trans _ _ _ wh this
  ·rename_i wh
   have ih:=Nn hK (x:=x) (l:=r) (λz hz=>hw z (by rcases cD.1 hz with rfl|hz<;>simp[*])) (kY.1 h).2
   refine kY.2 ⟨λz hz=>?_,ih⟩;rcases cD.1 ((H2 x r).mem_iff.1 hz)with rfl|hz
   ·rw[rr hu hv]at wh
    rw[rr hv hu,hK.gJ];omega
   ·exact(kY.1 h).1 z hz
theorem H3 (hK:BP K):∀{l:List AV},kf l->(ef K l).Pairwise (λx y=>tX K x y=true)
 | [],_=>by simp[ef]
 |x::r,hw=>by
  have uo : kf r:=λz hz=>hw z (by simp[hz])
  refine Nn hK (λz hz=>?_) (H3 hK uo);rcases cD.1 hz with rfl|hz
  ·exact hw z (by simp)
  ·exact uo z ((um r).mem_iff.1 hz)
theorem No (hK:BP K){l m:List AV}(hw:kf l) (hp:m.Perm l) (hs:m.Pairwise (λx y=>tX K x y=true)):m=ef K l:=by
 refine List.Perm.eq_of_pairwise (le:=λx y=>tX K x y=true) (λx y hx hy h k=>?_) hs (H3 hK hw) (hp.trans (um l).symm);obtain⟨u,hu⟩:=hw x (hp.mem_iff.1 hx);obtain⟨v,hv⟩:=hw y ((um l).mem_iff.1 hy);exact Zy hK hu hv h k
end
theorem ru{ce:CE}{g:Nat}{aI:List AV}{K:List Int->List Int->Int}{d:List AV}(h:agree ce g aI K d=true){x y:AV}(hx:x∈d) (hy:y∈d):∃u v,cp x=some u/\cp y=some v/\iK ce g aI x y=some (K u v):=by
 simp only[agree,rA]at h;have:=h x hx y hy;split at this
 ·rename_i u v h1 h2
  split at this
  ·rename_i c h3
   simp only[cP]at this;subst this;exact⟨u,v,h1,h2,h3⟩
  ·simp at this
 ·simp at this
theorem H4{a b:CE}(h:CE.le a b){g:Nat}{aI:List AV}{x y:AV}{c:Int}(e:iK a g aI x y=some c):iK b g aI x y=some c:=by
 unfold iK at e ⊢;cases hp:je a g (x::y::aI)with
 |none=>rw[hp]at e;simp at e
 |some r=>rw[uq h hp];rw[hp]at e;exact e
theorem Np{a b:CE}(h:CE.le a b){g:Nat}{aI:List AV}{K:List Int->List Int->Int}{d:List AV}(e:agree a g aI K d=true):agree b g aI K d=true:=by
 simp only[agree,rA];intro x hx y hy;obtain⟨u,v,h1,h2,h3⟩:=ru e hx hy;simp[h1,h2,H4 h h3]
theorem Zz{a b:CE}(h:CE.le a b){g:Nat}{aI:List AV}{K K' : List Int->List Int->Int}{d:List AV}(e:agree a g aI K d=true) (e' : agree b g aI K' d=true):agree a g aI K' d=true:=by
 simp only[agree,rA];intro x hx y hy;obtain⟨u,v,h1,h2,h3⟩:=ru e hx hy;obtain⟨u', v', k1,k2,k3⟩:=ru e' hx hy;rw[h1]at k1;rw[h2]at k2;cases k1;cases k2
 have:=H4 h h3;rw[this]at k3;simp only[bJ]at k3;simp[h1,h2,h3,k3]
theorem ZA:∀a b:CE,CE.le a b->∀args σ v,lO a args σ=some v->lO b args σ=some v:=by
 intro a b h args σ v hp;unfold lO at hp ⊢;split at hp
 ·exact hp
 ·exact hp
 ·split at hp
  ·rename_i B hu
   split at hp
   ·rename_i hc
    rw[ae hc];split at hp
    ·rename_i pO
     rw[ae (Np h pO)];exact hp
    ·rename_i Gm
     split at hp
     ·rename_i pO
      rw[ab (λe=>Gm (Zz h pO e)),ae (Np h pO)];exact hp
     ·simp at hp
   ·simp at hp
  ·simp at hp
 ·simp at hp
theorem ZC:∀a b:CE,CE.le a b->∀args σ v,gg a args σ=some v->gg b args σ=some v:=λ_ _ _ _ _ _ h=>h
theorem ZD:∀a b:CE,CE.le a b->∀args σ v,gI a args σ=some v->gI b args σ=some v:=λ_ _ _ _ _ _ h=>h
theorem ZE:∀a b:CE,CE.le a b->∀args σ v,ke a args σ=some v->ke b args σ=some v:=λ_ _ _ _ _ _ h=>h
theorem ZF:∀a b:CE,CE.le a b->∀args σ v,nj a args σ=some v->nj b args σ=some v:=λ_ _ _ _ _ _ h=>h
theorem common{α:Type}{p:Nat->α->Prop}(hm:∀n m x,n<=m->p n x->p m x):∀{l:List α},(∀x∈l,∃n,p n x)->∃n,∀x∈l,p n x
 | [],_=>⟨0,by simp⟩
 |a::l,h=>by
  obtain⟨n,hn⟩:=h a (by simp)
  obtain⟨m,nM⟩:=common hm (l:=l) λx hx=>h x (by simp[hx])
  refine⟨max n m,λx hx=>?_⟩;rcases cD.1 hx with rfl|hx
  ·exact hm _ _ _ (Nat.le_max_left n m) hn
  ·exact hm _ _ _ (Nat.le_max_right n m) (nM x hx)
section
variable{G:Nat->Option Fn}{Q:kg}
theorem ZG (hQ:dV Q){g:Nat}{aI:List AV}{K:List Int->List Int->Int}{d:List AV}(h:∀x∈d,∀y∈d,∃u v,cp x=some u/\cp y=some v/\je (lim G Q) g (x::y::aI)=some (.int (K u v))):∃N,agree (cN G Q N) g aI K d=true:=by
 have h1:∀x∈d,∃N,∀y∈d,∃u v,cp x=some u/\cp y=some v/\je (cN G Q N) g (x::y::aI)=some (.int (K u v)):=λx hx=>by
  refine common (p:=λN y=>∃u v,cp x=some u/\cp y=some v/\je (cN G Q N) g (x::y::aI)=some (.int (K u v))) (λn m y Gh ⟨u,v,a,b,c⟩=>⟨u,v,a,b,uq (sL hQ Gh) c⟩) λy hy=>?_;obtain⟨u,v,a,b,c⟩:=h x hx y hy;obtain⟨N,hN⟩:=yH hQ c;exact⟨N,u,v,a,b,hN⟩
 obtain⟨N,hN⟩:=common (p:=λN x=>∀y∈d,∃u v,cp x=some u/\cp y=some v/\je (cN G Q N) g (x::y::aI)=some (.int (K u v))) (λn m x Gh hx y hy=>by
  obtain⟨u,v,a,b,c⟩:=hx y hy;exact⟨u,v,a,b,uq (sL hQ Gh) c⟩) h1
 refine⟨N,?_⟩;simp only[agree,rA];intro x hx y hy;obtain⟨u,v,a,b,c⟩:=hN x hx y hy;simp[a,b,iK,c]
end
def ur (x:Int):List Int->List Int
 | []=>[x]
 |y::r=>if x<=y then x::y::r else y::ur x r
def cC:List Int->List Int
 | []=>[]
 |x::r=>ur x (cC r)
theorem H5 (x:Int):∀l:List Int,(ur x l).Perm (x::l)
 | []=>List.Perm.refl _
 |y::r=>by
  unfold ur;split
  ·exact List.Perm.refl _
  ·exact((H5 x r).cons y).trans (List.Perm.swap x y r)
theorem wi:∀l:List Int,(cC l).Perm l
 | []=>List.Perm.refl _
 |x::r=>(H5 x _).trans ((wi r).cons x)
theorem Nq{x:Int}:∀{l:List Int},l.Pairwise (·<=·)->(ur x l).Pairwise (·<=·)
 | [],_=>by simp[ur]
 |y::r,h=>by
  unfold ur;rw[kY]at h;split
  ·rename_i wh
   rw[kY,kY];refine⟨λz hz=>?_,h⟩;rcases cD.1 hz with rfl|hz
   ·exact wh
   ·have:=h.1 z hz;omega
  ·rename_i wh
   rw[kY];refine⟨λz hz=>?_,Nq h.2⟩;rcases cD.1 ((H5 x r).mem_iff.1 hz)with rfl|hz
   ·omega
   ·exact h.1 z hz
theorem H6:∀l:List Int,(cC l).Pairwise (·<=·)
 | []=>List.Pairwise.nil
 |_::r=>Nq (H6 r)
theorem ZH{l m:List Int}(hp:m.Perm l) (hs:m.Pairwise (·<=·)):m=cC l:=
 List.Perm.eq_of_pairwise (le:=(·<=·)) (λx y _ _ h k=>by omega) hs (H6 l) (hp.trans (wi l).symm)
theorem ZI (l:List Int):(l.mergeSort λx y=>decide (x<=y))=cC l:=by
 refine ZH (List.mergeSort_perm l _) ?_;have:=List.pairwise_mergeSort (le:=λx y:Int=>decide (x<=y)) (λa b c h1 h2=>by simp at h1 h2 ⊢;omega) (λa b=>by simp;omega) l
 exact this.imp λh=>by simpa using h
def kh:CE->List AV->List ag->Option (AV×List ag):=λ_ args σ=>match args with
 | [.ah]=>some (.bS [],σ)
 | [.sl b u off len]=>match upto σ b u with
  |some B=>if B.st.isLive&&gX B.k&&decide (0<len)&&decide (off+len<=B.cells.length)&&decide (B.cells.length<=dG)then
    (match jo ((B.cells.drop off).take len)with
    |some zs=>some (.bS [],az σ b ⟨B.k,putAt B.cells off ((cC zs).map .int),B.st⟩)
    |none=>none)else none
  |none=>none
 |_=>none
theorem ZJ:∀a b:CE,CE.le a b->∀args σ v,kh a args σ=some v->kh b args σ=some v:=λ_ _ _ _ _ _ h=>h
def jq (ce:CE) (g:Nat) (aI:List AV) (d:List AV):Bool:=
 (List.range d.length).all λi=>(List.range d.length).all λj=>match d[i]?,d[j]? with
  |some x,some y=>(match iK ce g aI x y with
   |some c=>decide (c<0)==decide (i<j)
   |none=>false)
  |_,_=>false
theorem BQ{ce:CE}{g:Nat}{aI d:List AV}(h:jq ce g aI d=true){i j:Nat}{x y:AV}(hx:d[i]? = some x) (hy:d[j]? = some y):∃c,iK ce g aI x y=some c/\(c<0↔i<j):=by
 simp only[jq,rA,cA]at h;have:=h i (cV.1 hx).1 j (cV.1 hy).1;rw[hx,hy]at this;simp only at this;split at this
 ·rename_i c hc
  refine⟨c,hc,?_⟩;simpa using this
 ·simp at this
theorem ZK{a b:CE}(h:CE.le a b){g:Nat}{aI d:List AV}(e:jq a g aI d=true):jq b g aI d=true:=by
 simp only[jq,rA,cA];intro i hi j hj;obtain⟨c,h1,h2⟩:=BQ e (de hi) (de hj);rw[de hi,de hj];simp[H4 h h1,h2]
theorem ZL{G:Nat->Option Fn}{Q:kg}(hQ:dV Q){g:Nat}{aI d:List AV}(h:∀(i j:Nat) x y,d[i]? = some x->d[j]? = some y->∃c,je (lim G Q) g (x::y::aI)=some (.int c)/\(c<0↔i<j)):∃N,jq (cN G Q N) g aI d=true:=by
 have hm:∀n m (q:Nat×Nat),n<=m->(∀x y,d[q.1]? = some x->d[q.2]? = some y->∃c,je (cN G Q n) g (x::y::aI)=some (.int c)/\(c<0↔q.1<q.2))->∀x y,d[q.1]? = some x->d[q.2]? = some y->∃c,je (cN G Q m) g (x::y::aI)=some (.int c)/\(c<0↔q.1<q.2):=λn m q Gh hq x y hx hy=>by
  obtain⟨c,h1,h2⟩:=hq x y hx hy;exact⟨c,uq (sL hQ Gh) h1,h2⟩
 obtain⟨N,hN⟩:=common hm (l:=(List.range d.length).flatMap λi=>(List.range d.length).map λj=>(i,j)) λq hq=>by
  simp only[rB,cA,cU]at hq;obtain⟨i,hi,j,hj,rfl⟩:=hq;obtain⟨c,h1,h2⟩:=h i j _ _ (de hi) (de hj);obtain⟨n,hn⟩:=yH hQ h1;exact⟨n,λx y hx hy=>by
   simp only at hx hy;rw[de hi]at hx;rw[de hj]at hy;cases hx;cases hy
   exact⟨c,hn,h2⟩⟩
 refine⟨N,?_⟩;simp only[jq,rA,cA];intro i hi j hj;have hq:(i,j)∈(List.range d.length).flatMap λi=>(List.range d.length).map λj=>(i,j):=by
  simp only[rB,cA,cU];exact⟨i,hi,j,hj,rfl⟩
 obtain⟨c,h1,h2⟩:=hN (i,j) hq _ _ (de hi) (de hj);rw[de hi,de hj];simp[iK,h1,h2]
def Nr (x y:AV):Bool:=match x,y with
 |.agg [.int _,.int _,a],.agg [.int _,.int _,b]=>tX aW a b
 |.agg (a::_),.agg (b::_)=>tX cS a b
 |_,_=>true
def wj (x:AV):List AV->List AV
 | []=>[x]
 |y::r=>if Nr x y then x::y::r else y::wj x r
def ki:List AV->List AV
 | []=>[]
 |x::r=>wj x (ki r)
theorem Ns (x:AV):∀l,(wj x l).Perm (x::l)
 | []=>.refl _
 |y::r=>by
  unfold wj;split
  ·exact .refl _
  ·exact((Ns x r).cons y).trans (.swap x y r)
theorem Nt:∀l,(ki l).Perm l
 | []=>.refl _
 |x::r=>(Ns x _).trans ((Nt r).cons x)
def jr (k:Nat):CE->List AV->List ag->Option (AV×List ag):=λce args σ=>match args with
 | [.ah,.func _ _]=>some (.bS [],σ)
 | [.aE _ [],.func _ _]=>some (.bS [],σ)
 | [.sl b u off len,.func g aI]=>match upto σ b u with
  |some B=>if len==0 then some (.bS [],σ)else if tU B.k (some k)&&B.st.isLive&&decide (0<k)&&decide (off+len*k<=B.cells.length)&&decide (B.cells.length<=dG)&&jq ce g aI (ki (chunk (some k) len (B.cells.drop off)))then some (.bS [],az σ b ⟨B.k,putAt B.cells off ((ki (chunk (some k) len (B.cells.drop off))).flatMap AV.cells),B.st⟩)else none
  |none=>none
 |_=>none
theorem ZM (k:Nat):∀a b:CE,CE.le a b->∀args σ v,jr k a args σ=some v->jr k b args σ=some v:=by
 intro a b h args σ v hp;unfold jr at hp ⊢;split at hp
 ·exact hp
 ·exact hp
 ·split at hp
  ·rename_i B hu
   split at hp
   ·rename_i h0
    rw[ae h0];exact hp
   ·rename_i h0
    rw[ab h0];split at hp
    ·rename_i hc
     simp only[aD]at hc;rw[ae (by simp only[aD];exact⟨hc.1,ZK h hc.2⟩)];exact hp
    ·simp at hp
  ·simp at hp
 ·simp at hp
end Ab
