/- The steps that consist of a call, a word and a return. Which states are connected: the program's table. The document's table of connected states, and which states are connected. Well-matched words, taken apart. The rank of a word, and first words. First words: the search goes on by length. First words: the search in the program. Condition: none. -/
import Derived.Test.YtdenhmniigikcaaGreatN43Mat
import Derived.Test.YtdenhmniigikcaaGreatN44N
import Derived.Test.YtdenhmniigikcaaGreatN44Y
set_option linter.all false
set_option maxRecDepth 100000
set_option maxHeartbeats 4000000
namespace Ab
def Sq (N:Nat) (m:List (List Bool)):Prop:=m.length=N/\∀r∈m,r.length=N
theorem Sq.row{N:Nat}{m:List (List Bool)}(h:Sq N m){s:Int}(h0:0<=s) (h1:s<N):(ix m s).length=N:=h.2 _ (aU h0 (by rw[h.1];exact h1))
def tA (m:List (List Bool)) (s u:Int):List (List Bool):=m.set s.toNat ((ix m s).set u.toNat true)
theorem ang{α:Type} [Inhabited α]{l:List α}{i:Nat}{x:α}{j:Int}(hj:0<=j) (hi:i<l.length):ix (l.set i x) j=if j=i then x else ix l j:=by
 unfold ix;rw[gL,gL,List.getElem?_set]
 by_cases h:i=j.toNat
 ·rw[ae h,ae hi,ae (by omega)];rfl
 ·rw[ab h,ab (by omega)]
theorem Uu{N:Nat}{m:List (List Bool)}(h:Sq N m){s u:Int}(s0:0<=s) (s1:s<N):Sq N (tA m s u):=by
 refine⟨by rw[tA,nQ,h.1],λr hr=>?_⟩
 rcases List.mem_or_eq_of_mem_set hr with hr|rfl
 ·exact h.2 r hr
 ·rw[nQ,h.row s0 s1]
theorem Ku{N:Nat}{m:List (List Bool)}(h:Sq N m){s u a b:Int}(s0:0<=s) (s1:s<N) (u0:0<=u) (u1:u<N) (a0:0<=a) (b0:0<=b):ix (ix (tA m s u) a) b=if a=s/\b=u then true else ix (ix m a) b:=by
 unfold tA;rw[ang a0 (by rw[h.1];omega)]
 by_cases e:a=s
 ·subst e
  rw[ae (by omega),SS b0 (by rw[h.row a0 s1];omega)]
  by_cases e2:b=u
  ·rw[ae (by omega),ae ⟨rfl,e2⟩]
  ·rw[ab (by omega),ab (by simp[e2])]
 ·rw[ab (by omega),ab (by simp[e])]
theorem anh{N:Nat}{m:List (List Bool)}(h:Sq N m){s u a b:Int}(s0:0<=s) (s1:s<N) (u0:0<=u) (u1:u<N):rel (tA m s u) a b↔rel m a b\/(a=s/\b=u):=by
 have h' :=Uu (u:=u) h s0 s1;unfold rel;rw[h.1,h'.1];constructor
 ·rintro⟨a0,a1,b0,b1,hx⟩
  rw[Ku h s0 s1 u0 u1 a0 b0]at hx
  by_cases e:a=s/\b=u
  ·exact .inr e
  ·rw[ab e]at hx;exact .inl ⟨a0,a1,b0,b1,hx⟩
 ·rintro(⟨a0,a1,b0,b1,hx⟩|⟨rfl,rfl⟩)
  ·refine⟨a0,a1,b0,b1,?_⟩
   rw[Ku h s0 s1 u0 u1 a0 b0,hx];simp
  ·refine⟨s0,s1,u0,u1,?_⟩
   rw[Ku h s0 s1 u0 u1 s0 u0];simp
def cf (m:List (List Bool)):Nat:=(m.map λr=>r.count false).sum
theorem Uv:∀{l:List Nat}{i:Nat}{x y:Nat},l[i]? = some y->x+1=y->(l.set i x).sum+1=l.sum
 | [],i,x,y,h,_=>by simp at h
 |a::l,0,x,y,h,e=>by simp at h;subst h;simp[List.set];omega
 |a::l,i+1,x,y,h,e=>by
  have:=Uv (l:=l) (i:=i) (x:=x) (y:=y) (by simpa using h) e
  simp only[List.set_cons_succ,List.sum_cons];omega
theorem Uw{N:Nat}{m:List (List Bool)}(h:Sq N m){s u:Int}(s0:0<=s) (s1:s<N) (u0:0<=u) (u1:u<N) (hv:ix (ix m s) u=false):cf (tA m s u)+1=cf m:=by
 unfold cf tA;rw[List.map_set];refine Uv (y:=(ix m s).count false) ?_ (SU (by rw[h.row s0 s1];omega) (by rw[show((u.toNat:Nat):Int)=u by omega];exact hv))
 rw[iv,l8 s0 (by rw[h.1];exact s1)];rfl
theorem Kv{N:Nat}{m:List (List Bool)}(h:Sq N m){s u:Int}(s0:0<=s) (s1:s<N) (u0:0<=u) (u1:u<N) (hv:ix (ix m s) u=true):tA m s u=m:=by
 have e:(ix m s).set u.toNat true=ix m s:=by
  apply mG (by simp)
  intro i h1 h2;rw[List.getElem_set];split
  ·rename_i hi
   subst hi;rw[<-aT h2,show((u.toNat:Nat):Int)=u by omega,hv]
  ·rfl
 unfold tA;rw[e];apply mG (by simp)
 intro i h1 h2;rw[List.getElem_set];split
 ·rename_i hi
  subst hi;rw[<-aT h2,show((s.toNat:Nat):Int)=s by omega]
 ·rfl
def Ux (M:fm) (R:List (List Bool)) (s u:Int):Prop:=∃c p r,(0<=c/\c<M.calls)/\(0<=r/\r<M.aq)/\rel R (M.call s c).1 p/\u=M.pop p (M.call s c).2 r
structure Kw (M:fm) (R:List (List Bool)) (m m' : List (List Bool)) (ch:Bool):Prop where
 sq:Sq M.size m'
 mono:∀s t,rel m s t->rel m' s t
 sound:∀s t,rel m' s t->rel m s t\/Ux M R s t
 no:ch=false->m' = m
 yes:ch=true->cf m' < cf m
 le:cf m' <=cf m
theorem Kw.more{M:fm}{R m m' : List (List Bool)}{ch:Bool}(h:Kw M R m m' ch){s u:Int}(s0:0<=s) (s1:s<(M.size:Int)) (u0:0<=u) (u1:u<(M.size:Int)) (hw:Ux M R s u) :
  Kw M R m (tA m' s u) (ch || !ix (ix m' s) u)/\rel (tA m' s u) s u/\∀a b,rel m' a b->rel (tA m' s u) a b:=by
 have Kx :=s1;have L7 :=u1;have hr:=λa b=>anh (a:=a) (b:=b) h.sq s0 Kx u0 L7;refine⟨⟨Uu h.sq s0 Kx, λa b wL=>(hr a b).2 (.inl (h.mono a b wL)),λa b wL=>?_,λhc=>?_,λhc=>?_,?_⟩,(hr s u).2 (.inr ⟨rfl,rfl⟩),λa b wL=>(hr a b).2 (.inl wL)⟩
 ·rcases(hr a b).1 wL with wL|⟨rfl,rfl⟩
  ·exact h.sound a b wL
  ·exact .inr hw
 ·simp at hc
  rw[Kv h.sq s0 Kx u0 L7 hc.2];exact h.no hc.1
 ·by_cases hv:ix (ix m' s) u=true
  ·rw[Kv h.sq s0 Kx u0 L7 hv]
   simp[hv]at hc;exact h.yes hc
  ·have:=Uw h.sq s0 Kx u0 L7 (by simpa using hv)
   have:=h.le;omega
 ·by_cases hv:ix (ix m' s) u=true
  ·rw[Kv h.sq s0 Kx u0 L7 hv];exact h.le
  ·have:=Uw h.sq s0 Kx u0 L7 (by simpa using hv)
   have:=h.le;omega
theorem Ky{α:Type}{f g:α->AV}{v:AV->Option AV}:∀{xs:List α},(∀x∈xs,v (f x)=some (g x))->bZ v (xs.map f)=some (xs.map g)
 | [],_=>rfl
 |x::xs,h=>by
  have e:=Ky (f:=f) (g:=g) (v:=v) (xs:=xs) λy hy=>h y (by simp[hy])
  simp only[dd,bZ,h x (by simp),e]
structure Gw (M:fm) (m m' : List (List Bool)) (ch:Bool):Prop where
 sq:Sq M.size m'
 mono:∀s t,rel m s t->rel m' s t
 sound:∀s t,rel m' s t->kN M s t
 no:ch=false->m' = m
 yes:ch=true->cf m' < cf m
inductive Wd (M:fm):Int->Int->List Int->Prop
 |nil (s:Int):Wd M s s []
 |aR (s i t:Int) (w:List Int):0<=i->i<M.aj->Wd M (M.inner s i) t w->Wd M s t ((M.calls+i)::w)
 |call (s c p r t:Int) (u v:List Int):0<=c->c<M.calls->0<=r->r<M.aq->Wd M (M.call s c).1 p u->Wd M (M.pop p (M.call s c).2 r) t v->Wd M s t (c::(u++(M.calls+M.aj+r)::v))
theorem Wd.app{M:fm}{a b c:Int}{u v:List Int}(h:Wd M a b u) (k:Wd M b c v):Wd M a c (u++v):=by
 induction h with
 |nil s=>exact k
 |aR s i t w h0 h1 _ ih=>exact .aR s i c _ h0 h1 (ih k)
 |call s x p r t u v h0 h1 h2 h3 h4 _ _ ih=>
  have:=Wd.call s x p r c u _ h0 h1 h2 h3 h4 (ih k);simpa using this
theorem Wd.conn{M:fm}{a b:Int}{u:List Int}(h:Wd M a b u):kN M a b:=by
 induction h with
 |nil s=>exact .refl s
 |aR s i t w h0 h1 _ ih=>exact .aR s i t h0 h1 ih
 |call s x p r t u v h0 h1 h2 h3 _ _ lZ mM=>exact .call s x p r t h0 h1 h2 h3 lZ mM
theorem kN.wd{M:fm}{a b:Int}(h:kN M a b):∃u,Wd M a b u:=by
 induction h with
 |refl s=>exact⟨[],.nil s⟩
 |aR s i t h0 h1 _ ih=>obtain⟨u,hu⟩:=ih;exact⟨_,.aR s i t u h0 h1 hu⟩
 |call s x p r t h0 h1 h2 h3 _ _ lZ mM=>
  obtain⟨u,hu⟩:=lZ;obtain⟨v,hv⟩:=mM;exact⟨_,.call s x p r t u v h0 h1 h2 h3 hu hv⟩
def fm.step (M:fm) (p:Int×List Int) (x:Int):Int×List Int:=
 if x<M.calls then((M.call p.1 x).1,(M.call p.1 x).2::p.2)
 else if x<M.calls+M.aj then(M.inner p.1 (x-M.calls),p.2)
 else(M.pop p.1 (hd p.2) (x-M.calls-M.aj),p.2.tail)
def mt (a b:Int):Nat->List Int->Bool
 |d,[]=>d==0
 |d,x::w=>if x<a then mt a b (d+1) w else if x<a+b then mt a b d w else match d with
  |0=>false
  |d+1=>mt a b d w
inductive Fr (M:fm) (s:Int):List Int->List Int->Int->Prop
 |base (w:List Int) (q:Int):Wd M s q w->Fr M s w [] q
 |open_ (w:List Int) (st:List Int) (p c q:Int) (v:List Int):Fr M s w st p->0<=c->c<M.calls->Wd M (M.call p c).1 q v->Fr M s (w++c::v) ((M.call p c).2::st) q
theorem Fr.ext{M:fm}{s q q' : Int}{w st v:List Int}(h:Fr M s w st q) (k:Wd M q q' v):Fr M s (w++v) st q' :=by
 cases h with
 |base _ _ h=>exact .base _ _ (h.app k)
 |open_ w st p c _ u h c0 c1 hu=>
  have:=Fr.open_ w st p c q' _ h c0 c1 (hu.app k);simpa using this
theorem Fr.run{M:fm}{s:Int}{n:Int}(hn:n=M.calls+M.aj+M.aq):∀{u w st:List Int}{q:Int},Fr M s w st q->(∀x∈u,0<=x/\x<n)->mt M.calls M.aj st.length u=true->Wd M s (u.foldl M.step (q,st)).1 (w++u)/\(u.foldl M.step (q,st)).2=[]
 | [],w,st,q,h,_,hm=>by
  have bV:st=[]:=by simpa[mt]using hm
  subst bV;cases h with
  |base _ _ h=>exact⟨by simpa using h,rfl⟩
 |x::u,w,st,q,h,hx,hm=>by
  have x0:=hx x (by simp)
  have bR : ∀y∈u,0<=y/\y<n:=λy hy=>hx y (by simp[hy])
  simp only[mt]at hm;simp only[mA,fm.step]
  by_cases c1:x<M.calls
  ·rw[ae c1]at hm ⊢
   have:=Fr.run hn (Fr.open_ w st q x _ [] h x0.1 c1 (.nil _)) bR hm;simpa using this
  ·rw[ab c1]at hm ⊢
   by_cases c2:x<M.calls+M.aj
   ·rw[ae c2]at hm ⊢
    have k:=Wd.aR (M:=M) q (x-M.calls) _ [] (by omega) (by omega) (.nil _)
    rw[show M.calls+(x-M.calls)=x by omega]at k
    have:=Fr.run hn (h.ext k) bR hm;simpa using this
   ·rw[ab c2]at hm ⊢
    cases h with
    |base _ _ h=>simp at hm
    |open_ w st p c _ v h c0 c1 hv=>
     simp only[cy]at hm;have k:=Wd.call (M:=M) p c q (x-M.calls-M.aj) _ v [] c0 c1 (by omega) (by omega) hv (.nil _)
     rw[show M.calls+M.aj+(x-M.calls-M.aj)=x by omega]at k
     have:=Fr.run hn (h.ext k) bR hm;simpa[hd]using this
theorem Wd.run{M:fm}(hM:0<=M.calls/\0<=M.aj/\0<=M.aq){s t:Int}{w:List Int}(h:Wd M s t w):(∀x∈w,0<=x/\x<M.calls+M.aj+M.aq)/\(∀d rest,mt M.calls M.aj d (w++rest)=mt M.calls M.aj d rest)/\∀st rest,(w++rest).foldl M.step (s,st)=rest.foldl M.step (t,st):=by
 induction h with
 |nil s=>exact⟨by simp,λ_ _=>rfl,λ_ _=>rfl⟩
 |aR s i t w h0 h1 _ ih=>
  obtain⟨a,b,c⟩:=ih;refine⟨λx hx=>?_,λd rest=>?_,λst rest=>?_⟩
  ·rcases cD.1 hx with rfl|hx
   ·omega
   ·exact a x hx
  ·simp only[lf,mt]
   rw[ab (by omega),ae (by omega),b]
  ·simp only[lf,mA,fm.step]
   rw[ab (by omega),ae (by omega),show M.calls+i-M.calls=i by omega,c]
 |call s x p r t u v h0 h1 h2 h3 _ _ lZ mM=>
  obtain⟨a,b,c⟩:=lZ;obtain⟨a', b', c'⟩:=mM;refine⟨λy hy=>?_,λd rest=>?_,λst rest=>?_⟩
  ·simp only[cD,eH]at hy
   rcases hy with rfl|hy|rfl|hy
   ·omega
   ·exact a y hy
   ·omega
   ·exact a' y hy
  ·simp only[lf,iW,mt]
   rw[ae h1,b];simp only[mt];rw[ab (by omega),ab (by omega),b']
  ·simp only[lf,iW,mA,fm.step]
   rw[ae h1,c];simp only[mA,fm.step];rw[ab (by omega),ab (by omega),show M.calls+M.aj+r-M.calls-M.aj=r by omega]
   exact c' st rest
theorem Kz{M:fm}(hM:0<=M.calls/\0<=M.aj/\0<=M.aq){s t:Int}{w:List Int}:Wd M s t w↔(∀x∈w,0<=x/\x<M.calls+M.aj+M.aq)/\mt M.calls M.aj 0 w=true/\(w.foldl M.step (s,[])).1=t:=by
 constructor
 ·intro h
  obtain⟨a,b,c⟩:=h.run hM;refine⟨a,?_,?_⟩
  ·have:=b 0 []
   simpa[mt]using this
  ·have:=c [] []
   simp at this;rw[this]
 ·rintro⟨a,b,rfl⟩
  have:=Fr.run (M:=M) rfl (u:=w) (.base [] s (.nil s)) a b;simpa using this.1
theorem FC{n:ak}:∀{w:List Int}{d:Nat}{mx mn:Int},mn<=0->(mt n.calls n.aj d w=true/\mn=0↔(w.foldl n.gO ((d:Int),mx,mn)).2.2=0/\(w.foldl n.gO ((d:Int),mx,mn)).1=0)
 | [],d,mx,mn,h=>by
  simp[mt];omega
 |x::w,d,mx,mn,h=>by
  simp only[mt,mA,ak.gO,ak.uP]
  by_cases c1:x<n.calls
  ·rw[ae c1,ae c1,show min mn ((d:Int)+1)=mn by omega]
   have:=FC (n:=n) (w:=w) (d:=d+1) (mx:=max mx ((d:Int)+1)) h;rw[show(((d+1:Nat)):Int)=(d:Int)+1 by omega]at this
   exact this
  ·rw[ab c1,ab c1]
   by_cases c2:x<n.calls+n.aj
   ·rw[ae c2,ab (by omega),show min mn (d:Int)=mn by omega]
    exact FC (w:=w) (d:=d) h
   ·rw[ab c2,ae (by omega)]
    cases d with
    |succ d=>
     rw[show((d+1:Nat):Int)-1=(d:Int)by omega,show min mn (d:Int)=mn by omega]
     exact FC (w:=w) (d:=d) h
    |zero=>
     simp only[eu,false_and,false_iff,not_and];intro hz;have:∀(w:List Int) (p:Int×Int×Int),(w.foldl n.gO p).2.2<=p.2.2:=by
      intro w
      induction w with
      |nil=>intro p;exact Int.le_refl _
      |cons y w ih=>
       intro p;have:=ih (n.gO p y);simp only[mA];simp only[ak.gO]at this ⊢;omega
     have:=this w (((0:Nat):Int)-1,max mx (((0:Nat):Int)-1),min mn (((0:Nat):Int)-1));simp only at this;omega
theorem ani{n:ak}{w:List Int}:n.tt w=mt n.calls n.aj 0 w:=by
 rw[mF];have:=FC (n:=n) (w:=w) (d:=0) (mx:=0) (mn:=0) (Int.le_refl 0);simp only[and_true]at this;rw[this];simp only[ak.tt,ak.ig,aD];exact⟨λh=>⟨of_decide_eq_true h.1,of_decide_eq_true h.2⟩,λh=>⟨qd h.1,qd h.2⟩⟩
theorem Uy{n:ak}(hn:n.Ok){s t:Int}{w:List Int}:Wd n.eK s t w↔(∀x∈w,0<=x/\x<n.calls+n.aj+n.aq)/\n.tt w=true/\(n.run s w).1=t:=by
 have h1:=hn.calls;have h2:=hn.aj;have h3:=hn.aq;rw[Kz (M:=n.eK) ⟨h1.1,h2.1,h3.1⟩,ani]
 rfl
def fA:List Int->Nat
 | []=>0
 |x::w=>(x.toNat+1)*65^w.length+fA w
def sy (w:List Int):Prop:=∀x∈w,0<=x/\x<64
theorem KA{x:Int}{w:List Int}:sy (x::w)↔(0<=x/\x<64)/\sy w:=by simp[sy]
theorem Ak:∀{w:List Int},sy w->fA w<65^w.length
 | [],_=>by simp[fA]
 |x::w,h=>by
  obtain⟨h1,h2⟩:=KA.1 h;have ih:=Ak h2;have hx:x.toNat+1<=64:=by omega
  have:(x.toNat+1)*65^w.length<=64*65^w.length:=jT _ hx;rw[cy,Nat.pow_succ,fA];omega
theorem Uz{x:Int}{w:List Int}:65^w.length<=fA (x::w):=by
 rw[fA];have:1*65^w.length<=(x.toNat+1)*65^w.length:=jT _ (by omega)
 omega
theorem KB{u v:List Int}(hu:sy u) (h:u.length<v.length):fA u<fA v:=by
 cases v with
 |nil=>simp at h
 |cons y v=>
  have h1:=Ak hu;have h2:=Uz (x:=y) (w:=v);have h3:65^u.length<=65^v.length:=Nat.pow_le_pow_right (by omega) (by simpa using Nat.le_of_lt_succ h)
  omega
theorem FD{u v:List Int}(hv:sy v) (h:fA u<=fA v):u.length<=v.length:=by
 refine eU λhc=>?_;have:=KB hv (show v.length<u.length by omega)
 omega
theorem UA:∀{u v:List Int},sy u->sy v->u.length=v.length->cS u v<0->fA u<fA v
 | [],[],_,_,_,h=>by simp[cS]at h
 | [],_::_,_,_,h,_=>by simp at h
 |_::_,[],_,_,h,_=>by simp at h
 |x::u,y::v,hu,hv,hl,h=>by
  obtain⟨h1,h2⟩:=KA.1 hu;obtain⟨h3,h4⟩:=KA.1 hv;have cw : u.length=v.length:=by simpa using hl
  unfold cS at h;rw[fA,fA];split at h
  ·rename_i wh
   have a:=Ak h2;rw[cw]at a ⊢;have:(x.toNat+1+1)*65^v.length<=(y.toNat+1)*65^v.length:=jT _ (by omega)
   rw[fC (x.toNat+1)]at this;omega
  ·split at h
   ·omega
   ·rename_i a b
    have e:x=y:=by omega
    subst e;have:=UA h2 h4 cw h;rw[cw];omega
theorem UB{u v:List Int}(hu:sy u) (hv:sy v) (h:aW u v<0):fA u<fA v:=by
 unfold aW at h;split at h
 ·exact KB hu (by assumption)
 ·split at h
  ·omega
  ·exact UA hu hv (by omega) h
theorem xd{u v:List Int}(hu:sy u) (hv:sy v):aW u v<=0↔fA u<=fA v:=by
 constructor
 ·intro h
  by_cases e:aW u v=0
  ·rw[dK.eq _ _ e];exact bA _
  ·exact Nat.le_of_lt (UB hu hv (by omega))
 ·intro h
  refine eU λhc=>?_;have:=dK.gJ u v;have:=UB hv hu (by omega)
  omega
theorem UC{u v:List Int}(hu:sy u) (hv:sy v) (h:fA u=fA v):u=v:=by
 refine dK.eq u v ?_;have h1:=(xd hu hv).2 (by omega)
 have h2:=(xd hv hu).2 (by omega)
 have:=dK.gJ u v;omega
def uZ (P:List Int->Prop) (w:List Int):Prop:=(P w/\w.length<=1024)/\∀v,P v->fA w<=fA v
theorem anj{P:List Int->Prop}(hP:∀w,P w->sy w):∀{w:List Int},P w->w.length<=1024->∃v,uZ P v:=by
 have:∀(n:Nat) (w:List Int),fA w<=n->P w->∃v,P v/\fA v<=fA w/\∀u,P u->fA v<=fA u:=by
  intro n
  induction n with
  |zero=>exact λw h hw=>⟨w,hw,bA _,λu _=>by omega⟩
  |succ n ih=>
   intro w h hw
   by_cases hx:∃u,P u/\fA u<fA w
   ·obtain⟨u,h1,h2⟩:=hx
    obtain⟨v,v1,v2,v3⟩:=ih u (by omega) h1
    exact⟨v,v1,by omega,v3⟩
   ·exact⟨w,hw,bA _,λu hu=>by
     refine eU λhc=>hx ⟨u,hu,by omega⟩⟩
 intro w hw hl;obtain⟨v,v1,v2,v3⟩:=this _ w (bA _) hw;exact⟨v,⟨v1,by have:=FD (hP w hw) v2;omega⟩,v3⟩
theorem ank{P:List Int->Prop}(hP:∀w,P w->sy w){u v:List Int}(h:uZ P u) (k:uZ P v):u=v:=by
 refine UC (hP u h.1.1) (hP v k.1.1) ?_;have:=h.2 v k.1.1;have:=k.2 u h.1.1;omega
open Classical in
noncomputable def ko (P:List Int->Prop):Option (List Int):=if h:∃w,uZ P w then some (choose h)else none
theorem anl{P:List Int->Prop}{w:List Int}(h:ko P=some w):uZ P w:=by
 unfold ko at h;split at h
 ·rename_i hx
  injection h with h
  rw[<-h];exact Classical.choose_spec hx
 ·simp at h
theorem anm{P:List Int->Prop}(hP:∀w,P w->sy w){w:List Int}(h:uZ P w):ko P=some w:=by
 unfold ko;rw[dif_pos ⟨w,h⟩];exact congrArg some (ank hP (Classical.choose_spec (⟨w,h⟩:∃w,uZ P w)) h)
structure fm.Sm (M:fm):Prop where
 ok:M.Ok
 sum:M.calls+M.aj+M.aq<=64
theorem Wd.sy{M:fm}(hM:M.Sm){s t:Int}{w:List Int}(h:Wd M s t w):Ab.sy w:=λx hx=>by
 have:=(h.run ⟨hM.ok.calls.1,hM.ok.aj.1,hM.ok.aq.1⟩).1 x hx;have:=hM.sum;omega
theorem Wd.range{M:fm}(hM:M.Ok){s t:Int}{w:List Int}(h:Wd M s t w) (hs:0<=s/\s<(M.size:Int)):0<=t/\t<(M.size:Int):=h.conn.range hM hs
noncomputable def fm.lk (M:fm) (s t:Int):Option (List Int):=ko (Wd M s t)
inductive tF (M:fm):Int->Int->List Int->Prop
 |aR (s i:Int):0<=i->i<M.aj->tF M s (M.inner s i) [M.calls+i]
 |call (s c p r:Int) (u:List Int):0<=c->c<M.calls->0<=r->r<M.aq->Wd M (M.call s c).1 p u->tF M s (M.pop p (M.call s c).2 r) (c::(u ++ [M.calls+M.aj+r]))
theorem tF.wd{M:fm}{s t:Int}{w:List Int}(h:tF M s t w):Wd M s t w:=by
 cases h with
 |aR i h0 h1=>exact .aR s i _ [] h0 h1 (.nil _)
 |call c p r u h0 h1 h2 h3 h4=>exact .call s c p r _ u [] h0 h1 h2 h3 h4 (.nil _)
theorem tF.pos{M:fm}{s t:Int}{w:List Int}(h:tF M s t w):1<=w.length:=by
 cases h<;>simp
theorem tF.then{M:fm}{s p t:Int}{a b:List Int}(h:tF M s p a) (k:Wd M p t b):Wd M s t (a++b):=h.wd.app k
noncomputable def fm.sk (M:fm) (s t:Int):Option (List Int):=ko (tF M s t)
section
variable{M:fm}{s t:Int}{w:List Int}
end
end Ab
namespace Ab
theorem KC:∀(l:List Int) (F:List Bool),(∀y∈l,0<=y/\y<(F.length:Int))->(∀y:Int,0<=y->(ix (iq l F).2 y=true↔ix F y=true\/y∈l))/\(∀y,y∈(iq l F).1↔y∈l/\ix F y=false)/\(iq l F).1.Nodup
 | [],F,_=>⟨λy _=>by simp[iq],λy=>by simp[iq],by simp[iq]⟩
 |x::l,F,h=>by
  have hx:=h x (by simp)
  simp only[iq]
  by_cases e:ix F x=true
  ·rw[ae e]
   obtain⟨h1,h2,h3⟩:=KC l F λy hy=>h y (by simp[hy])
   refine⟨λy y0=>?_,λy=>?_,h3⟩
   ·rw[h1 y y0,cD]
    constructor
    ·rintro(a|a)
     ·exact .inl a
     ·exact .inr (.inr a)
    ·rintro(a|rfl|a)
     ·exact .inl a
     ·exact .inl e
     ·exact .inr a
   ·rw[h2 y,cD]
    constructor
    ·exact λa=>⟨.inr a.1,a.2⟩
    ·rintro⟨rfl|a,b⟩
     ·rw[e]at b;simp at b
     ·exact⟨a,b⟩
  ·rw[ab e]
   have e' : ix F x=false:=by simpa using e
   obtain⟨h1,h2,h3⟩:=KC l (F.set x.toNat true) λy hy=>by simpa using h y (by simp[hy])
   have hs:∀y:Int,0<=y->ix (F.set x.toNat true) y=if y=x then true else ix F y:=λy y0=>by
    rw[rR (by omega) y0]
    by_cases q:y=x
    ·rw[ae q,ae (by omega)]
    ·rw[ab q,ab (by omega)]
   refine⟨λy y0=>?_,λy=>?_,?_⟩
   ·show ix (iq l (F.set x.toNat true)).2 y=true↔_
    rw[h1 y y0,hs y y0,cD]
    by_cases q:y=x
    ·simp[q]
    ·simp[q]
   ·show y∈x::(iq l (F.set x.toNat true)).1↔_
    rw[cD,h2 y,cD];constructor
    ·rintro(rfl|⟨a,b⟩)
     ·exact⟨.inl rfl,e'⟩
     ·have y0:=(h y (by simp[a])).1
      rw[hs y y0]at b;split at b
      ·simp at b
      ·exact⟨.inr a,b⟩
    ·rintro⟨rfl|a,b⟩
     ·exact .inl rfl
     ·by_cases q:y=x
      ·exact .inl q
      ·have y0:=(h y (by simp[a])).1
       exact .inr ⟨a,by rw[hs y y0,ab q];exact b⟩
   ·show(x::(iq l (F.set x.toNat true)).1).Nodup
    rw[mH];refine⟨λhm=>?_,h3⟩;have:=((h2 x).1 hm).2;rw[hs x hx.1,ae rfl]at this;simp at this
theorem Dv.sy{D:Vd}(h:jQ D) (hs:D.n.calls+D.n.aj+D.n.aq<=64){x:Int}{w:List Int}(hd:Dv D x w):Ab.sy w:=λa ha=>by
 have:=hd.sym h a ha;omega
theorem UD{D:Vd}(h:jQ D) (hs:D.n.calls+D.n.aj+D.n.aq<=64){z:Int}{w:List Int}(hd:Dv D z w):∃v,kS D z v/\v.length<=w.length:=by
 have:∀(n:Nat) (w:List Int),fA w<=n->Dv D z w->∃v,Dv D z v/\fA v<=fA w/\∀u,Dv D z u->fA v<=fA u:=by
  intro n
  induction n with
  |zero=>exact λw h hw=>⟨w,hw,bA _,λu _=>by omega⟩
  |succ n ih=>
   intro w h hw
   by_cases hx:∃u,Dv D z u/\fA u<fA w
   ·obtain⟨u,h1,h2⟩:=hx
    obtain⟨v,v1,v2,v3⟩:=ih u (by omega) h1
    exact⟨v,v1,by omega,v3⟩
   ·exact⟨w,hw,bA _,λu hu=>by
     refine eU λhc=>hx ⟨u,hu,by omega⟩⟩
 obtain⟨v,v1,v2,v3⟩:=this _ w (bA _) hd;exact⟨v,⟨v1,λu hu=>(xd (v1.sy h hs) (hu.sy h hs)).2 (v3 u hu)⟩,FD (hd.sy h hs) v2⟩
structure Sr (D:Vd) (n:Nat) (S:Fd):Prop where
 w:mf S
 l:S.W.length=D.K.length
 dv:∀z w,0<=z->z<(S.W.length:Int)->ix S.W z=some w->Dv D z w
 bk:∀z w,0<=z->z<(S.W.length:Int)->ix S.F z=false->ix S.W z=some w->z∈S.dN w.length
 fd:∀z,0<=z->z<(S.W.length:Int)->(ix S.F z=true↔∃w,kS D z w/\w.length<n)
 lw:∀z w,kS D z w->w.length<n->ix S.W z=some w
 nd:∀y∈S.N,(0<=y/\y<(S.W.length:Int))/\ix S.F y=true
 nn:S.N.Nodup
 o0:qT S 0 []
 oi:∀x∈S.N,∀wx,kS D x wx->∀i,0<=i->i<D.n.aj->qT S (D.im x i) (wx ++ [D.n.calls+i])
 ob:∀x∈S.N,∀y∈S.N,∀wx wy,kS D x wx->kS D y wy->∀c r,0<=c->c<D.n.calls->0<=r->r<D.n.aq->qT S (D.bk x c y r) (wx++c::(wy ++ [D.n.calls+D.n.aj+r]))
def Xr (S:Fd):Prop:=∀z:Int,0<=z->z<(S.W.length:Int)->ix S.F z=true->z∈S.N
theorem Sr.E5{D:Vd}(hD:jQ D){n:Nat}{S:Fd}(h:Sr D n S) (ha:Xr S) (hn:n<=1024){z:Int}{t:List Int}(ht:kS D z t) (hl:t.length=n):ix S.W z=some t/\ix S.F z=false:=by
 have hz:=ht.1.fx hD;have hf:ix S.F z=false:=by
  cases e:ix S.F z with
  |false=>rfl
  |true=>
   obtain⟨w,hw,aK⟩:=(h.fd z hz.1 (by rw[h.l];exact hz.2)).1 e
   rw[hw.qt ht]at aK;omega
 refine⟨?_,hf⟩;have mem:∀{x w},kS D x w->w.length<n->x∈S.N:=fun {x w} hx aK=>by
  have:=hx.1.fx hD;exact ha x this.1 (by rw[h.l];exact this.2) ((h.fd x this.1 (by rw[h.l];exact this.2)).2 ⟨w,hx,aK⟩)
 have ho:qT S z t:=by
  rcases ht.made with⟨rfl,rfl⟩|⟨x,i,w,i0,i1,hx,rfl,rfl⟩|⟨x,c,y,r,w,u,c0,c1,r0,r1,hx,hy,rfl,rfl⟩
  ·exact h.o0
  ·simp at hl
   exact h.oi x (mem hx (by omega)) w hx i i0 i1
  ·simp at hl
   exact h.ob x (mem hx (by omega)) y (mem hy (by omega)) w u hx hy c r c0 c1 r0 r1
 rcases ho with a|a|⟨v,a,b⟩
 ·omega
 ·rw[hf]at a;simp at a
 ·have h1:=ht.2 v (h.dv z v hz.1 (by rw[h.l];exact hz.2) a)
  have h2:=dK.gJ v t;rw[a,dK.eq v t (by omega)]
theorem Sr.take{D:Vd}(hD:jQ D) (hs:D.n.calls+D.n.aj+D.n.aq<=64){n:Nat}{S:Fd}(h:Sr D n S) (ha:Xr S) (hn:n<=1024):Sr D (n+1) {S with F:=(iq (S.dN n) S.F).2}/\(∀x,x∈(iq (S.dN n) S.F).1↔∃w,kS D x w/\w.length=n)/\(iq (S.dN n) S.F).1.Nodup:=by
 have hr:∀y∈S.dN n,0<=y/\y<(S.F.length:Int):=λy hy=>by
  have:=(h.w.bm n y hy).1;rw[h.w.f];exact this
 obtain⟨t1,t2,t3⟩:=KC (S.dN n) S.F hr;have iz:∀x,x∈(iq (S.dN n) S.F).1↔∃w,kS D x w/\w.length=n:=λx=>by
  rw[t2 x];constructor
  ·rintro⟨hb,hf⟩
   obtain⟨⟨x0,x1⟩,w,hw,xV⟩:=h.w.bm n x hb;obtain⟨v,hv,pM⟩:=UD hD hs (h.dv x w x0 x1 hw);refine⟨v,hv,eU λhc=>?_⟩;rw[(h.fd x x0 x1).2 ⟨v,hv,by omega⟩]at hf
   simp at hf
  ·rintro⟨w,hw,hl⟩
   obtain⟨a,b⟩:=h.E5 hD ha hn hw hl;have:=hw.1.fx hD;have:=h.bk x w this.1 (by rw[h.l];exact this.2) b a
   rw[hl]at this;exact⟨this,b⟩
 have mono:∀z:Int,0<=z->ix S.F z=true->ix (iq (S.dN n) S.F).2 z=true:=λz z0 a=>(t1 z z0).2 (.inl a);have KD:∀z t,0<=z->qT S z t->qT {S with F:=(iq (S.dN n) S.F).2} z t:=λz t z0 a=>by
  rcases a with a|a|a
  ·exact .inl a
  ·exact .inr (.inl (mono z z0 a))
  ·exact .inr (.inr a)
 refine⟨⟨⟨by show(iq (S.dN n) S.F).2.length=_;rw[(Ah _ _).1];exact h.w.f,h.w.r,h.w.n,h.w.nd,h.w.bm,h.w.wl⟩,h.l,h.dv,λz w z0 z1 hf hw=>?_,λz z0 z1=>?_,λz w hw hl=>?_,λy hy=>⟨(h.nd y hy).1,mono y (h.nd y hy).1.1 (h.nd y hy).2⟩,h.nn,KD 0 [] (by omega) h.o0,λx hx wx tE i i0 i1=>?_,λx hx y hy wx wy tE si c r c0 c1 r0 r1=>?_⟩,iz,t3⟩
 ·refine h.bk z w z0 z1 ?_ hw
  cases e:ix S.F z with
  |false=>rfl
  |true=>
   have:=mono z z0 e;rw[show ix (iq (S.dN n) S.F).2 z=false from hf]at this;simp at this
 ·show ix (iq (S.dN n) S.F).2 z=true↔_
  rw[t1 z z0];constructor
  ·intro a
   by_cases e:ix S.F z=true
   ·obtain⟨w,hw,hl⟩:=(h.fd z z0 z1).1 e
    exact⟨w,hw,by omega⟩
   ·rcases a with a|a
    ·exact absurd a e
    ·obtain⟨w,hw,hl⟩:=(iz z).1 ((t2 z).2 ⟨a,by simpa using e⟩)
     exact⟨w,hw,by omega⟩
  ·rintro⟨w,hw,hl⟩
   by_cases e:w.length=n
   ·exact .inr ((t2 z).1 ((iz z).2 ⟨w,hw,e⟩)).1
   ·exact .inl ((h.fd z z0 z1).2 ⟨w,hw,by omega⟩)
 ·by_cases e:w.length=n
  ·exact(h.E5 hD ha hn hw e).1
  ·exact h.lw z w hw (by omega)
 ·have b:=(Dv.aR x i wx i0 i1 tE.1).fx hD
  exact KD _ _ b.1 (h.oi x hx wx tE i i0 i1)
 ·have b:=(Dv.al x c y r wx wy c0 c1 r0 r1 tE.1 si.1).fx hD
  exact KD _ _ b.1 (h.ob x hx y hy wx wy tE si c r c0 c1 r0 r1)
theorem Sr.push{D:Vd}(hD:jQ D){m:Nat}{S:Fd}(h:Sr D m S){x:Nat}(hx:x<D.K.length) (hf:ix S.F (x:Int)=true) (Un:(x:Int)∉S.N):Sr D m (Fd.ext D x {S with N:=S.N ++ [(x:Int)]})/\(Fd.ext D x {S with N:=S.N ++ [(x:Int)]}).N=S.N ++ [(x:Int)]/\(Fd.ext D x {S with N:=S.N ++ [(x:Int)]}).F=S.F/\(∃wx,ix S.W (x:Int)=some wx)/\∀y∈S.N ++ [(x:Int)],(0<=y/\y<(D.K.length:Int))/\ix S.F y=true/\∃w,ix S.W y=some w:=by
 have GL:mf {S with N:=S.N ++ [(x:Int)]}:=⟨h.w.f,h.w.r,h.w.n,h.w.nd,h.w.bm,h.w.wl⟩
 have Xt:∀y:Int,0<=y->y<(D.K.length:Int)->ix S.F y=true->∃w,ix S.W y=some w/\kS D y w:=λy y0 y1 hy=>by
  obtain⟨w,hw,hl⟩:=(h.fd y y0 (by rw[h.l];exact y1)).1 hy
  exact⟨w,h.lw y w hw hl,hw⟩
 obtain⟨wx,tE,lx⟩:=Xt x (by omega) (by omega) hf
 have hN:∀y∈S.N ++ [(x:Int)],(0<=y/\y<(D.K.length:Int))/\ix S.F y=true:=λy hy=>by
  rcases eH.1 hy with hy|hy
  ·have:=h.nd y hy
   rw[h.l]at this;exact this
  ·simp at hy
   subst hy;exact⟨by omega,hf⟩
 obtain⟨M,e1,e2⟩:=Mo.ext hD (S:={S with N:=S.N ++ [(x:Int)]}) GL h.l hx tE lx.1 λy hy=>by
  obtain⟨a,b⟩:=hN y hy;obtain⟨w,hw,lw⟩:=Xt y a.1 a.2 b;exact⟨a,b,w,hw,lw.1⟩
 generalize Fd.ext D x {S with N:=S.N ++ [(x:Int)]}=T at *
 have hl:T.W.length=S.W.length:=M.k.l;have hF:T.F=S.F:=M.k.f;have UE:T.N=S.N ++ [(x:Int)]:=M.k.n;have KD:∀z t,0<=z->z<(D.K.length:Int)->qT S z t->qT T z t:=λz t z0 z1 a=>M.o z t z0 (by show z<(S.W.length:Int);rw[h.l];exact z1) a
 refine⟨⟨M.k.w,by rw[hl,h.l],λz w z0 z1=>M.dv h.dv z w z0 (by rw[hl]at z1;exact z1),λz w z0 z1=>M.bk h.bk z w z0 (by rw[hl]at z1;exact z1),λz z0 z1=>by rw[hF];exact h.fd z z0 (by rw[hl]at z1;exact z1),λz w hw aK=>?_,λy hy=>?_,?_,KD 0 [] (by omega) (by omega) h.o0,λy hy wy si i i0 i1=>?_,λy hy u hu wy wu si Xu c r c0 c1 r0 r1=>?_⟩,UE,hF,⟨wx,tE⟩,λy hy=>?_⟩
 ·have b:=hw.1.fx hD
  rw[M.k.k z b.1 ((h.fd z b.1 (by rw[h.l];exact b.2)).2 ⟨w,hw,aK⟩)]
  exact h.lw z w hw aK
 ·rw[UE]at hy
  rw[hF,hl,h.l];exact hN y hy
 ·rw[UE,sN]
  exact⟨h.nn,by simp,λa ha b hb=>by simp at hb;subst hb;exact λe=>Un (e▸ha)⟩
 ·have b:=(Dv.aR y i wy i0 i1 si.1).fx hD
  rw[UE]at hy;rcases eH.1 hy with hy|hy
  ·exact KD _ _ b.1 b.2 (h.oi y hy wy si i i0 i1)
  ·simp at hy
   subst hy;rw[si.qt lx];exact e1 i i0 i1
 ·have b:=(Dv.al y c u r wy wu c0 c1 r0 r1 si.1 Xu.1).fx hD
  have wOf:∀y∈S.N ++ [(x:Int)],∀w,kS D y w->ix S.W y=some w:=λy hy w hw=>by
   obtain⟨a,b⟩:=hN y hy;obtain⟨w', uo, lw'⟩:=Xt y a.1 a.2 b;rw[uo, lw'.qt hw]
  rw[UE]at hy hu
  by_cases e:y=x
  ·subst e
   rw[si.qt lx];exact(e2 u hu wu (wOf u hu wu Xu) c r c0 c1 r0 r1).1
  ·by_cases e' : u=x
   ·subst e'
    rw[Xu.qt lx];exact(e2 y hy wy (wOf y hy wy si) c r c0 c1 r0 r1).2
   ·have km : y∈S.N:=by
     rcases eH.1 hy with hy|hy
     ·exact hy
     ·simp at hy;exact absurd hy e
    have se : u∈S.N:=by
     rcases eH.1 hu with hu|hu
     ·exact hu
     ·simp at hu;exact absurd hu e'
    exact KD _ _ b.1 b.2 (h.ob y km u se wy wu si Xu c r c0 c1 r0 r1)
 ·obtain⟨a,b⟩:=hN y hy
  obtain⟨w,hw,_⟩:=Xt y a.1 a.2 b;exact⟨a,b,w,hw⟩
theorem FS.done{S:Fd}{va:AV}{p p' : Tf->Nat}{σ τ:List ag}(h:FS S va p σ){x:Int}(hp:∀t,t ≠ .dn->p' t=p t)
  (h1:al τ (p .f)=some ⟨some 5,[va,.sl (p .wo) S.W.length 0 S.W.length,.sl (p .fd) S.F.length 0 S.F.length,.sl (p .rd) S.R.length 0 S.R.length,.sl (p' .dn) (S.N.length+1) 0 (S.N.length+1)],.live⟩)
  (h2:al τ (p' .dn)=some (Zb (S.N ++ [x])))
  (h3:∀t B,t ≠ .f->t ≠ .dn->S.cont va p t=some B->al τ (p t)=some B)
  (h4:(S.N ≠ []/\p' .dn=p .dn)\/σ.length<=p' .dn):FS {S with N:=S.N ++ [x]} va p' τ:=by
 refine h.step (λt=>t = .f\/t = .dn) (λt ht=>?_) (λt B ht hB=>?_) (λt B ht hB=>h3 t B (λe=>ht (.inl e)) (λe=>ht (.inr e)) hB) (λt B ht hB=>?_) λt u ht hu aK e=>?_
 ·have t1:t ≠ .f:=λe=>ht (.inl e)
  have t2:t ≠ .dn:=λe=>ht (.inr e);refine⟨?_,hp t t2⟩;cases t with
  |f=>exact absurd rfl t1
  |dn=>exact absurd rfl t2
  |rd=>
   show some (⟨none,(List.range S.R.length).map λn=>cT (p' (.bk n)) (S.dN n).length,.live⟩:ag)=some ⟨none,(List.range S.R.length).map λn=>cT (p (.bk n)) (S.dN n).length,.live⟩;simp only[hp (.bk _) (by simp)]
  |_=>rfl
 ·rcases ht with rfl|rfl
  ·rw[hp _ (by simp),h1,<-hB]
   simp[Fd.cont,cT,hp]
  ·rw[h2,<-hB]
   simp[Fd.cont]
 ·rcases ht with rfl|rfl
  ·exact .inl ⟨⟨_,rfl⟩,hp _ (by simp)⟩
  ·exact h4.imp (λq=>⟨⟨_,ab q.1⟩,q.2⟩) id
 ·have q:=h.lt (t:=.f) rfl
  rcases ht with rfl|rfl
  ·rw[hp _ (by simp)]at aK;omega
  ·rcases hu with rfl|rfl
   ·rw[hp .f (by simp)]at e;omega
   ·rfl
def Xv:List AV:=List.replicate 1025 .ah
def lr (k:Nat):Fd:=⟨List.replicate k none,List.replicate k false,List.replicate 1025 [],[]⟩
def KE:Tf->Nat
 |.wo=>0
 |.fd=>1
 |.rd=>2
 |.f=>3
 |.dn=>0
 |.bk _=>0
theorem Al{k n:Nat}:(lr k).dN n=[]:=by
 show ix (List.replicate 1025 ([]:List Int)) (n:Int)=[]
 by_cases h:n<1025
 ·exact lq h
 ·unfold ix
  rw[gL,jH (by simp;omega)];rfl
theorem UF{k:Nat}{z:Int}:ix (lr k).F z=false:=by
 show ix (List.replicate k false) z=false;unfold ix;rw[gL]
 by_cases h:z.toNat<k
 ·rw[de (by simpa using h)];simp
 ·rw[jH (by simp;omega)];rfl
theorem vQ{k:Nat}{z:Int}:ix (lr k).W z=none:=by
 show ix (List.replicate k (none:Option (List Int))) z=none;unfold ix;rw[gL]
 by_cases h:z.toNat<k
 ·rw[de (by simpa using h)];simp
 ·rw[jH (by simp;omega)];rfl
theorem UG{k:Nat}(hk:k<=512):mf (lr k):=⟨by simp[lr],by simp[lr],by simpa[lr]using hk,λn=>by rw[Al];simp,λn y hy=>by rw[Al]at hy;simp at hy,λx w _ _ hw=>by rw[vQ]at hw;simp at hw⟩
theorem UH{k n:Nat}{va:AV}{p:Tf->Nat}:(lr k).cont va p (.bk n)=none:=ab (by rw[Al];simp)
theorem sr0{D:Vd}(hD:jQ D):Sr D 0 ((lr D.K.length).off 0 [])/\Xr ((lr D.K.length).off 0 []):=by
 have hw:=UG hD.f.k;have hl:(lr D.K.length).W.length=D.K.length:=by simp[lr]
 obtain⟨M,o⟩:=Mo.off (D:=D) hw (x:=0) (c:=[]) (by rw[hl];exact hD.k) .nil
 generalize (lr D.K.length).off 0 []=T at *;have eF:∀z,ix T.F z=false:=λz=>by rw[M.k.f];exact UF
 have eN:T.N=[]:=M.k.n;have eL:T.W.length=(lr D.K.length).W.length:=M.k.l;exact⟨⟨M.k.w,by rw[eL,hl],λz w z0 z1=>M.dv (λz w _ _ h=>by rw[vQ]at h;simp at h) z w z0 (by rw[<-eL];exact z1),λz w z0 z1=>M.bk (λz w _ _ _ h=>by rw[vQ]at h;simp at h) z w z0 (by rw[<-eL];exact z1),λz z0 z1=>by rw[eF];simp,λz w _ h=>by omega,λy hy=>by rw[eN]at hy;simp at hy,by rw[eN];simp,o,λx hx=>by rw[eN]at hx;simp at hx,λx hx=>by rw[eN]at hx;simp at hx⟩,λz _ _ h=>by rw[eF]at h;simp at h⟩
theorem ann (D:Vd) (hD:jQ D) (hs:D.n.calls+D.n.aj+D.n.aq<=64) :
  LX L Ey [D.vcs.av] [] (λr τ=>∃S:Fd,cx τ false r=some (.bS [cO (S.W.map λo=>o.getD []),bL S.F])/\Sr D 1025 S):=by
 refine aiv rfl ?_;have j5:=hD.k;have hk5:=hD.f.k;obtain⟨GY,KF⟩:=sr0 hD;have UI:FS (lr D.K.length) D.vcs.av KE [⟨none,List.replicate D.K.length .ah,.live⟩,⟨none,List.replicate D.K.length (.bool false),.live⟩,⟨none,Xv,.live⟩,⟨some 5,[D.vcs.av,.sl 0 D.K.length 0 D.K.length,.sl 1 D.K.length 0 D.K.length,.sl 2 1025 0 1025,.ah],.live⟩]:=by
  refine⟨λt B hB=>?_,λt u A B hA hB e=>?_⟩
  ·cases t with
   |f=>rw[<-hB];simp[lr,KE,al,Fd.cont,cT]
   |wo=>rw[<-hB];simp[lr,KE,al,Fd.cont,oz]
   |fd=>rw[<-hB];simp[lr,KE,al,Fd.cont]
   |rd=>
    rw[<-hB];have:(List.range (lr D.K.length).R.length).map (λn=>cT (KE (.bk n)) ((lr D.K.length).dN n).length)=Xv:=by
     simp only[Al,dF];rw[show(lr D.K.length).R.length=1025 by simp[lr]]
     show(List.range 1025).map (λ_=>AV.ah)=_;rw[List.map_const', List.length_range];rfl
    show some _=some (⟨none,(List.range (lr D.K.length).R.length).map (λn=>cT (KE (.bk n)) ((lr D.K.length).dN n).length),.live⟩:ag);rw[this]
   |dn=>simp[Fd.cont,lr]at hB
   |bk n=>simp[Fd.cont,Al]at hB
  ·cases t<;>cases u<;>first
    |rfl
    |(rw[UH]at hA;simp at hA;done)
    |(rw[UH]at hB;simp at hB;done)
    |(simp[Fd.cont,lr]at hA;done)
    |(simp[Fd.cont,lr]at hB;done)
    |(simp[KE]at e;done)
 have hO:=Kk (lr D.K.length) UI (UG hk5).ok (x:=0) (by simpa[lr]using j5) [(false,none)] (by simp[cv]) (by simp) (λo ho=>by rw[vQ]at ho;simp at ho) false
 obtain⟨r0,fj,hO,rfl,p0,hp0,xP⟩:=dS hO;simp only[dd,List.map_nil,xb]at hO;rw[show cv [(false,none)]=([]:List Int)from rfl]at xP;have yT:p0 .f=3:=hp0.1;have wW:List.replicate 1025 AV.ah=Xv:=rfl;have pO:∀l:List AV,(AV.agg l).cells=l:=λ_=>rfl;have yN:List.map AV.bool (List.replicate D.K.length false)=List.replicate D.K.length (.bool false):=by simp
 have hO' : L uL [.ptr 3 (aC (some 5)) 0,.int 0,.aE false [.ah]] [⟨none,List.replicate D.K.length .ah,.live⟩,⟨none,List.replicate D.K.length (.bool false),.live⟩,⟨none,Xv,.live⟩,⟨some 5,[.bd (.agg [.int D.n.calls,.int D.n.aj,.int D.n.aq,.int D.n.stack,.int D.n.start,bL D.n.accept,cO D.n.call,cO D.n.push,cO D.n.inner,fX D.n.pop,iL D.n.bw,iL D.plc,cO D.K,.qb,cO D.IN,nw D.BL]),.sl 0 D.K.length 0 D.K.length,.sl 1 D.K.length 0 D.K.length,.sl 2 1025 0 1025,.ah],.live⟩]=some (.bS [],fj):=hO;have L6:(D.K.length:Int)<=1073741824:=by omega
 have dQ:=xP.has .f _ rfl;rw[yT]at dQ;have hR1:(((lr D.K.length).off 0 []).R.length)=1025:=GY.w.r;rw[hR1]at dQ;simp[-ao,-List.map_replicate,-List.reduceReplicate];simp only[wW,pO,yN,hO'];simp[-ao,L6,dQ,hO', aC];refine bu (λq:Nat×(Tf->Nat)×List ag×Fd=>[(2,.int q.1)]) (λq=>q.2.2.1) (λq=>q.1<=1025/\q.2.1 .f=3/\FS q.2.2.2 D.vcs.av q.2.1 q.2.2.1/\Sr D q.1 q.2.2.2/\Xr q.2.2.2) (λq=>1025-q.1) (0,p0,fj,(lr D.K.length).off 0 []) (by simp[bY]) ⟨by simp,yT,xP,GY,KF⟩ ?_
 clear hO hO' dQ xP GY KF UI;rintro⟨n,p,σ,S⟩ ⟨n0,hp,hF,hS,hA⟩;dsimp only at n0 hp hF hS hA ⊢;have hv:=hF.has .f _ rfl;rw[hp]at hv
 by_cases hn:n<1025
 ·have lA :=bH (show(n:Int)<1025 by omega)
  have hTL:=anc S hF hS.w.ok (n:=n) (by omega) (λy hy=>(hS.w.bm n y hy).1)
  obtain⟨rv,τ,hT,rfl,hF2,A6,lY⟩:=dS hTL;clear hTL;obtain⟨iI,hm,jm⟩:=hS.take hD hs hA (by omega)
  generalize (iq (S.dN n) S.F).1=out at *;generalize (iq (S.dN n) S.F).2=F' at *;rw[hp]at hT;have Yo:=uQ D.K.length jm λy hy=>by
   obtain⟨w,hw,_⟩:=(hm y).1 hy;exact hw.1.fx hD
  simp[-ao,lA, hT];refine zW (b:=σ.length) (l:=out) A6 rfl rfl ?_;simp[-ao];have hF3:FS {S with F:=F'} D.vcs.av p (az τ σ.length ⟨none,out.map .int,.dead⟩):=hF2.Ai λt A uT =>by
   obtain⟨B,hB⟩:=Uj uT;have:=hF.lt hB;omega
  refine bu (λq:Nat×(Tf->Nat)×List ag×Fd=>[(5,.int q.1)]) (λq=>q.2.2.1) (λq=>q.1<=out.length/\q.2.1 .f=3/\FS q.2.2.2 D.vcs.av q.2.1 q.2.2.1/\Sr D (n+1) q.2.2.2/\q.2.2.2.N=S.N++out.take q.1/\q.2.2.2.F=F') (λq=>out.length-q.1) (0,p,_,{S with F:=F'}) (by simp[bY]) ⟨by simp,hp,hF3,iI,by simp,rfl⟩ ?_
  rintro⟨k,p3,xU,T⟩ ⟨k0,mN,hG,hR,hN,hTF⟩;dsimp only at k0 mN hG hR hN hTF ⊢;have UJ:=hG.has .f _ rfl;rw[mN]at UJ
  by_cases hk:k<out.length
  ·have tk:=lj hk
   have hxm:=aU (l:=out) (n:=(k:Int)) (by omega) (by omega)
   obtain⟨w,hw,xV⟩:=(hm _).1 hxm;have hxr:=hw.1.fx hD;obtain⟨x,vK⟩:∃x:Nat,ix out (k:Int)=x:=⟨(ix out (k:Int)).toNat,by omega⟩
   rw[vK]at hxm hw hxr tk;have xS:ix T.F (x:Int)=true:=(hR.fd x (by omega) (by rw[hR.l];exact hxr.2)).2 ⟨w,hw,by omega⟩
   have Un:(x:Int)∉T.N:=λiz=>by
    rw[hN]at iz;rcases eH.1 iz with iz|iz
    ·have hq:=hS.nd _ iz
     obtain⟨u,hu,oJ⟩:=(hS.fd x hq.1.1 hq.1.2).1 hq.2;rw[hu.qt hw]at oJ;omega
    ·have UK:(out.take (k+1)).Nodup:=jm.sublist (List.take_sublist _ _)
     rw[tk,sN]at UK;exact UK.2.2 _ iz _ (by simp) rfl
   obtain⟨hP,hPN,hPF,hPW,hPY⟩:=hR.push hD (by omega) xS Un
   have hwf:mf {T with N:=T.N ++ [(x:Int)]}:=⟨hR.w.f,hR.w.r,hR.w.n,hR.w.nd,hR.w.bm,hR.w.wl⟩
   have hPl:=uQ D.K.length (l:=T.N ++ [(x:Int)]) (by rw[<-hPN];exact hP.nn) λy hy=>(hPY y hy).1
   rw[bz]at hPl;simp only[cy,dF]at hPl;have fin:∀(p4:Tf->Nat) (L8:List ag),p4 .f=3->FS {T with N:=T.N ++ [(x:Int)]} D.vcs.av p4 L8->∃τ,L EE [.ptr 3 5 0,.int x] L8=some (.bS [],τ)/\∃p5,p5 .f=3/\FS (Fd.ext D x {T with N:=T.N ++ [(x:Int)]}) D.vcs.av p5 τ:=λp4 L8 w7 h4=>by
    have hE:=ane D hD {T with N:=T.N ++ [(x:Int)]} h4 hwf hR.l (x:=x) (by omega) xS (by simp) (by simp;omega) hPW hPY
    obtain⟨rv,τ,hE,rfl,p5,GZ,Ks⟩:=dS hE;rw[w7]at hE;exact⟨τ,hE,p5,GZ.1.trans w7,Ks⟩
   have l1:=hG.lt (t:=.f) rfl;rw[mN]at l1
   by_cases hz:T.N=[]
   ·obtain⟨τ5,hE,p5,GZ,Ks⟩:=fin (λt=>if t = .dn then xU.length else p3 t) (az (xU ++ [⟨none,[.int x],.live⟩]) 3 ⟨some 5,[D.vcs.av,.sl (p3 .wo) T.W.length 0 T.W.length,.sl (p3 .fd) T.F.length 0 T.F.length,.sl (p3 .rd) T.R.length 0 T.R.length,.sl xU.length 1 0 1],.live⟩) (by simpa using mN) (hG.done (λt ht=>ab ht) (by rw[mN,cH (by simp;omega),hz];simp) (by rw[ae rfl,aP (by omega),iA,hz];rfl) (λt B t1 t2 hB=>by
      rw[aP (by have:=hG.ne (t:=.f) rfl hB (Ne.symm t1);omega)];exact gn (hG.has t B hB)) (.inr (by rw[ae rfl];exact bA _)))
    have e6:cT (p3 .dn) T.N.length = .ah:=by rw[hz];rfl
    have z8:∀B:ag,al (xU ++ [B]) 3=_:=λB=>gn (r:=[B]) UJ;simp[-ao,hk,vK,UJ,z8,e6,hE];exact⟨by omega,aX (k+1,p5,τ5,Fd.ext D x {T with N:=T.N ++ [(x:Int)]}) (by simp) rfl ⟨by dsimp only;omega,GZ,Ks,hP,by dsimp only;rw[hPN,hN,tk];simp,by dsimp only;rw[hPF,hTF]⟩ (by dsimp only;omega)⟩
   ·have rS:=hG.has .dn _ (ab hz)
    have l2:=hG.lt (t:=.dn) (ab hz);have n1:p3 .dn ≠ 3:=by have:=hG.ne (t:=.dn) (u:=.f) (ab hz) rfl (by simp);omega
    obtain⟨τ5,hE,p5,GZ,Ks⟩:=fin p3 (az (az xU (p3 .dn) (Zb (T.N ++ [(x:Int)]))) 3 ⟨some 5,[D.vcs.av,.sl (p3 .wo) T.W.length 0 T.W.length,.sl (p3 .fd) T.F.length 0 T.F.length,.sl (p3 .rd) T.R.length 0 T.R.length,.sl (p3 .dn) (T.N.length+1) 0 (T.N.length+1)],.live⟩) mN (hG.done (λt ht=>rfl) (by rw[mN,cH (by rw[cg];omega)]) (by rw[aP (Ne.symm n1),cH l2]) (λt B t1 t2 hB=>by
      rw[aP (by have:=hG.ne (t:=.f) rfl hB (Ne.symm t1);omega),aP (hG.ne (t:=.dn) (ab hz) hB (Ne.symm t2))];exact hG.has t B hB) (.inl ⟨hz,rfl⟩))
    have e6:cT (p3 .dn) T.N.length = .sl (p3 .dn) T.N.length 0 T.N.length:=if_neg λe=>hz (List.eq_nil_of_length_eq_zero e);have z8:∀B:ag,al (az xU (p3 .dn) B) 3=_:=λB=>(aP n1).trans UJ;simp only[Zb,List.map_append,List.map_cons,List.map_nil]at hE;simp[-ao,hk,vK,UJ,z8,e6,rS,hE];exact⟨by omega,by omega,aX (k+1,p5,τ5,Fd.ext D x {T with N:=T.N ++ [(x:Int)]}) (by simp) rfl ⟨by dsimp only;omega,GZ,Ks,hP,by dsimp only;rw[hPN,hN,tk];simp,by dsimp only;rw[hPF,hTF]⟩ (by dsimp only;omega)⟩
  ·have ek:k=out.length:=by omega
   subst ek;rw[List.take_length]at hN;simp[-ao];refine⟨by omega,aX (n+1,p3,xU,T) (by simp) rfl ⟨by dsimp only;omega,mN,hG,hR,λz z0 z1 hz=>?_⟩ (by dsimp only;omega)⟩
   dsimp only at z1 hz ⊢;obtain⟨w,hw,hl⟩:=(hR.fd z z0 z1).1 hz;rw[hN]
   by_cases e:w.length=n
   ·exact eH.2 (.inr ((hm z).2 ⟨w,hw,e⟩))
   ·have z1' : z<(S.W.length:Int):=by rw[hS.l];rw[hR.l]at z1;exact z1
    exact eH.2 (.inl (hA z z0 z1' ((hS.fd z z0 z1').2 ⟨w,hw,by omega⟩)))
 ·have en:n=1025:=by omega
  subst en;have e1:view σ false vd (.sl (p .wo) S.W.length 0 S.W.length)=some (cO (S.W.map λo=>o.getD [])):=by
   have:=gx (k:=11) (f:=oz) (g:=λo=>iL (o.getD [])) (fr:=false) (hF.has .wo _ rfl) rfl rfl λo _=>by cases o<;>rfl
   rw[show vd=11+1 from rfl,this];simp
  have e2:view σ false vd (.sl (p .fd) S.F.length 0 S.F.length)=some (bL S.F):=gx (k:=11) (f:=AV.bool) (g:=AV.bool) (fr:=false) (hF.has .fd _ rfl) rfl rfl λo _=>rfl;simp[-ao,hv];exact⟨S,by rw[e1,e2],hS⟩
theorem ano (D:Vd) (hD:jQ D) (hs:D.n.calls+D.n.aj+D.n.aq<=64):∃S:Fd,PC Ey [D.vcs.av]=some (.bS [cO (S.W.map λo=>o.getD []),bL S.F])/\Sr D 1025 S:=Fz (g:=λS:Fd=>.bS [cO (S.W.map λo=>o.getD []),bL S.F]) (ann D hD hs)
end Ab
