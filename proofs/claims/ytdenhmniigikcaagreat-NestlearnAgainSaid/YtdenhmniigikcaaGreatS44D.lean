/- The rank of a word, and first words; and what it leans on. Condition: none. -/
import Derived.Test.YtdenhmniigikcaaGreatN43Word
import Derived.Test.YtdenhmniigikcaaGreatN44N
import Derived.Test.YtdenhmniigikcaaGreatN44Y
set_option linter.all false
set_option maxRecDepth 100000
set_option maxHeartbeats 4000000
namespace Ab
def fw:List Int->Nat
 | []=>0
 |x::w=>(x.toNat+1)*65^w.length+fw w
def sy (w:List Int):Prop:=∀x∈w,0<=x/\x<64
theorem JS{x:Int}{w:List Int}:sy (x::w)↔(0<=x/\x<64)/\sy w:=by simp[sy]
theorem zZ:∀{w:List Int},sy w->fw w<65^w.length
 | [],_=>by simp[fw]
 |x::w,h=>by
  obtain⟨h1,h2⟩:=JS.1 h;have ih:=zZ h2;have hx:x.toNat+1<=64:=by omega
  have:(x.toNat+1)*65^w.length<=64*65^w.length:=jR _ hx;rw[cw,Nat.pow_succ,fw];omega
theorem TU{x:Int}{w:List Int}:65^w.length<=fw (x::w):=by
 rw[fw];have:1*65^w.length<=(x.toNat+1)*65^w.length:=jR _ (by omega)
 omega
theorem JT{u v:List Int}(hu:sy u) (h:u.length<v.length):fw u<fw v:=by
 cases v with
 |nil=>simp at h
 |cons y v=>
  have h1:=zZ hu;have h2:=TU (x:=y) (w:=v);have h3:65^u.length<=65^v.length:=Nat.pow_le_pow_right (by omega) (by simpa using Nat.le_of_lt_succ h)
  omega
theorem E9{u v:List Int}(hv:sy v) (h:fw u<=fw v):u.length<=v.length:=by
 refine eS λhc=>?_;have:=JT hv (show v.length<u.length by omega)
 omega
theorem TV:∀{u v:List Int},sy u->sy v->u.length=v.length->cP u v<0->fw u<fw v
 | [],[],_,_,_,h=>by simp[cP]at h
 | [],_::_,_,_,h,_=>by simp at h
 |_::_,[],_,_,h,_=>by simp at h
 |x::u,y::v,hu,hv,hl,h=>by
  obtain⟨h1,h2⟩:=JS.1 hu;obtain⟨h3,h4⟩:=JS.1 hv;have ct : u.length=v.length:=by simpa using hl
  unfold cP at h;rw[fw,fw];split at h
  ·rename_i wa
   have a:=zZ h2;rw[ct]at a ⊢;have:(x.toNat+1+1)*65^v.length<=(y.toNat+1)*65^v.length:=jR _ (by omega)
   rw[fx (x.toNat+1)]at this;omega
  ·split at h
   ·omega
   ·rename_i a b
    have e:x=y:=by omega
    subst e;have:=TV h2 h4 ct h;rw[ct];omega
theorem TW{u v:List Int}(hu:sy u) (hv:sy v) (h:aV u v<0):fw u<fw v:=by
 unfold aV at h;split at h
 ·exact JT hu (by assumption)
 ·split at h
  ·omega
  ·exact TV hu hv (by omega) h
theorem w6{u v:List Int}(hu:sy u) (hv:sy v):aV u v<=0↔fw u<=fw v:=by
 constructor
 ·intro h
  by_cases e:aV u v=0
  ·rw[dJ.eq _ _ e];exact bw _
  ·exact Nat.le_of_lt (TW hu hv (by omega))
 ·intro h
  refine eS λhc=>?_;have:=dJ.gF u v;have:=TW hv hu (by omega)
  omega
theorem TX{u v:List Int}(hu:sy u) (hv:sy v) (h:fw u=fw v):u=v:=by
 refine dJ.eq u v ?_;have h1:=(w6 hu hv).2 (by omega)
 have h2:=(w6 hv hu).2 (by omega)
 have:=dJ.gF u v;omega
def uU (P:List Int->Prop) (w:List Int):Prop:=(P w/\w.length<=1024)/\∀v,P v->fw w<=fw v
theorem amc{P:List Int->Prop}(hP:∀w,P w->sy w):∀{w:List Int},P w->w.length<=1024->∃v,uU P v:=by
 have:∀(n:Nat) (w:List Int),fw w<=n->P w->∃v,P v/\fw v<=fw w/\∀u,P u->fw v<=fw u:=by
  intro n
  induction n with
  |zero=>exact λw h hw=>⟨w,hw,bw _,λu _=>by omega⟩
  |succ n ih=>
   intro w h hw
   by_cases hx:∃u,P u/\fw u<fw w
   ·obtain⟨u,h1,h2⟩:=hx
    obtain⟨v,v1,v2,v3⟩:=ih u (by omega) h1
    exact⟨v,v1,by omega,v3⟩
   ·exact⟨w,hw,bw _,λu hu=>by
     refine eS λhc=>hx ⟨u,hu,by omega⟩⟩
 intro w hw hl;obtain⟨v,v1,v2,v3⟩:=this _ w (bw _) hw;exact⟨v,⟨v1,by have:=E9 (hP w hw) v2;omega⟩,v3⟩
theorem amd{P:List Int->Prop}(hP:∀w,P w->sy w){u v:List Int}(h:uU P u) (k:uU P v):u=v:=by
 refine TX (hP u h.1.1) (hP v k.1.1) ?_;have:=h.2 v k.1.1;have:=k.2 u h.1.1;omega
open Classical in
noncomputable def kn (P:List Int->Prop):Option (List Int):=if h:∃w,uU P w then some (choose h)else none
theorem ame{P:List Int->Prop}{w:List Int}(h:kn P=some w):uU P w:=by
 unfold kn at h;split at h
 ·rename_i hx
  injection h with h
  rw[<-h];exact Classical.choose_spec hx
 ·simp at h
theorem amf{P:List Int->Prop}(hP:∀w,P w->sy w){w:List Int}(h:uU P w):kn P=some w:=by
 unfold kn;rw[dif_pos ⟨w,h⟩];exact congrArg some (amd hP (Classical.choose_spec (⟨w,h⟩:∃w,uU P w)) h)
structure fj.Sm (M:fj):Prop where
 ok:M.Ok
 sum:M.calls+M.aj+M.aq<=64
theorem Wd.sy{M:fj}(hM:M.Sm){s t:Int}{w:List Int}(h:Wd M s t w):Ab.sy w:=λx hx=>by
 have:=(h.run ⟨hM.ok.calls.1,hM.ok.aj.1,hM.ok.aq.1⟩).1 x hx;have:=hM.sum;omega
theorem Wd.range{M:fj}(hM:M.Ok){s t:Int}{w:List Int}(h:Wd M s t w) (hs:0<=s/\s<(M.size:Int)):0<=t/\t<(M.size:Int):=h.conn.range hM hs
noncomputable def fj.lk (M:fj) (s t:Int):Option (List Int):=kn (Wd M s t)
inductive tB (M:fj):Int->Int->List Int->Prop
 |aQ (s i:Int):0<=i->i<M.aj->tB M s (M.inner s i) [M.calls+i]
 |call (s c p r:Int) (u:List Int):0<=c->c<M.calls->0<=r->r<M.aq->Wd M (M.call s c).1 p u->tB M s (M.pop p (M.call s c).2 r) (c::(u ++ [M.calls+M.aj+r]))
theorem tB.wd{M:fj}{s t:Int}{w:List Int}(h:tB M s t w):Wd M s t w:=by
 cases h with
 |aQ i h0 h1=>exact .aQ s i _ [] h0 h1 (.nil _)
 |call c p r u h0 h1 h2 h3 h4=>exact .call s c p r _ u [] h0 h1 h2 h3 h4 (.nil _)
theorem tB.pos{M:fj}{s t:Int}{w:List Int}(h:tB M s t w):1<=w.length:=by
 cases h<;>simp
theorem tB.then{M:fj}{s p t:Int}{a b:List Int}(h:tB M s p a) (k:Wd M p t b):Wd M s t (a++b):=h.wd.app k
noncomputable def fj.sk (M:fj) (s t:Int):Option (List Int):=kn (tB M s t)
section
variable{M:fj}{s t:Int}{w:List Int}
end
end Ab
namespace Ab
theorem JU:∀(l:List Int) (F:List Bool),(∀y∈l,0<=y/\y<(F.length:Int))->(∀y:Int,0<=y->(ix (ia l F).2 y=true↔ix F y=true\/y∈l))/\(∀y,y∈(ia l F).1↔y∈l/\ix F y=false)/\(ia l F).1.Nodup
 | [],F,_=>⟨λy _=>by simp[ia],λy=>by simp[ia],by simp[ia]⟩
 |x::l,F,h=>by
  have hx:=h x (by simp)
  simp only[ia]
  by_cases e:ix F x=true
  ·rw[ab e]
   obtain⟨h1,h2,h3⟩:=JU l F λy hy=>h y (by simp[hy])
   refine⟨λy y0=>?_,λy=>?_,h3⟩
   ·rw[h1 y y0,cB]
    constructor
    ·rintro(a|a)
     ·exact .inl a
     ·exact .inr (.inr a)
    ·rintro(a|rfl|a)
     ·exact .inl a
     ·exact .inl e
     ·exact .inr a
   ·rw[h2 y,cB]
    constructor
    ·exact λa=>⟨.inr a.1,a.2⟩
    ·rintro⟨rfl|a,b⟩
     ·rw[e]at b;simp at b
     ·exact⟨a,b⟩
  ·rw[aa e]
   have e' : ix F x=false:=by simpa using e
   obtain⟨h1,h2,h3⟩:=JU l (F.set x.toNat true) λy hy=>by simpa using h y (by simp[hy])
   have hs:∀y:Int,0<=y->ix (F.set x.toNat true) y=if y=x then true else ix F y:=λy y0=>by
    rw[rO (by omega) y0]
    by_cases q:y=x
    ·rw[ab q,ab (by omega)]
    ·rw[aa q,aa (by omega)]
   refine⟨λy y0=>?_,λy=>?_,?_⟩
   ·show ix (ia l (F.set x.toNat true)).2 y=true↔_
    rw[h1 y y0,hs y y0,cB]
    by_cases q:y=x
    ·simp[q]
    ·simp[q]
   ·show y∈x::(ia l (F.set x.toNat true)).1↔_
    rw[cB,h2 y,cB];constructor
    ·rintro(rfl|⟨a,b⟩)
     ·exact⟨.inl rfl,e'⟩
     ·have y0:=(h y (by simp[a])).1
      rw[hs y y0]at b;split at b
      ·simp at b
      ·exact⟨.inr a,b⟩
    ·rintro⟨rfl|a,b⟩
     ·exact .inl rfl
     ·by_cases q:y=x
      ·exact .inl q
      ·have y0:=(h y (by simp[a])).1
       exact .inr ⟨a,by rw[hs y y0,aa q];exact b⟩
   ·show(x::(ia l (F.set x.toNat true)).1).Nodup
    rw[mD];refine⟨λhm=>?_,h3⟩;have:=((h2 x).1 hm).2;rw[hs x hx.1,ab rfl]at this;simp at this
theorem Dv.sy{D:Vd}(h:jO D) (hs:D.n.calls+D.n.aj+D.n.aq<=64){x:Int}{w:List Int}(hd:Dv D x w):Ab.sy w:=λa ha=>by
 have:=hd.sym h a ha;omega
theorem TY{D:Vd}(h:jO D) (hs:D.n.calls+D.n.aj+D.n.aq<=64){z:Int}{w:List Int}(hd:Dv D z w):∃v,kP D z v/\v.length<=w.length:=by
 have:∀(n:Nat) (w:List Int),fw w<=n->Dv D z w->∃v,Dv D z v/\fw v<=fw w/\∀u,Dv D z u->fw v<=fw u:=by
  intro n
  induction n with
  |zero=>exact λw h hw=>⟨w,hw,bw _,λu _=>by omega⟩
  |succ n ih=>
   intro w h hw
   by_cases hx:∃u,Dv D z u/\fw u<fw w
   ·obtain⟨u,h1,h2⟩:=hx
    obtain⟨v,v1,v2,v3⟩:=ih u (by omega) h1
    exact⟨v,v1,by omega,v3⟩
   ·exact⟨w,hw,bw _,λu hu=>by
     refine eS λhc=>hx ⟨u,hu,by omega⟩⟩
 obtain⟨v,v1,v2,v3⟩:=this _ w (bw _) hd;exact⟨v,⟨v1,λu hu=>(w6 (v1.sy h hs) (hu.sy h hs)).2 (v3 u hu)⟩,E9 (hd.sy h hs) v2⟩
structure Sr (D:Vd) (n:Nat) (S:Fd):Prop where
 w:mc S
 l:S.W.length=D.K.length
 dv:∀z w,0<=z->z<(S.W.length:Int)->ix S.W z=some w->Dv D z w
 bk:∀z w,0<=z->z<(S.W.length:Int)->ix S.F z=false->ix S.W z=some w->z∈S.dN w.length
 fd:∀z,0<=z->z<(S.W.length:Int)->(ix S.F z=true↔∃w,kP D z w/\w.length<n)
 lw:∀z w,kP D z w->w.length<n->ix S.W z=some w
 nd:∀y∈S.N,(0<=y/\y<(S.W.length:Int))/\ix S.F y=true
 nn:S.N.Nodup
 o0:qP S 0 []
 oi:∀x∈S.N,∀wx,kP D x wx->∀i,0<=i->i<D.n.aj->qP S (D.im x i) (wx ++ [D.n.calls+i])
 ob:∀x∈S.N,∀y∈S.N,∀wx wy,kP D x wx->kP D y wy->∀c r,0<=c->c<D.n.calls->0<=r->r<D.n.aq->qP S (D.bk x c y r) (wx++c::(wy ++ [D.n.calls+D.n.aj+r]))
def WO (S:Fd):Prop:=∀z:Int,0<=z->z<(S.W.length:Int)->ix S.F z=true->z∈S.N
theorem Sr.EB{D:Vd}(hD:jO D){n:Nat}{S:Fd}(h:Sr D n S) (ha:WO S) (hn:n<=1024){z:Int}{t:List Int}(ht:kP D z t) (hl:t.length=n):ix S.W z=some t/\ix S.F z=false:=by
 have hz:=ht.1.fu hD;have hf:ix S.F z=false:=by
  cases e:ix S.F z with
  |false=>rfl
  |true=>
   obtain⟨w,hw,aK⟩:=(h.fd z hz.1 (by rw[h.l];exact hz.2)).1 e
   rw[hw.qK ht]at aK;omega
 refine⟨?_,hf⟩;have mem:∀{x w},kP D x w->w.length<n->x∈S.N:=fun {x w} hx aK=>by
  have:=hx.1.fu hD;exact ha x this.1 (by rw[h.l];exact this.2) ((h.fd x this.1 (by rw[h.l];exact this.2)).2 ⟨w,hx,aK⟩)
 have ho:qP S z t:=by
  rcases ht.made with⟨rfl,rfl⟩|⟨x,i,w,i0,i1,hx,rfl,rfl⟩|⟨x,c,y,r,w,u,c0,c1,r0,r1,hx,hy,rfl,rfl⟩
  ·exact h.o0
  ·simp at hl
   exact h.oi x (mem hx (by omega)) w hx i i0 i1
  ·simp at hl
   exact h.ob x (mem hx (by omega)) y (mem hy (by omega)) w u hx hy c r c0 c1 r0 r1
 rcases ho with a|a|⟨v,a,b⟩
 ·omega
 ·rw[hf]at a;simp at a
 ·have h1:=ht.2 v (h.dv z v hz.1 (by rw[h.l];exact hz.2) a)
  have h2:=dJ.gF v t;rw[a,dJ.eq v t (by omega)]
theorem Sr.take{D:Vd}(hD:jO D) (hs:D.n.calls+D.n.aj+D.n.aq<=64){n:Nat}{S:Fd}(h:Sr D n S) (ha:WO S) (hn:n<=1024):Sr D (n+1) {S with F:=(ia (S.dN n) S.F).2}/\(∀x,x∈(ia (S.dN n) S.F).1↔∃w,kP D x w/\w.length=n)/\(ia (S.dN n) S.F).1.Nodup:=by
 have hr:∀y∈S.dN n,0<=y/\y<(S.F.length:Int):=λy hy=>by
  have:=(h.w.bm n y hy).1;rw[h.w.f];exact this
 obtain⟨t1,t2,t3⟩:=JU (S.dN n) S.F hr;have il:∀x,x∈(ia (S.dN n) S.F).1↔∃w,kP D x w/\w.length=n:=λx=>by
  rw[t2 x];constructor
  ·rintro⟨hb,hf⟩
   obtain⟨⟨x0,x1⟩,w,hw,xM⟩:=h.w.bm n x hb;obtain⟨v,hv,pI⟩:=TY hD hs (h.dv x w x0 x1 hw);refine⟨v,hv,eS λhc=>?_⟩;rw[(h.fd x x0 x1).2 ⟨v,hv,by omega⟩]at hf
   simp at hf
  ·rintro⟨w,hw,hl⟩
   obtain⟨a,b⟩:=h.EB hD ha hn hw hl;have:=hw.1.fu hD;have:=h.bk x w this.1 (by rw[h.l];exact this.2) b a
   rw[hl]at this;exact⟨this,b⟩
 have mono:∀z:Int,0<=z->ix S.F z=true->ix (ia (S.dN n) S.F).2 z=true:=λz z0 a=>(t1 z z0).2 (.inl a);have JV:∀z t,0<=z->qP S z t->qP {S with F:=(ia (S.dN n) S.F).2} z t:=λz t z0 a=>by
  rcases a with a|a|a
  ·exact .inl a
  ·exact .inr (.inl (mono z z0 a))
  ·exact .inr (.inr a)
 refine⟨⟨⟨by show(ia (S.dN n) S.F).2.length=_;rw[(zW _ _).1];exact h.w.f,h.w.r,h.w.n,h.w.nd,h.w.bm,h.w.wl⟩,h.l,h.dv,λz w z0 z1 hf hw=>?_,λz z0 z1=>?_,λz w hw hl=>?_,λy hy=>⟨(h.nd y hy).1,mono y (h.nd y hy).1.1 (h.nd y hy).2⟩,h.nn,JV 0 [] (by omega) h.o0,λx hx wx tA i i0 i1=>?_,λx hx y hy wx wy tA se c r c0 c1 r0 r1=>?_⟩,il,t3⟩
 ·refine h.bk z w z0 z1 ?_ hw
  cases e:ix S.F z with
  |false=>rfl
  |true=>
   have:=mono z z0 e;rw[show ix (ia (S.dN n) S.F).2 z=false from hf]at this;simp at this
 ·show ix (ia (S.dN n) S.F).2 z=true↔_
  rw[t1 z z0];constructor
  ·intro a
   by_cases e:ix S.F z=true
   ·obtain⟨w,hw,hl⟩:=(h.fd z z0 z1).1 e
    exact⟨w,hw,by omega⟩
   ·rcases a with a|a
    ·exact absurd a e
    ·obtain⟨w,hw,hl⟩:=(il z).1 ((t2 z).2 ⟨a,by simpa using e⟩)
     exact⟨w,hw,by omega⟩
  ·rintro⟨w,hw,hl⟩
   by_cases e:w.length=n
   ·exact .inr ((t2 z).1 ((il z).2 ⟨w,hw,e⟩)).1
   ·exact .inl ((h.fd z z0 z1).2 ⟨w,hw,by omega⟩)
 ·by_cases e:w.length=n
  ·exact(h.EB hD ha hn hw e).1
  ·exact h.lw z w hw (by omega)
 ·have b:=(Dv.aQ x i wx i0 i1 tA.1).fu hD
  exact JV _ _ b.1 (h.oi x hx wx tA i i0 i1)
 ·have b:=(Dv.ak x c y r wx wy c0 c1 r0 r1 tA.1 se.1).fu hD
  exact JV _ _ b.1 (h.ob x hx y hy wx wy tA se c r c0 c1 r0 r1)
theorem Sr.push{D:Vd}(hD:jO D){m:Nat}{S:Fd}(h:Sr D m S){x:Nat}(hx:x<D.K.length) (hf:ix S.F (x:Int)=true) (TM:(x:Int)∉S.N):Sr D m (Fd.ext D x {S with N:=S.N ++ [(x:Int)]})/\(Fd.ext D x {S with N:=S.N ++ [(x:Int)]}).N=S.N ++ [(x:Int)]/\(Fd.ext D x {S with N:=S.N ++ [(x:Int)]}).F=S.F/\(∃wx,ix S.W (x:Int)=some wx)/\∀y∈S.N ++ [(x:Int)],(0<=y/\y<(D.K.length:Int))/\ix S.F y=true/\∃w,ix S.W y=some w:=by
 have I6:mc {S with N:=S.N ++ [(x:Int)]}:=⟨h.w.f,h.w.r,h.w.n,h.w.nd,h.w.bm,h.w.wl⟩
 have WQ:∀y:Int,0<=y->y<(D.K.length:Int)->ix S.F y=true->∃w,ix S.W y=some w/\kP D y w:=λy y0 y1 hy=>by
  obtain⟨w,hw,hl⟩:=(h.fd y y0 (by rw[h.l];exact y1)).1 hy
  exact⟨w,h.lw y w hw hl,hw⟩
 obtain⟨wx,tA,lx⟩:=WQ x (by omega) (by omega) hf
 have hN:∀y∈S.N ++ [(x:Int)],(0<=y/\y<(D.K.length:Int))/\ix S.F y=true:=λy hy=>by
  rcases eI.1 hy with hy|hy
  ·have:=h.nd y hy
   rw[h.l]at this;exact this
  ·simp at hy
   subst hy;exact⟨by omega,hf⟩
 obtain⟨M,e1,e2⟩:=Mo.ext hD (S:={S with N:=S.N ++ [(x:Int)]}) I6 h.l hx tA lx.1 λy hy=>by
  obtain⟨a,b⟩:=hN y hy;obtain⟨w,hw,lw⟩:=WQ y a.1 a.2 b;exact⟨a,b,w,hw,lw.1⟩
 generalize Fd.ext D x {S with N:=S.N ++ [(x:Int)]}=T at *
 have hl:T.W.length=S.W.length:=M.k.l;have hF:T.F=S.F:=M.k.f;have TZ:T.N=S.N ++ [(x:Int)]:=M.k.n;have JV:∀z t,0<=z->z<(D.K.length:Int)->qP S z t->qP T z t:=λz t z0 z1 a=>M.o z t z0 (by show z<(S.W.length:Int);rw[h.l];exact z1) a
 refine⟨⟨M.k.w,by rw[hl,h.l],λz w z0 z1=>M.dv h.dv z w z0 (by rw[hl]at z1;exact z1),λz w z0 z1=>M.bk h.bk z w z0 (by rw[hl]at z1;exact z1),λz z0 z1=>by rw[hF];exact h.fd z z0 (by rw[hl]at z1;exact z1),λz w hw aK=>?_,λy hy=>?_,?_,JV 0 [] (by omega) (by omega) h.o0,λy hy wy se i i0 i1=>?_,λy hy u hu wy wu se WR c r c0 c1 r0 r1=>?_⟩,TZ,hF,⟨wx,tA⟩,λy hy=>?_⟩
 ·have b:=hw.1.fu hD
  rw[M.k.k z b.1 ((h.fd z b.1 (by rw[h.l];exact b.2)).2 ⟨w,hw,aK⟩)]
  exact h.lw z w hw aK
 ·rw[TZ]at hy
  rw[hF,hl,h.l];exact hN y hy
 ·rw[TZ,sK]
  exact⟨h.nn,by simp,λa ha b hb=>by simp at hb;subst hb;exact λe=>TM (e▸ha)⟩
 ·have b:=(Dv.aQ y i wy i0 i1 se.1).fu hD
  rw[TZ]at hy;rcases eI.1 hy with hy|hy
  ·exact JV _ _ b.1 b.2 (h.oi y hy wy se i i0 i1)
  ·simp at hy
   subst hy;rw[se.qK lx];exact e1 i i0 i1
 ·have b:=(Dv.ak y c u r wy wu c0 c1 r0 r1 se.1 WR.1).fu hD
  have wOf:∀y∈S.N ++ [(x:Int)],∀w,kP D y w->ix S.W y=some w:=λy hy w hw=>by
   obtain⟨a,b⟩:=hN y hy;obtain⟨w', ui, lw'⟩:=WQ y a.1 a.2 b;rw[ui, lw'.qK hw]
  rw[TZ]at hy hu
  by_cases e:y=x
  ·subst e
   rw[se.qK lx];exact(e2 u hu wu (wOf u hu wu WR) c r c0 c1 r0 r1).1
  ·by_cases e' : u=x
   ·subst e'
    rw[WR.qK lx];exact(e2 y hy wy (wOf y hy wy se) c r c0 c1 r0 r1).2
   ·have kj : y∈S.N:=by
     rcases eI.1 hy with hy|hy
     ·exact hy
     ·simp at hy;exact absurd hy e
    have r9 : u∈S.N:=by
     rcases eI.1 hu with hu|hu
     ·exact hu
     ·simp at hu;exact absurd hu e'
    exact JV _ _ b.1 b.2 (h.ob y kj u r9 wy wu se WR c r c0 c1 r0 r1)
 ·obtain⟨a,b⟩:=hN y hy
  obtain⟨w,hw,_⟩:=WQ y a.1 a.2 b;exact⟨a,b,w,hw⟩
theorem FS.done{S:Fd}{va:AV}{p p' : Tf->Nat}{σ τ:List ag}(h:FS S va p σ){x:Int}(hp:∀t,t ≠ .dn->p' t=p t)
  (h1:ak τ (p .f)=some ⟨some 5,[va,.sl (p .wo) S.W.length 0 S.W.length,.sl (p .fd) S.F.length 0 S.F.length,.sl (p .rd) S.R.length 0 S.R.length,.sl (p' .dn) (S.N.length+1) 0 (S.N.length+1)],.live⟩)
  (h2:ak τ (p' .dn)=some (Zb (S.N ++ [x])))
  (h3:∀t B,t ≠ .f->t ≠ .dn->S.cont va p t=some B->ak τ (p t)=some B)
  (h4:(S.N ≠ []/\p' .dn=p .dn)\/σ.length<=p' .dn):FS {S with N:=S.N ++ [x]} va p' τ:=by
 refine h.step (λt=>t = .f\/t = .dn) (λt ht=>?_) (λt B ht hB=>?_) (λt B ht hB=>h3 t B (λe=>ht (.inl e)) (λe=>ht (.inr e)) hB) (λt B ht hB=>?_) λt u ht hu aK e=>?_
 ·have t1:t ≠ .f:=λe=>ht (.inl e)
  have t2:t ≠ .dn:=λe=>ht (.inr e);refine⟨?_,hp t t2⟩;cases t with
  |f=>exact absurd rfl t1
  |dn=>exact absurd rfl t2
  |rd=>
   show some (⟨none,(List.range S.R.length).map λn=>cQ (p' (.bk n)) (S.dN n).length,.live⟩:ag)=some ⟨none,(List.range S.R.length).map λn=>cQ (p (.bk n)) (S.dN n).length,.live⟩;simp only[hp (.bk _) (by simp)]
  |_=>rfl
 ·rcases ht with rfl|rfl
  ·rw[hp _ (by simp),h1,<-hB]
   simp[Fd.cont,cQ,hp]
  ·rw[h2,<-hB]
   simp[Fd.cont]
 ·rcases ht with rfl|rfl
  ·exact .inl ⟨⟨_,rfl⟩,hp _ (by simp)⟩
  ·exact h4.imp (λq=>⟨⟨_,aa q.1⟩,q.2⟩) id
 ·have q:=h.lt (t:=.f) rfl
  rcases ht with rfl|rfl
  ·rw[hp _ (by simp)]at aK;omega
  ·rcases hu with rfl|rfl
   ·rw[hp .f (by simp)]at e;omega
   ·rfl
def WS:List AV:=List.replicate 1025 .ah
def lj (k:Nat):Fd:=⟨List.replicate k none,List.replicate k false,List.replicate 1025 [],[]⟩
def JW:Tf->Nat
 |.wo=>0
 |.fd=>1
 |.rd=>2
 |.f=>3
 |.dn=>0
 |.bk _=>0
theorem z6{k n:Nat}:(lj k).dN n=[]:=by
 show ix (List.replicate 1025 ([]:List Int)) (n:Int)=[]
 by_cases h:n<1025
 ·exact lh h
 ·unfold ix
  rw[gG,jF (by simp;omega)];rfl
theorem T1{k:Nat}{z:Int}:ix (lj k).F z=false:=by
 show ix (List.replicate k false) z=false;unfold ix;rw[gG]
 by_cases h:z.toNat<k
 ·rw[dc (by simpa using h)];simp
 ·rw[jF (by simp;omega)];rfl
theorem vL{k:Nat}{z:Int}:ix (lj k).W z=none:=by
 show ix (List.replicate k (none:Option (List Int))) z=none;unfold ix;rw[gG]
 by_cases h:z.toNat<k
 ·rw[dc (by simpa using h)];simp
 ·rw[jF (by simp;omega)];rfl
theorem T2{k:Nat}(hk:k<=512):mc (lj k):=⟨by simp[lj],by simp[lj],by simpa[lj]using hk,λn=>by rw[z6];simp,λn y hy=>by rw[z6]at hy;simp at hy,λx w _ _ hw=>by rw[vL]at hw;simp at hw⟩
theorem T4{k n:Nat}{va:AV}{p:Tf->Nat}:(lj k).cont va p (.bk n)=none:=aa (by rw[z6];simp)
theorem sr0{D:Vd}(hD:jO D):Sr D 0 ((lj D.K.length).off 0 [])/\WO ((lj D.K.length).off 0 []):=by
 have hw:=T2 hD.f.k;have hl:(lj D.K.length).W.length=D.K.length:=by simp[lj]
 obtain⟨M,o⟩:=Mo.off (D:=D) hw (x:=0) (c:=[]) (by rw[hl];exact hD.k) .nil
 generalize (lj D.K.length).off 0 []=T at *;have eF:∀z,ix T.F z=false:=λz=>by rw[M.k.f];exact T1
 have eN:T.N=[]:=M.k.n;have eL:T.W.length=(lj D.K.length).W.length:=M.k.l;exact⟨⟨M.k.w,by rw[eL,hl],λz w z0 z1=>M.dv (λz w _ _ h=>by rw[vL]at h;simp at h) z w z0 (by rw[<-eL];exact z1),λz w z0 z1=>M.bk (λz w _ _ _ h=>by rw[vL]at h;simp at h) z w z0 (by rw[<-eL];exact z1),λz z0 z1=>by rw[eF];simp,λz w _ h=>by omega,λy hy=>by rw[eN]at hy;simp at hy,by rw[eN];simp,o,λx hx=>by rw[eN]at hx;simp at hx,λx hx=>by rw[eN]at hx;simp at hx⟩,λz _ _ h=>by rw[eF]at h;simp at h⟩
theorem amg (D:Vd) (hD:jO D) (hs:D.n.calls+D.n.aj+D.n.aq<=64) :
  LX L D6 [D.vcs.av] [] (λr τ=>∃S:Fd,cv τ false r=some (.bQ [cK (S.W.map λo=>o.getD []),bL S.F])/\Sr D 1025 S):=by
 refine ahF rfl ?_;have jY:=hD.k;have hk5:=hD.f.k;obtain⟨Gm,JX⟩:=sr0 hD;have T5:FS (lj D.K.length) D.vcs.av JW [⟨none,List.replicate D.K.length .ah,.live⟩,⟨none,List.replicate D.K.length (.bool false),.live⟩,⟨none,WS,.live⟩,⟨some 5,[D.vcs.av,.sl 0 D.K.length 0 D.K.length,.sl 1 D.K.length 0 D.K.length,.sl 2 1025 0 1025,.ah],.live⟩]:=by
  refine⟨λt B hB=>?_,λt u A B hA hB e=>?_⟩
  ·cases t with
   |f=>rw[<-hB];simp[lj,JW,ak,Fd.cont,cQ]
   |wo=>rw[<-hB];simp[lj,JW,ak,Fd.cont,oo]
   |fd=>rw[<-hB];simp[lj,JW,ak,Fd.cont]
   |rd=>
    rw[<-hB];have:(List.range (lj D.K.length).R.length).map (λn=>cQ (JW (.bk n)) ((lj D.K.length).dN n).length)=WS:=by
     simp only[z6,dD];rw[show(lj D.K.length).R.length=1025 by simp[lj]]
     show(List.range 1025).map (λ_=>AV.ah)=_;rw[List.map_const', List.length_range];rfl
    show some _=some (⟨none,(List.range (lj D.K.length).R.length).map (λn=>cQ (JW (.bk n)) ((lj D.K.length).dN n).length),.live⟩:ag);rw[this]
   |dn=>simp[Fd.cont,lj]at hB
   |bk n=>simp[Fd.cont,z6]at hB
  ·cases t<;>cases u<;>first
    |rfl
    |(rw[T4]at hA;simp at hA;done)
    |(rw[T4]at hB;simp at hB;done)
    |(simp[Fd.cont,lj]at hA;done)
    |(simp[Fd.cont,lj]at hB;done)
    |(simp[JW]at e;done)
 have hO:=JJ (lj D.K.length) T5 (T2 hk5).ok (x:=0) (by simpa[lj]using jY) [(false,none)] (by simp[cq]) (by simp) (λo ho=>by rw[vL]at ho;simp at ho) false
 obtain⟨r0,fh,hO,rfl,p0,hp0,xF⟩:=dS hO;simp only[db,List.map_nil,w5]at hO;rw[show cq [(false,none)]=([]:List Int)from rfl]at xF;have yJ:p0 .f=3:=hp0.1;have wQ:List.replicate 1025 AV.ah=WS:=rfl;have pL:∀l:List AV,(AV.agg l).cells=l:=λ_=>rfl;have yC:List.map AV.bool (List.replicate D.K.length false)=List.replicate D.K.length (.bool false):=by simp
 have hO' : L uL [.ptr 3 (aC (some 5)) 0,.int 0,.aE false [.ah]] [⟨none,List.replicate D.K.length .ah,.live⟩,⟨none,List.replicate D.K.length (.bool false),.live⟩,⟨none,WS,.live⟩,⟨some 5,[.bd (.agg [.int D.n.calls,.int D.n.aj,.int D.n.aq,.int D.n.stack,.int D.n.start,bL D.n.accept,cK D.n.call,cK D.n.push,cK D.n.inner,fU D.n.pop,iL D.n.bj,iL D.plc,cK D.K,.p7,cK D.IN,nh D.BL]),.sl 0 D.K.length 0 D.K.length,.sl 1 D.K.length 0 D.K.length,.sl 2 1025 0 1025,.ah],.live⟩]=some (.bQ [],fh):=hO;have Lk:(D.K.length:Int)<=1073741824:=by omega
 have dQ:=xF.has .f _ rfl;rw[yJ]at dQ;have hR1:(((lj D.K.length).off 0 []).R.length)=1025:=Gm.w.r;rw[hR1]at dQ;simp[-al,-List.map_replicate,-List.reduceReplicate];simp only[wQ,pL,yC,hO'];simp[-al,Lk,dQ,hO', aC];refine bC (λq:Nat×(Tf->Nat)×List ag×Fd=>[(2,.int q.1)]) (λq=>q.2.2.1) (λq=>q.1<=1025/\q.2.1 .f=3/\FS q.2.2.2 D.vcs.av q.2.1 q.2.2.1/\Sr D q.1 q.2.2.2/\WO q.2.2.2) (λq=>1025-q.1) (0,p0,fh,(lj D.K.length).off 0 []) (by simp[bT]) ⟨by simp,yJ,xF,Gm,JX⟩ ?_
 clear hO hO' dQ xF Gm JX T5;rintro⟨n,p,σ,S⟩ ⟨n0,hp,hF,hS,hA⟩;dsimp only at n0 hp hF hS hA ⊢;have hv:=hF.has .f _ rfl;rw[hp]at hv
 by_cases hn:n<1025
 ·have lr :=bM (show(n:Int)<1025 by omega)
  have hTL:=al9 S hF hS.w.ok (n:=n) (by omega) (λy hy=>(hS.w.bm n y hy).1)
  obtain⟨rv,τ,hT,rfl,hF2,AN,lU⟩:=dS hTL;clear hTL;obtain⟨iC,hm,jh⟩:=hS.take hD hs hA (by omega)
  generalize (ia (S.dN n) S.F).1=out at *;generalize (ia (S.dN n) S.F).2=F' at *;rw[hp]at hT;have XL:=tq D.K.length jh λy hy=>by
   obtain⟨w,hw,_⟩:=(hm y).1 hy;exact hw.1.fu hD
  simp[-al,lr, hT];refine zI (b:=σ.length) (l:=out) AN rfl rfl ?_;simp[-al];have hF3:FS {S with F:=F'} D.vcs.av p (ay τ σ.length ⟨none,out.map .int,.dead⟩):=hF2.zX λt A uO =>by
   obtain⟨B,hB⟩:=TH uO;have:=hF.lt hB;omega
  refine bC (λq:Nat×(Tf->Nat)×List ag×Fd=>[(5,.int q.1)]) (λq=>q.2.2.1) (λq=>q.1<=out.length/\q.2.1 .f=3/\FS q.2.2.2 D.vcs.av q.2.1 q.2.2.1/\Sr D (n+1) q.2.2.2/\q.2.2.2.N=S.N++out.take q.1/\q.2.2.2.F=F') (λq=>out.length-q.1) (0,p,_,{S with F:=F'}) (by simp[bT]) ⟨by simp,hp,hF3,iC,by simp,rfl⟩ ?_
  rintro⟨k,p3,xL,T⟩ ⟨k0,mJ,hG,hR,hN,hTF⟩;dsimp only at k0 mJ hG hR hN hTF ⊢;have T6:=hG.has .f _ rfl;rw[mJ]at T6
  by_cases hk:k<out.length
  ·have tk:=lg hk
   have hxm:=aZ (l:=out) (n:=(k:Int)) (by omega) (by omega)
   obtain⟨w,hw,xM⟩:=(hm _).1 hxm;have hxr:=hw.1.fu hD;obtain⟨x,vG⟩:∃x:Nat,ix out (k:Int)=x:=⟨(ix out (k:Int)).toNat,by omega⟩
   rw[vG]at hxm hw hxr tk;have xI:ix T.F (x:Int)=true:=(hR.fd x (by omega) (by rw[hR.l];exact hxr.2)).2 ⟨w,hw,by omega⟩
   have TM:(x:Int)∉T.N:=λil=>by
    rw[hN]at il;rcases eI.1 il with il|il
    ·have hq:=hS.nd _ il
     obtain⟨u,hu,oE⟩:=(hS.fd x hq.1.1 hq.1.2).1 hq.2;rw[hu.qK hw]at oE;omega
    ·have T7:(out.take (k+1)).Nodup:=jh.sublist (List.take_sublist _ _)
     rw[tk,sK]at T7;exact T7.2.2 _ il _ (by simp) rfl
   obtain⟨hP,hPN,hPF,hPW,hPY⟩:=hR.push hD (by omega) xI TM
   have hwf:mc {T with N:=T.N ++ [(x:Int)]}:=⟨hR.w.f,hR.w.r,hR.w.n,hR.w.nd,hR.w.bm,hR.w.wl⟩
   have hPl:=tq D.K.length (l:=T.N ++ [(x:Int)]) (by rw[<-hPN];exact hP.nn) λy hy=>(hPY y hy).1
   rw[bu]at hPl;simp only[cw,dD]at hPl;have fin:∀(p4:Tf->Nat) (Ll:List ag),p4 .f=3->FS {T with N:=T.N ++ [(x:Int)]} D.vcs.av p4 Ll->∃τ,L Eb [.ptr 3 5 0,.int x] Ll=some (.bQ [],τ)/\∃p5,p5 .f=3/\FS (Fd.ext D x {T with N:=T.N ++ [(x:Int)]}) D.vcs.av p5 τ:=λp4 Ll wY h4=>by
    have hE:=ama D hD {T with N:=T.N ++ [(x:Int)]} h4 hwf hR.l (x:=x) (by omega) xI (by simp) (by simp;omega) hPW hPY
    obtain⟨rv,τ,hE,rfl,p5,Gn,JQ⟩:=dS hE;rw[wY]at hE;exact⟨τ,hE,p5,Gn.1.trans wY,JQ⟩
   have l1:=hG.lt (t:=.f) rfl;rw[mJ]at l1
   by_cases hz:T.N=[]
   ·obtain⟨τ5,hE,p5,Gn,JQ⟩:=fin (λt=>if t = .dn then xL.length else p3 t) (ay (xL ++ [⟨none,[.int x],.live⟩]) 3 ⟨some 5,[D.vcs.av,.sl (p3 .wo) T.W.length 0 T.W.length,.sl (p3 .fd) T.F.length 0 T.F.length,.sl (p3 .rd) T.R.length 0 T.R.length,.sl xL.length 1 0 1],.live⟩) (by simpa using mJ) (hG.done (λt ht=>aa ht) (by rw[mJ,cE (by simp;omega),hz];simp) (by rw[ab rfl,aO (by omega),iq,hz];rfl) (λt B t1 t2 hB=>by
      rw[aO (by have:=hG.ne (t:=.f) rfl hB (Ne.symm t1);omega)];exact gi (hG.has t B hB)) (.inr (by rw[ab rfl];exact bw _)))
    have e6:cQ (p3 .dn) T.N.length = .ah:=by rw[hz];rfl
    have zP:∀B:ag,ak (xL ++ [B]) 3=_:=λB=>gi (r:=[B]) T6;simp[-al,hk,vG,T6,zP,e6,hE];exact⟨by omega,ba (k+1,p5,τ5,Fd.ext D x {T with N:=T.N ++ [(x:Int)]}) (by simp) rfl ⟨by dsimp only;omega,Gn,JQ,hP,by dsimp only;rw[hPN,hN,tk];simp,by dsimp only;rw[hPF,hTF]⟩ (by dsimp only;omega)⟩
   ·have rP:=hG.has .dn _ (aa hz)
    have l2:=hG.lt (t:=.dn) (aa hz);have n1:p3 .dn ≠ 3:=by have:=hG.ne (t:=.dn) (u:=.f) (aa hz) rfl (by simp);omega
    obtain⟨τ5,hE,p5,Gn,JQ⟩:=fin p3 (ay (ay xL (p3 .dn) (Zb (T.N ++ [(x:Int)]))) 3 ⟨some 5,[D.vcs.av,.sl (p3 .wo) T.W.length 0 T.W.length,.sl (p3 .fd) T.F.length 0 T.F.length,.sl (p3 .rd) T.R.length 0 T.R.length,.sl (p3 .dn) (T.N.length+1) 0 (T.N.length+1)],.live⟩) mJ (hG.done (λt ht=>rfl) (by rw[mJ,cE (by rw[bZ];omega)]) (by rw[aO (Ne.symm n1),cE l2]) (λt B t1 t2 hB=>by
      rw[aO (by have:=hG.ne (t:=.f) rfl hB (Ne.symm t1);omega),aO (hG.ne (t:=.dn) (aa hz) hB (Ne.symm t2))];exact hG.has t B hB) (.inl ⟨hz,rfl⟩))
    have e6:cQ (p3 .dn) T.N.length = .sl (p3 .dn) T.N.length 0 T.N.length:=if_neg λe=>hz (List.eq_nil_of_length_eq_zero e);have zP:∀B:ag,ak (ay xL (p3 .dn) B) 3=_:=λB=>(aO n1).trans T6;simp only[Zb,List.map_append,List.map_cons,List.map_nil]at hE;simp[-al,hk,vG,T6,zP,e6,rP,hE];exact⟨by omega,by omega,ba (k+1,p5,τ5,Fd.ext D x {T with N:=T.N ++ [(x:Int)]}) (by simp) rfl ⟨by dsimp only;omega,Gn,JQ,hP,by dsimp only;rw[hPN,hN,tk];simp,by dsimp only;rw[hPF,hTF]⟩ (by dsimp only;omega)⟩
  ·have ek:k=out.length:=by omega
   subst ek;rw[List.take_length]at hN;simp[-al];refine⟨by omega,ba (n+1,p3,xL,T) (by simp) rfl ⟨by dsimp only;omega,mJ,hG,hR,λz z0 z1 hz=>?_⟩ (by dsimp only;omega)⟩
   dsimp only at z1 hz ⊢;obtain⟨w,hw,hl⟩:=(hR.fd z z0 z1).1 hz;rw[hN]
   by_cases e:w.length=n
   ·exact eI.2 (.inr ((hm z).2 ⟨w,hw,e⟩))
   ·have z1' : z<(S.W.length:Int):=by rw[hS.l];rw[hR.l]at z1;exact z1
    exact eI.2 (.inl (hA z z0 z1' ((hS.fd z z0 z1').2 ⟨w,hw,by omega⟩)))
 ·have en:n=1025:=by omega
  subst en;have e1:view σ false vd (.sl (p .wo) S.W.length 0 S.W.length)=some (cK (S.W.map λo=>o.getD [])):=by
   have:=gu (k:=11) (f:=oo) (g:=λo=>iL (o.getD [])) (fr:=false) (hF.has .wo _ rfl) rfl rfl λo _=>by cases o<;>rfl
   rw[show vd=11+1 from rfl,this];simp
  have e2:view σ false vd (.sl (p .fd) S.F.length 0 S.F.length)=some (bL S.F):=gu (k:=11) (f:=AV.bool) (g:=AV.bool) (fr:=false) (hF.has .fd _ rfl) rfl rfl λo _=>rfl;simp[-al,hv];exact⟨S,by rw[e1,e2],hS⟩
theorem amh (D:Vd) (hD:jO D) (hs:D.n.calls+D.n.aj+D.n.aq<=64):∃S:Fd,PC D6 [D.vcs.av]=some (.bQ [cK (S.W.map λo=>o.getD []),bL S.F])/\Sr D 1025 S:=E6 (g:=λS:Fd=>.bQ [cK (S.W.map λo=>o.getD []),bL S.F]) (amg D hD hs)
inductive Kd where
 |cl|ps|aQ
 deriving DecidableEq
inductive Tn where
 |ac|po
 |ls (k:Kd)
 |rw(k:Kd) (s:Nat)
 |pr (s:Nat)
 |pg (s g:Nat)
 deriving DecidableEq
def ao.tb (n:ao):Kd->List (List Int)
 |.cl=>n.call
 |.ps=>n.push
 |.aQ=>n.inner
def ao.cC (n:ao) (k:Kd) (s:Nat):List Int:=ix (n.tb k) (s:Int)
def ao.bD (n:ao) (s:Nat):List (List Int):=ix n.pop (s:Int)
def ao.cG (n:ao) (s g:Nat):List Int:=ix (n.bD s) (g:Int)
def km:Kd->List Int->ag
 |.ps,l=>fv l
 |_,l=>Zb l
abbrev iw (b k:Nat):AV:=.sl b k 0 k
def ao.cont (n:ao) (p:Tn->Nat):Tn->Option ag
 |.ac=>some ⟨none,n.accept.map .bool,.live⟩
 |.ls k=>if n.tb k=[]then none else some ⟨none,(List.range (n.tb k).length).map λs=>iw (p (.rw k s)) (n.cC k s).length,.live⟩
 |.rw k s=>if s<(n.tb k).length then some (km k (n.cC k s))else none
 |.po=>if n.pop=[]then none else some ⟨none,(List.range n.pop.length).map λs=>iw (p (.pr s)) (n.bD s).length,.live⟩
 |.pr s=>if s<n.pop.length then some ⟨none,(List.range (n.bD s).length).map λg=>iw (p (.pg s g)) (n.cG s g).length,.live⟩else none
 |.pg s g=>if s<n.pop.length/\g<(n.bD s).length then some (Zb (n.cG s g))else none
def ao.bS (n:ao) (p:Tn->Nat):List AV:=[.int n.calls,.int n.aj,.int n.aq,.int n.stack,.int n.start,iw (p .ac) n.accept.length,cQ (p (.ls .cl)) n.call.length,cQ (p (.ls .ps)) n.push.length,cQ (p (.ls .aQ)) n.inner.length,cQ (p .po) n.pop.length]
structure AS (n:ao) (p:Tn->Nat) (σ:List ag):Prop where
 has:∀t B,n.cont p t=some B->ak σ (p t)=some B
 inj:∀t u A B,n.cont p t=some A->n.cont p u=some B->p t=p u->t=u
theorem AS.ne{n:ao}{p:Tn->Nat}{σ:List ag}(h:AS n p σ){t u:Tn}{A B:ag}(ht:n.cont p t=some A) (hu:n.cont p u=some B) (hn:t ≠ u):p t ≠ p u:=λe=>hn (h.inj t u A B ht hu e)
theorem AS.lt{n:ao}{p:Tn->Nat}{σ:List ag}(h:AS n p σ){t:Tn}{A:ag}(ht:n.cont p t=some A):p t<σ.length:=dz (h.has t A ht)
theorem AS.other{n:ao}{p:Tn->Nat}{σ τ:List ag}(h:AS n p σ) (hb:∀t B,n.cont p t=some B->ak τ (p t)=ak σ (p t)):AS n p τ:=
 ⟨λt B hB=>by rw[hb t B hB];exact h.has t B hB,h.inj⟩
theorem AS.put{n n' : ao}{p:Tn->Nat}{σ:List ag}(h:AS n p σ){t:Tn}{A B:ag}(ht:n.cont p t=some A) (ja : n'.cont p t=some B) (hu:∀u,u ≠ t->n'.cont p u=n.cont p u):AS n' p (ay σ (p t) B):=by
 refine⟨λu C hC=>?_,λu v C E hC hE e=>?_⟩
 ·by_cases Ev:u=t
  ·subst Ev
   rw[ja]at hC;injection hC with hC
   subst hC;exact cE (h.lt ht)
  ·rw[hu u Ev]at hC
   rw[aO (h.ne ht hC (Ne.symm Ev))];exact h.has u C hC
 ·have key:∀u C,n'.cont p u=some C->∃D,n.cont p u=some D:=λu C hC=>by
   by_cases Ev:u=t
   ·exact⟨A,by rw[Ev];exact ht⟩
   ·rw[hu u Ev]at hC;exact⟨C,hC⟩
  obtain⟨_,h1⟩:=key u C hC;obtain⟨_,h2⟩:=key v E hE;exact h.inj u v _ _ h1 h2 e
theorem T8{n:Nat}:∀l:List Bool,kM n (l.map .bool)=l.map .bool
 | []=>rfl
 |b::l=>by rw[db,kM,T8 l];rfl
theorem T9{n:ao}{p:Tn->Nat}{d:Nat}{t:Tn}:n.cont (λt=>p t+d) t=(n.cont p t).map (gM d):=by
 have hr:∀(m:Nat) (f:Nat->Nat) (g:Nat->Nat),(List.range m).map (λs=>iw (f s+d) (g s))=kM d ((List.range m).map λs=>iw (f s) (g s)):=λm f g=>by
  rw[yk,List.map_map];rfl
 cases t with
 |ac=>simp[ao.cont,gM,T8]
 |po=>
  simp only[ao.cont];split
  ·rfl
  ·rw[hr];rfl
 |ls k=>
  simp only[ao.cont];split
  ·rfl
  ·rw[hr];rfl
 |rw k s=>
  simp only[ao.cont];split
  ·cases k<;>simp[km,gM,EE]
   split<;>rfl
  ·rfl
 |pr s=>
  simp only[ao.cont];split
  ·rw[hr];rfl
  ·rfl
 |pg s g=>
  simp only[ao.cont];split
  ·simp[gM,EE]
  ·rfl
theorem AS.shift{n:ao}{p:Tn->Nat}{σ:List ag}(h:AS n p σ) (ρ:List ag):AS n (λt=>p t+ρ.length) (ρ++σ.map (gM ρ.length)):=by
 refine⟨λt B hB=>?_,λt u A B hA hB e=>?_⟩
 ·rw[T9]at hB
  obtain⟨C,hC,rfl⟩:=nu.1 hB;have:=h.has t C hC;rw[bE]at this ⊢;rw[gm (by omega),show p t+ρ.length-ρ.length=p t by omega,ie,this]
  rfl
 ·rw[T9]at hA hB
  obtain⟨C,hC,_⟩:=nu.1 hA;obtain⟨E,hE,_⟩:=nu.1 hB;exact h.inj t u C E hC hE (by omega)
theorem AS.view{n:ao}{p:Tn->Nat}{σ:List ag}(h:AS n p σ):view σ false vd (.agg (n.bS p))=some n.av:=by
 have eu:∀(k:Kd) (s:Nat) (f:Nat),s<(n.tb k).length->Ab.view σ false (f+2) (iw (p (.rw k s)) (n.cC k s).length)=some (iL (n.cC k s)):=λk s f hs=>by
  have:=h.has (.rw k s) _ (ab hs);cases k
  ·exact gu (k:=f+1) this rfl rfl λ_ _=>rfl
  ·exact gu (k:=f+1) (st:=if n.cC .ps s=[]then .jN else .live) this (by split<;>rfl) rfl λ_ _=>rfl
  ·exact gu (k:=f+1) this rfl rfl λ_ _=>rfl
 have AQ:∀(k:Kd) (f:Nat),Ab.view σ false (f+3) (cQ (p (.ls k)) (n.tb k).length)=some (cK (n.tb k)):=λk f=>by
  have e:cK (n.tb k) = .aE false ((List.range (n.tb k).length).map λs=>iL (n.cC k s)):=by
   unfold ao.cC;rw[qo (f:=iL)]
  rw[e];exact qp (k:=f+2) (f:=λs=>iw (p (.rw k s)) (n.cC k s).length) (λhx=>h.has (.ls k) _ (aa λe=>hx (by rw[e];rfl))) (by simp) λs hs=>eu k s f (cy.1 hs)
 have Gp:∀(f:Nat),Ab.view σ false (f+4) (cQ (p .po) n.pop.length)=some (fU n.pop):=λf=>by
  have e:fU n.pop = .aE false ((List.range n.pop.length).map λs=>cK (n.bD s)):=by
   unfold ao.bD;rw[qo (f:=cK)]
  rw[e];refine qp (k:=f+3) (f:=λs=>iw (p (.pr s)) (n.bD s).length) (λhx=>h.has .po _ (aa λe=>hx (by rw[e];rfl))) (by simp) λs hs=>?_
  have gP :=cy.1 hs;have e2:cK (n.bD s) = .aE false ((List.range (n.bD s).length).map λg=>iL (n.cG s g)):=by
   unfold ao.cG;rw[qo (f:=iL)]
  rw[e2];exact gu (k:=f+2) (f:=λg=>iw (p (.pg s g)) (n.cG s g).length) (h.has (.pr s) _ (ab gP)) rfl (by simp) λg hg=>gu (k:=f+1) (h.has (.pg s g) _ (ab ⟨gP, cy.1 hg⟩)) rfl rfl λ_ _=>rfl
 show Ab.view σ false (11+1) _=_;unfold Ab.view;have hm:bV (Ab.view σ false 11) (n.bS p)=some [.int n.calls,.int n.aj,.int n.aq,.int n.stack,.int n.start,bL n.accept,cK n.call,cK n.push,cK n.inner,fU n.pop]:=by
  refine cF rfl (cF rfl (cF rfl (cF rfl (cF rfl (cF ?_ (cF ?_ (cF ?_ (cF ?_ (cF ?_ rfl)))))))))
  ·exact gu (k:=10) (h.has .ac _ rfl) rfl rfl λ_ _=>rfl
  ·exact AQ .cl 8
  ·exact AQ .ps 8
  ·exact AQ .aQ 8
  ·exact Gp 7
 simp only[hm]
theorem AS.mM{n:ao}{p:Tn->Nat}{σ:List ag}(h:AS n p σ){l:List Bool}:AS {n with accept:=l} p (ay σ (p .ac) ⟨none,l.map .bool,.live⟩):=
 h.put (t:=.ac) rfl rfl λu hu=>by cases u<;>first|rfl|exact absurd rfl hu
theorem AS.mN{n:ao}{p:Tn->Nat}{σ:List ag}(h:AS n p σ){s:Nat}(hs:s<n.inner.length){l:List Int}(hl:l.length=(n.cC .aQ s).length):AS {n with inner:=n.inner.set s l} p (ay σ (p (.rw .aQ s)) (Zb l)):=by
 have hlen:(n.inner.set s l).length=n.inner.length:=by simp
 have eu:∀s' : Nat,ao.cC {n with inner:=n.inner.set s l} .aQ s' = if s' = s then l else n.cC .aQ s' :=λs' =>iY hs s'
 have iv:∀s' : Nat,(ao.cC {n with inner:=n.inner.set s l} .aQ s').length=(n.cC .aQ s').length:=λs' =>by
  rw[eu];split
  ·rename_i e;rw[e];exact hl
  ·rfl
 refine h.put (t:=.rw .aQ s) (ab hs) ?_ λu hu=>?_
 ·show(if s<(n.inner.set s l).length then some (km .aQ (ao.cC {n with inner:=n.inner.set s l} .aQ s))else none)=_
  rw[hlen,ab hs,eu,ab rfl];rfl
 ·cases u with
  |ls k=>
   cases k with
   |aQ=>
    show(if n.inner.set s l=[]then none else some (⟨none,(List.range (n.inner.set s l).length).map λs' =>iw (p (.rw .aQ s')) (ao.cC {n with inner:=n.inner.set s l} .aQ s').length,.live⟩:ag))=if n.inner=[]then none else some ⟨none,(List.range n.inner.length).map λs=>iw (p (.rw .aQ s)) (n.cC .aQ s).length,.live⟩
    simp only[iv,hlen];have:n.inner.set s l=[]↔n.inner=[]:=by rw[<-List.length_eq_zero_iff,hlen,List.length_eq_zero_iff]
    by_cases e:n.inner=[]
    ·rw[ab e,ab (this.2 e)]
    ·rw[aa e,aa λa=>e (this.1 a)]
   |_=>rfl
  |rw k s' =>
   cases k with
   |aQ=>
    have:s' ≠ s:=λe=>hu (by rw[e])
    show(if s' < (n.inner.set s l).length then some (km .aQ (ao.cC {n with inner:=n.inner.set s l} .aQ s'))else none)=if s' < n.inner.length then some (km .aQ (n.cC .aQ s'))else none
    rw[hlen,eu,aa this]
   |_=>rfl
  |_=>rfl
theorem AS.mO{n:ao}{p:Tn->Nat}{σ:List ag}(h:AS n p σ){s g:Nat}(hs:s<n.pop.length) (hg:g<(n.bD s).length){l:List Int}(hl:l.length=(n.cG s g).length):AS {n with pop:=n.pop.set s ((n.bD s).set g l)} p (ay σ (p (.pg s g)) (Zb l)):=by
 have hlen:(n.pop.set s ((n.bD s).set g l)).length=n.pop.length:=by simp
 have eu:∀s' : Nat,ao.bD {n with pop:=n.pop.set s ((n.bD s).set g l)} s' = if s' = s then(n.bD s).set g l else n.bD s' :=λs' =>iY hs s'
 have iv:∀s' : Nat,(ao.bD {n with pop:=n.pop.set s ((n.bD s).set g l)} s').length=(n.bD s').length:=λs' =>by
  rw[eu];split
  ·rename_i e;rw[e];simp
  ·rfl
 have ju:∀s' g' : Nat,ao.cG {n with pop:=n.pop.set s ((n.bD s).set g l)} s' g' = if s' = s/\g' = g then l else n.cG s' g' :=λs' g' =>by
  unfold ao.cG;rw[eu]
  by_cases e:s' = s
  ·rw[ab e,iY hg]
   by_cases e2:g' = g
   ·rw[ab e2,ab ⟨e,e2⟩]
   ·rw[aa e2,aa λa=>e2 a.2,e]
  ·rw[aa e,aa λa=>e a.1]
 have gD:∀s' g' : Nat,(ao.cG {n with pop:=n.pop.set s ((n.bD s).set g l)} s' g').length=(n.cG s' g').length:=λs' g' =>by
  rw[ju];split
  ·rename_i e;rw[e.1,e.2];exact hl
  ·rfl
 refine h.put (t:=.pg s g) (ab ⟨hs,hg⟩) ?_ λu hu=>?_
 ·show(if s<(n.pop.set s ((n.bD s).set g l)).length/\g<(ao.bD {n with pop:=n.pop.set s ((n.bD s).set g l)} s).length then some (Zb (ao.cG {n with pop:=n.pop.set s ((n.bD s).set g l)} s g))else none)=_
  rw[hlen,iv,ab ⟨hs,hg⟩,ju,ab ⟨rfl,rfl⟩]
 ·cases u with
  |po=>
   show(if n.pop.set s ((n.bD s).set g l)=[]then none else some (⟨none,(List.range (n.pop.set s ((n.bD s).set g l)).length).map λs' =>iw (p (.pr s')) (ao.bD {n with pop:=n.pop.set s ((n.bD s).set g l)} s').length,.live⟩:ag))=if n.pop=[]then none else some ⟨none,(List.range n.pop.length).map λs=>iw (p (.pr s)) (n.bD s).length,.live⟩
   simp only[iv,hlen];have:n.pop.set s ((n.bD s).set g l)=[]↔n.pop=[]:=by rw[<-List.length_eq_zero_iff,hlen,List.length_eq_zero_iff]
   by_cases e:n.pop=[]
   ·rw[ab e,ab (this.2 e)]
   ·rw[aa e,aa λa=>e (this.1 a)]
  |pr s' =>
   show(if s' < (n.pop.set s ((n.bD s).set g l)).length then some (⟨none,(List.range (ao.bD {n with pop:=n.pop.set s ((n.bD s).set g l)} s').length).map λg' =>iw (p (.pg s' g')) (ao.cG {n with pop:=n.pop.set s ((n.bD s).set g l)} s' g').length,.live⟩:ag)else none)=if s' < n.pop.length then some ⟨none,(List.range (n.bD s').length).map λg' =>iw (p (.pg s' g')) (n.cG s' g').length,.live⟩else none
   simp only[iv,hlen,gD]
  |pg s' g' =>
   have:¬(s' = s/\g' = g):=λe=>hu (by rw[e.1,e.2])
   show(if s' < (n.pop.set s ((n.bD s).set g l)).length/\g' < (ao.bD {n with pop:=n.pop.set s ((n.bD s).set g l)} s').length then some (Zb (ao.cG {n with pop:=n.pop.set s ((n.bD s).set g l)} s' g'))else none)=if s' < n.pop.length/\g' < (n.bD s').length then some (Zb (n.cG s' g'))else none
   rw[hlen,iv,ju,aa this]
  |_=>rfl
def fB (k s:Nat):Nat:=if s=0 then 3 else 11+k+(s-1)*(k+4)
def fp (k:Nat):Tn->Nat
 |.ac=>1
 |.po=>10+k
 |.ls .cl=>6+k
 |.ls .ps=>7+k
 |.ls .aQ=>9+k
 |.rw .ps s=>fB k s
 |.pr s=>fB k s+1
 |.pg s g=>fB k s+2+g
 |.rw .cl s=>fB k s+2+k
 |.rw .aQ s=>fB k s+2+k+(if s=0 then 3 else 1)
theorem z7{k s t:Nat}(h:s<t):fB k s+k+4<=fB k t/\(s=0->11+k<=fB k t):=by
 obtain⟨u,rfl⟩:∃u,t=u+1:=⟨t-1,by omega⟩
 have e:fB k (u+1)=11+k+u*(k+4):=by simp[fB]
 rw[e]
 by_cases hs:s=0
 ·subst hs
  have:fB k 0=3:=rfl;exact⟨by rw[this];have:=Nat.zero_le (u*(k+4));omega,λ_=>by omega⟩
 ·obtain⟨v,rfl⟩:∃v,s=v+1:=⟨s-1,by omega⟩
  have e2:fB k (v+1)=11+k+v*(k+4):=by simp[fB]
  rw[e2];have:(v+1)*(k+4)<=u*(k+4):=jR _ (by omega)
  rw[fx]at this;exact⟨by omega,λh=>absurd h hs⟩
theorem z8{k:Nat}:fB k 0=3:=rfl
theorem ami{k:Nat}:fB k 1=11+k:=by simp[fB]
theorem amj{k s:Nat}(h:s ≠ 0):fB k (s+1)=fB k s+k+4:=by
 obtain⟨v,rfl⟩:∃v,s=v+1:=⟨s-1,by omega⟩
 simp[fB,fx];omega
theorem Fa{k s:Nat}(h:s ≠ 0):11+k<=fB k s:=(z7 (s:=0) (t:=s) (by omega)).2 rfl
def Tn.Gq (k:Nat):Tn->Prop
 |.pg _ g=>g<k
 |_=>True
def Tn.off (k:Nat):Tn->Option (Nat×Nat)
 |.rw .ps s=>some (s,0)
 |.pr s=>some (s,1)
 |.pg s g=>some (s,2+g)
 |.rw .cl s=>some (s,2+k)
 |.rw .aQ s=>some (s,2+k+if s=0 then 3 else 1)
 |_=>none
theorem vM{k:Nat}{t:Tn}(ht:t.Gq k):(∃s o,t.off k=some (s,o)/\fp k t=fB k s+o/\(o<k+4\/s=0/\o=k+5)/\(s=0->o<3+k\/o=k+5))\/(t.off k=none/\(fp k t=1\/6+k<=fp k t/\fp k t<=10+k/\fp k t ≠ 8+k)):=by
 cases t with
 |ac=>exact .inr ⟨rfl,.inl rfl⟩
 |po=>exact .inr ⟨rfl,.inr ⟨by simp[fp],by simp[fp],by simp[fp]⟩⟩
 |ls q=>cases q<;>exact .inr ⟨rfl,.inr ⟨by simp[fp],by simp[fp],by simp[fp]⟩⟩
 |rw q s=>
  cases q with
  |cl=>exact .inl ⟨s,2+k,rfl,by simp[fp];omega,by omega,by omega⟩
  |ps=>exact .inl ⟨s,0,rfl,by simp[fp],by omega,by omega⟩
  |aQ=>
   refine .inl ⟨s,_,rfl,by simp only[fp];omega,?_,?_⟩
   ·split<;>omega
   ·intro h;rw[ab h];omega
 |pr s=>exact .inl ⟨s,1,rfl,rfl,by omega,by omega⟩
 |pg s g=>have:g<k:=ht;exact .inl ⟨s,2+g,rfl,by simp[fp];omega,by omega,by omega⟩
theorem amk{k:Nat}{t u:Tn}(ht:t.Gq k) (hu:u.Gq k){s o:Nat}(h1:t.off k=some (s,o)) (h2:u.off k=some (s,o)):t=u:=by
 have hp:∀g s', (Tn.pg s' g).Gq k->g<k:=λg s' h=>h;cases t with
 |ac=>simp[Tn.off]at h1
 |po=>simp[Tn.off]at h1
 |ls q=>simp[Tn.off]at h1
 |rw q s' =>
  cases u with
  |ac=>simp[Tn.off]at h2
  |po=>simp[Tn.off]at h2
  |ls q=>simp[Tn.off]at h2
  |rw r AP =>
   cases q<;>cases r<;>simp[Tn.off]at h1 h2<;>first|(rw[h1.1,h2.1];done)|(exfalso;(try split at h1)<;>(try split at h2)<;>omega)
  |pr AP =>cases q<;>simp[Tn.off]at h1 h2<;>exfalso<;>(try split at h1)<;>omega
  |pg AP g=>have:=hp _ _ hu;cases q<;>simp[Tn.off]at h1 h2<;>exfalso<;>(try split at h1)<;>omega
 |pr s' =>
  cases u with
  |ac=>simp[Tn.off]at h2
  |po=>simp[Tn.off]at h2
  |ls q=>simp[Tn.off]at h2
  |rw r AP =>cases r<;>simp[Tn.off]at h1 h2<;>exfalso<;>(try split at h2)<;>omega
  |pr AP =>simp[Tn.off]at h1 h2;rw[h1.1,h2.1]
  |pg AP g=>simp[Tn.off]at h1 h2;omega
 |pg s' g=>
  have hg:=hp _ _ ht;cases u with
  |ac=>simp[Tn.off]at h2
  |po=>simp[Tn.off]at h2
  |ls q=>simp[Tn.off]at h2
  |rw r AP =>cases r<;>simp[Tn.off]at h1 h2<;>exfalso<;>(try split at h2)<;>omega
  |pr AP =>simp[Tn.off]at h1 h2;omega
  |pg AP g' =>
   simp[Tn.off]at h1 h2;rw[h1.1,h2.1,show g=g' by omega]
theorem w7{k:Nat}{t u:Tn}(ht:t.Gq k) (hu:u.Gq k) (e:fp k t=fp k u):t=u:=by
 rcases vM ht with⟨s,o,h1,h2,h3,h4⟩|⟨h1,h2⟩
 ·rcases vM hu with⟨s', o', g1,g2,g3,g4⟩|⟨g1,g2⟩
  ·have es:s=s' :=by
    rcases Nat.lt_trichotomy s s' with h|h|h
    ·have:=z7 (k:=k) h
     by_cases z:s=0
     ·have:=this.2 z;have:=h4 z;subst z;rw[z8]at h2;omega
     ·omega
    ·exact h
    ·have:=z7 (k:=k) h
     by_cases z:s' = 0
     ·have:=this.2 z;have:=g4 z;subst z;rw[z8]at g2;omega
     ·omega
   subst es;exact amk ht hu h1 (by rw[g1,show o' = o by omega])
  ·exfalso
   by_cases z:s=0
   ·have:=h4 z;subst z;rw[z8]at h2;omega
   ·have:=Fa (k:=k) z;omega
 ·rcases vM hu with⟨s', o', g1,g2,g3,g4⟩|⟨g1,g2⟩
  ·exfalso
   by_cases z:s' = 0
   ·have:=g4 z;subst z;rw[z8]at g2;omega
   ·have:=Fa (k:=k) z;omega
  ·cases t with
   |ac=>cases u with
    |ac=>rfl
    |po=>simp[fp]at e;omega
    |ls q=>cases q<;>simp[fp]at e<;>omega
    |rw r s=>cases r<;>simp[Tn.off]at g1
    |pr s=>simp[Tn.off]at g1
    |pg s g=>simp[Tn.off]at g1
   |po=>cases u with
    |ac=>simp[fp]at e;omega
    |po=>rfl
    |ls q=>cases q<;>simp[fp]at e
    |rw r s=>cases r<;>simp[Tn.off]at g1
    |pr s=>simp[Tn.off]at g1
    |pg s g=>simp[Tn.off]at g1
   |ls q=>cases u with
    |ac=>cases q<;>simp[fp]at e<;>omega
    |po=>cases q<;>simp[fp]at e
    |ls r=>cases q<;>cases r<;>first|rfl|(simp[fp]at e)
    |rw r s=>cases r<;>simp[Tn.off]at g1
    |pr s=>simp[Tn.off]at g1
    |pg s g=>simp[Tn.off]at g1
   |rw r s=>cases r<;>simp[Tn.off]at h1
   |pr s=>simp[Tn.off]at h1
   |pg s g=>simp[Tn.off]at h1
end Ab
