/- The rank of a word, and first words; and what it leans on. Condition: none. -/
import Derived.Test.YtdenhmniigikcaaGreatN43Word
import Derived.Test.YtdenhmniigikcaaGreatN44P
import Derived.Test.YtdenhmniigikcaaGreatN44Y
set_option linter.all false
set_option maxRecDepth 100000
set_option maxHeartbeats 4000000
namespace Ab
def ct:List Int->Nat
 | []=>0
 |x::w=>(x.toNat+1)*65^w.length+ct w
def sy (w:List Int):Prop:=∀x∈w,0<=x/\x<64
variable{x:Int}
theorem BU{w:List Int}:sy (x::w)↔(0<=x/\x<64)/\sy w:=by simp[sy]
variable{u v:List Int}
theorem akf:sy (u++v)↔sy u/\sy v:=by
 simp only[sy,dQ];exact⟨λh=>⟨λx a=>h x (.inl a),λx a=>h x (.inr a)⟩,λh x a=>a.elim (h.1 x) (h.2 x)⟩
theorem ux:∀{w:List Int},sy w->ct w<65^w.length
 | [],_=>by simp[ct]
 |x::w,h=>by
  obtain⟨d,a⟩:=BU.1 h;have e:=ux a;have b:x.toNat+1<=64:=by omega
  have:(x.toNat+1)*65^w.length<=64*65^w.length:=kS _ b;rw[bX,Nat.pow_succ,ct];omega
theorem Rr{w:List Int}:65^w.length<=ct (x::w):=by
 rw[ct];have:1*65^w.length<=(x.toNat+1)*65^w.length:=kS _ (by omega)
 omega
theorem yE(a:sy u) (h:u.length<v.length):ct u<ct v:=by
 cases v with
 |nil=>simp at h
 |cons y v=>
  have b:=ux a;have d:=Rr (x:=y) (w:=v);have e:65^u.length<=65^v.length:=Nat.pow_le_pow_right (by omega) (by simpa using Nat.le_of_lt_succ h)
  omega
theorem rX(a:sy v) (h:ct u<=ct v):u.length<=v.length:=by
 refine cZ λb=>?_;have:=yE a (show v.length<u.length by omega)
 omega
theorem Rs:∀{u v:List Int},sy u->sy v->u.length=v.length->b8 u v<0->ct u<ct v
 | [],[],_,_,_,h=>by simp[b8]at h
 | [],_::_,_,_,h,_=>by simp at h
 |_::_,[],_,_,h,_=>by simp at h
 |x::u,y::v,i,j,l,h=>by
  obtain⟨o,g⟩:=BU.1 i;obtain⟨p,m⟩:=BU.1 j;have d : u.length=v.length:=by simpa using l
  unfold b8 at h;rw[ct,ct];split at h
  .rename_i n
   have a:=ux g;rw[d]at a ⊢;have:(x.toNat+1+1)*65^v.length<=(y.toNat+1)*65^v.length:=kS _ (by omega)
   rw[eX (x.toNat+1)]at this;omega
  .split at h
   .omega
   .rename_i a b
    have e:x=y:=by omega
    subst e;have:=Rs g m d h;rw[d];omega
theorem Rt(a:sy u) (b:sy v) (h:aP u v<0):ct u<ct v:=by
 unfold aP at h;split at h
 .exact yE a (by assumption)
 .split at h
  .omega
  .exact Rs a b (by omega) h
theorem rY(a:sy u) (b:sy v):aP u v<=0↔ct u<=ct v:=by
 constructor
 .intro h
  by_cases e:aP u v=0
  .rw[dE.eq _ _ e];exact aT _
  .exact Nat.le_of_lt (Rt a b (by omega))
 .intro h
  refine cZ λd=>?_;have:=dE.gg u v;have:=Rt b a (by omega)
  omega
theorem Ir(a:sy u) (b:sy v) (h:ct u=ct v):u=v:=by
 refine dE.eq u v ?_;have d:=(rY a b).2 (by omega)
 have e:=(rY b a).2 (by omega)
 have:=dE.gg u v;omega
theorem Is:∀{u v:List Int},ct (u++v)=ct u*65^v.length+ct v
 | [],v=>by simp[ct]
 |x::u,v=>by
  rw[jI,ct,ct,Is,aY,Nat.pow_add,eX ((x.toNat+1)*65^u.length),Nat.mul_assoc,Nat.add_assoc]
variable{v': List Int}
theorem Ru{u u' v: List Int}(a:sy v') (b:ct u<=ct u') (d:ct v<=ct v'):ct (u++v)<=ct (u' ++ v'):=by
 rw[Is,Is];have e:=rX a d;have g:65^v.length<=65^v'.length:=Nat.pow_le_pow_right (by omega) e
 have:=oP b g;omega
theorem It{v: List Int}(a:sy v') (b:ct v<=ct v'):ct (x::v)<=ct (x::v'):=Ru (u:=[x]) (u' :=[x]) a (aT _) b
def rZ (P:List Int->Prop) (w:List Int):Prop:=(P w/\w.length<=1024)/\∀v,P v->ct w<=ct v
variable{P:List Int->Prop}
theorem Rv(i:∀w,P w->sy w):∀{w:List Int},P w->w.length<=1024->∃v,rZ P v:=by
 have:∀(n:Nat) (w:List Int),ct w<=n->P w->∃v,P v/\ct v<=ct w/\∀u,P u->ct v<=ct u:=by
  intro n
  induction n with
  |zero=>exact λw h a=>⟨w,a,aT _,λu _=>by omega⟩
  |succ n j=>
   intro w h a
   by_cases e:∃u,P u/\ct u<ct w
   .obtain⟨u,l,o⟩:=e
    obtain⟨v,b,g,d⟩:=j u (by omega) l
    exact⟨v,b,by omega,d⟩
   .exact⟨w,a,aT _,λu m=>by
     refine cZ λp=>e ⟨u,m,by omega⟩⟩
 intro w a q;obtain⟨v,b,g,d⟩:=this _ w (aT _) a;exact⟨v,⟨b,by have:=rX (i w a) g;omega⟩,d⟩
theorem akg(a:∀w,P w->sy w)(h:rZ P u) (k:rZ P v):u=v:=by
 refine Ir (a u h.1.1) (a v k.1.1) ?_;have:=h.2 v k.1.1;have:=k.2 u h.1.1;omega
open Classical in
noncomputable def jR (P:List Int->Prop):Option (List Int):=if h:∃w,rZ P w then some (choose h)else none
theorem BV{w:List Int}(h:jR P=some w):rZ P w:=by
 unfold jR at h;split at h
 .rename_i a
  injection h with h
  rw[<-h];exact Classical.choose_spec a
 .simp at h
theorem Iu(a:∀w,P w->sy w){w:List Int}(h:rZ P w):jR P=some w:=by
 unfold jR;rw[dif_pos ⟨w,h⟩];exact congrArg some (akg a (Classical.choose_spec (⟨w,h⟩:∃w,rZ P w)) h)
structure eI.Sm (M:eI):Prop where
 ok:M.Ok
 sum:M.calls+M.af+M.aj<=64
theorem Wd.sy{M:eI}(U:M.Sm){s t:Int}{w:List Int}(h:Wd M s t w):Ab.sy w:=λx hx=>by
 have:=(h.run ⟨U.ok.calls.1,U.ok.af.1,U.ok.aj.1⟩).1 x hx;have:=U.sum;omega
theorem Wd.range{M:eI}(U:M.Ok){s t:Int}{w:List Int}(h:Wd M s t w) (V:0<=s/\s<(M.size:Int)):0<=t/\t<(M.size:Int):=h.conn.range U V
noncomputable def eI.lk (M:eI) (s t:Int):Option (List Int):=jR (Wd M s t)
inductive r5 (M:eI):Int->Int->List Int->Prop
 |aH (s i:Int):0<=i->i<M.af->r5 M s (M.inner s i) [M.calls+i]
 |call (s c p r:Int) (u:List Int):0<=c->c<M.calls->0<=r->r<M.aj->Wd M (M.call s c).1 p u->r5 M s (M.pop p (M.call s c).2 r) (c::(u ++ [M.calls+M.af+r]))
theorem r5.wd{M:eI}{s t:Int}{w:List Int}(h:r5 M s t w):Wd M s t w:=by
 cases h with
 |aH i h0 h1=>exact .aH s i _ [] h0 h1 (.nil _)
 |call c p r u h0 h1 h2 h3 h4=>exact .call s c p r _ u [] h0 h1 h2 h3 h4 (.nil _)
theorem r5.pos{M:eI}{s t:Int}{w:List Int}(h:r5 M s t w):1<=w.length:=by
 cases h<;>simp
theorem r5.then{M:eI}{s p t:Int}{a b:List Int}(h:r5 M s p a) (k:Wd M p t b):Wd M s t (a++b):=h.wd.app k
noncomputable def eI.sk (M:eI) (s t:Int):Option (List Int):=jR (r5 M s t)
section
variable{M:eI}{s t:Int}{w:List Int}
theorem tM (a:M.Sm):M.lk s t=some w↔rZ (Wd M s t) w:=⟨BV,Iu λw h=>h.sy a⟩
theorem C3 (a:M.Sm) (h:Wd M s t w) (d:w.length<=1024):∃v,M.lk s t=some v/\ct v<=ct w/\v.length<=w.length:=by
 obtain⟨v,b⟩:=Rv (λw h=>Wd.sy a h) h d;exact⟨v,(tM a).2 b,b.2 w h,rX (h.sy a) (b.2 w h)⟩
end
end Ab
namespace Ab
def Iv:∀(l:List Int) (F:List Bool),(∀y∈l,0<=y/\y<(F.length:Int))->(∀y:Int,0<=y->(ix (gF l F).2 y=true↔ix F y=true\/y∈l))/\(∀y,y∈(gF l F).1↔y∈l/\ix F y=false)/\(gF l F).1.Nodup
 | [],F,_=>⟨λy _=>by simp[gF],λy=>by simp[gF],by simp[gF]⟩
 |x::l,F,h=>by
  have o:=h x (by simp)
  simp only[gF]
  by_cases e:ix F x=true
  .rw[ab e]
   obtain⟨j,g,m⟩:=Iv l F λy n=>h y (by simp[n])
   refine⟨λy d=>?_,λy=>?_,m⟩
   .rw[j y d,b5]
    constructor
    .rintro(a|a)
     .exact .inl a
     .exact .inr (.inr a)
    .rintro(a|rfl|a)
     .exact .inl a
     .exact .inl e
     .exact .inr a
   .rw[g y,b5]
    constructor
    .exact λa=>⟨.inr a.1,a.2⟩
    .rintro⟨rfl|a,b⟩
     .rw[e]at b;simp at b
     .exact⟨a,b⟩
  .rw[aa e]
   have p : ix F x=false:=by simpa using e
   obtain⟨j,g,m⟩:=Iv l (F.set x.toNat true) λy n=>by simpa using h y (by simp[n])
   have i:∀y:Int,0<=y->ix (F.set x.toNat true) y=if y=x then true else ix F y:=λy d=>by
    rw[qB (by omega) d]
    by_cases q:y=x
    .rw[ab q,ab (by omega)]
    .rw[aa q,aa (by omega)]
   refine⟨λy d=>?_,λy=>?_,?_⟩
   .show ix (gF l (F.set x.toNat true)).2 y=true↔_
    rw[j y d,i y d,b5]
    by_cases q:y=x
    .simp[q]
    .simp[q]
   .show y∈x::(gF l (F.set x.toNat true)).1↔_
    rw[b5,g y,b5];constructor
    .rintro(rfl|⟨a,b⟩)
     .exact⟨.inl rfl,p⟩
     .have d:=(h y (by simp[a])).1
      rw[i y d]at b;split at b
      .simp at b
      .exact⟨.inr a,b⟩
    .rintro⟨rfl|a,b⟩
     .exact .inl rfl
     .by_cases q:y=x
      .exact .inl q
      .have d:=(h y (by simp[a])).1
       exact .inr ⟨a,by rw[i y d,aa q];exact b⟩
   .show(x::(gF l (F.set x.toNat true)).1).Nodup
    rw[l8];refine⟨λr=>?_,m⟩;have:=((g x).1 r).2;rw[i x o.1,ab rfl]at this;simp at this
variable{D:Vd}{x:Int}
theorem Dv.sy(h:jr D) (V:D.n.calls+D.n.af+D.n.aj<=64){w:List Int}(hd:Dv D x w):Ab.sy w:=λa U=>by
 have:=hd.sym h a U;omega
variable{z:Int}
theorem Rw(h:jr D) (d:D.n.calls+D.n.af+D.n.aj<=64){w:List Int}(hd:Dv D z w):∃v,kp D z v/\v.length<=w.length:=by
 have:∀(n:Nat) (w:List Int),ct w<=n->Dv D z w->∃v,Dv D z v/\ct v<=ct w/\∀u,Dv D z u->ct v<=ct u:=by
  intro n
  induction n with
  |zero=>exact λw h e=>⟨w,e,aT _,λu _=>by omega⟩
  |succ n l=>
   intro w h e
   by_cases i:∃u,Dv D z u/\ct u<ct w
   .obtain⟨u,m,o⟩:=i
    obtain⟨v,a,j,g⟩:=l u (by omega) m
    exact⟨v,a,by omega,g⟩
   .exact⟨w,e,aT _,λu b=>by
     refine cZ λp=>i ⟨u,b,by omega⟩⟩
 obtain⟨v,a,j,g⟩:=this _ w (aT _) hd;exact⟨v,⟨a,λu b=>(rY (a.sy h d) (b.sy h d)).2 (g u b)⟩,rX (hd.sy h d) j⟩
structure Sr (D:Vd) (n:Nat) (S:Fd):Prop where
 w:lJ S
 l:S.W.length=D.K.length
 dv:∀z w,0<=z->z<(S.W.length:Int)->ix S.W z=some w->Dv D z w
 bk:∀z w,0<=z->z<(S.W.length:Int)->ix S.F z=false->ix S.W z=some w->z∈S.dG w.length
 fd:∀z,0<=z->z<(S.W.length:Int)->(ix S.F z=true↔∃w,kp D z w/\w.length<n)
 lw:∀z w,kp D z w->w.length<n->ix S.W z=some w
 nd:∀y∈S.N,(0<=y/\y<(S.W.length:Int))/\ix S.F y=true
 nn:S.N.Nodup
 o0:pQ S 0 []
 oi:∀x∈S.N,∀wx,kp D x wx->∀i,0<=i->i<D.n.af->pQ S (D.im x i) (wx ++ [D.n.calls+i])
 ob:∀x∈S.N,∀y∈S.N,∀wx wy,kp D x wx->kp D y wy->∀c r,0<=c->c<D.n.calls->0<=r->r<D.n.aj->pQ S (D.bk x c y r) (wx++c::(wy ++ [D.n.calls+D.n.af+r]))
def UL (S:Fd):Prop:=∀z:Int,0<=z->z<(S.W.length:Int)->ix S.F z=true->z∈S.N
variable{S:Fd}
theorem Sr.wq(hD:jr D){n:Nat}(h:Sr D n S) (ha:UL S) (hn:n<=1024){t:List Int}(V:kp D z t) (hl:t.length=n):ix S.W z=some t/\ix S.F z=false:=by
 have hz:=V.1.fb hD;have hf:ix S.F z=false:=by
  cases e:ix S.F z with
  |false=>rfl
  |true=>
   obtain⟨w,hw,U⟩:=(h.fd z hz.1 (by rw[h.l];exact hz.2)).1 e
   rw[hw.pO V]at U;omega
 refine⟨?_,hf⟩;have mem:∀{x w},kp D x w->w.length<n->x∈S.N:=fun {x w} hx U=>by
  have:=hx.1.fb hD;exact ha x this.1 (by rw[h.l];exact this.2) ((h.fd x this.1 (by rw[h.l];exact this.2)).2 ⟨w,hx,U⟩)
 have ho:pQ S z t:=by
  rcases V.made with⟨rfl,rfl⟩|⟨x,i,w,i0,i1,hx,rfl,rfl⟩|⟨x,c,y,r,w,u,c0,c1,r0,r1,hx,hy,rfl,rfl⟩
  .exact h.o0
  .simp at hl
   exact h.oi x (mem hx (by omega)) w hx i i0 i1
  .simp at hl
   exact h.ob x (mem hx (by omega)) y (mem hy (by omega)) w u hx hy c r c0 c1 r0 r1
 rcases ho with a|a|⟨v,a,b⟩
 .omega
 .rw[hf]at a;simp at a
 .have h1:=V.2 v (h.dv z v hz.1 (by rw[h.l];exact hz.2) a)
  have h2:=dE.gg v t;rw[a,dE.eq v t (by omega)]
theorem Sr.take(hD:jr D) (hs:D.n.calls+D.n.af+D.n.aj<=64){n:Nat}(h:Sr D n S) (ha:UL S) (hn:n<=1024):Sr D (n+1) {S with F:=(gF (S.dG n) S.F).2}/\(∀x,x∈(gF (S.dG n) S.F).1↔∃w,kp D x w/\w.length=n)/\(gF (S.dG n) S.F).1.Nodup:=by
 have hr:∀y∈S.dG n,0<=y/\y<(S.F.length:Int):=λy hy=>by
  have:=(h.w.bm n y hy).1;rw[h.w.f];exact this
 obtain⟨t1,t2,t3⟩:=Iv (S.dG n) S.F hr;have V:∀x,x∈(gF (S.dG n) S.F).1↔∃w,kp D x w/\w.length=n:=λx=>by
  rw[t2 x];constructor
  .rintro⟨hb,hf⟩
   obtain⟨⟨x0,x1⟩,w,U,Iw⟩:=h.w.bm n x hb;obtain⟨v,hv,vX⟩:=Rw hD hs (h.dv x w x0 x1 U);refine⟨v,hv,cZ λhc=>?_⟩;rw[(h.fd x x0 x1).2 ⟨v,hv,by omega⟩]at hf
   simp at hf
  .rintro⟨w,U,hl⟩
   obtain⟨a,b⟩:=h.wq hD ha hn U hl;have:=U.1.fb hD;have:=h.bk x w this.1 (by rw[h.l];exact this.2) b a
   rw[hl]at this;exact⟨this,b⟩
 have mono:∀z:Int,0<=z->ix S.F z=true->ix (gF (S.dG n) S.F).2 z=true:=λz z0 a=>(t1 z z0).2 (.inl a);have Iy:∀z t,0<=z->pQ S z t->pQ {S with F:=(gF (S.dG n) S.F).2} z t:=λz t z0 a=>by
  rcases a with a|a|a
  .exact .inl a
  .exact .inr (.inl (mono z z0 a))
  .exact .inr (.inr a)
 refine⟨⟨⟨by show(gF (S.dG n) S.F).2.length=_;rw[(yC _ _).1];exact h.w.f,h.w.r,h.w.n,h.w.nd,h.w.bm,h.w.wl⟩,h.l,h.dv,λz w z0 z1 hf U=>?_,λz z0 z1=>?_,λz w U hl=>?_,λy hy=>⟨(h.nd y hy).1,mono y (h.nd y hy).1.1 (h.nd y hy).2⟩,h.nn,Iy 0 [] (by omega) h.o0,λx hx wx yD i i0 i1=>?_,λx hx y hy wx wy yD UK c r c0 c1 r0 r1=>?_⟩,V,t3⟩
 .refine h.bk z w z0 z1 ?_ U
  cases e:ix S.F z with
  |false=>rfl
  |true=>
   have:=mono z z0 e;rw[show ix (gF (S.dG n) S.F).2 z=false from hf]at this;simp at this
 .show ix (gF (S.dG n) S.F).2 z=true↔_
  rw[t1 z z0];constructor
  .intro a
   by_cases e:ix S.F z=true
   .obtain⟨w,U,hl⟩:=(h.fd z z0 z1).1 e
    exact⟨w,U,by omega⟩
   .rcases a with a|a
    .exact absurd a e
    .obtain⟨w,U,hl⟩:=(V z).1 ((t2 z).2 ⟨a,by simpa using e⟩)
     exact⟨w,U,by omega⟩
  .rintro⟨w,U,hl⟩
   by_cases e:w.length=n
   .exact .inr ((t2 z).1 ((V z).2 ⟨w,U,e⟩)).1
   .exact .inl ((h.fd z z0 z1).2 ⟨w,U,by omega⟩)
 .by_cases e:w.length=n
  .exact(h.wq hD ha hn U e).1
  .exact h.lw z w U (by omega)
 .have b:=(Dv.aH x i wx i0 i1 yD.1).fb hD
  exact Iy _ _ b.1 (h.oi x hx wx yD i i0 i1)
 .have b:=(Dv.ak x c y r wx wy c0 c1 r0 r1 yD.1 UK.1).fb hD
  exact Iy _ _ b.1 (h.ob x hx y hy wx wy yD UK c r c0 c1 r0 r1)
variable{m:Nat}
theorem Sr.push(hD:jr D)(h:Sr D m S){x:Nat}(hx:x<D.K.length) (hf:ix S.F (x:Int)=true) (Rl:(x:Int)∉S.N):Sr D m (Fd.ext D x {S with N:=S.N ++ [(x:Int)]})/\(Fd.ext D x {S with N:=S.N ++ [(x:Int)]}).N=S.N ++ [(x:Int)]/\(Fd.ext D x {S with N:=S.N ++ [(x:Int)]}).F=S.F/\(∃wx,ix S.W (x:Int)=some wx)/\∀y∈S.N ++ [(x:Int)],(0<=y/\y<(D.K.length:Int))/\ix S.F y=true/\∃w,ix S.W y=some w:=by
 have PZ:lJ {S with N:=S.N ++ [(x:Int)]}:=⟨h.w.f,h.w.r,h.w.n,h.w.nd,h.w.bm,h.w.wl⟩
 have UM:∀y:Int,0<=y->y<(D.K.length:Int)->ix S.F y=true->∃w,ix S.W y=some w/\kp D y w:=λy y0 y1 U=>by
  obtain⟨w,hw,hl⟩:=(h.fd y y0 (by rw[h.l];exact y1)).1 U
  exact⟨w,h.lw y w hw hl,hw⟩
 obtain⟨wx,yD,lx⟩:=UM x (by omega) (by omega) hf
 have hN:∀y∈S.N ++ [(x:Int)],(0<=y/\y<(D.K.length:Int))/\ix S.F y=true:=λy U=>by
  rcases dQ.1 U with U|U
  .have:=h.nd y U
   rw[h.l]at this;exact this
  .simp at U
   subst U;exact⟨by omega,hf⟩
 obtain⟨M,e1,e2⟩:=Mo.ext hD (S:={S with N:=S.N ++ [(x:Int)]}) PZ h.l hx yD lx.1 λy U=>by
  obtain⟨a,b⟩:=hN y U;obtain⟨w,hw,lw⟩:=UM y a.1 a.2 b;exact⟨a,b,w,hw,lw.1⟩
 generalize Fd.ext D x {S with N:=S.N ++ [(x:Int)]}=T at *
 have hl:T.W.length=S.W.length:=M.k.l;have hF:T.F=S.F:=M.k.f;have Rx:T.N=S.N ++ [(x:Int)]:=M.k.n;have Iy:∀z t,0<=z->z<(D.K.length:Int)->pQ S z t->pQ T z t:=λz t z0 z1 a=>M.o z t z0 (by show z<(S.W.length:Int);rw[h.l];exact z1) a
 refine⟨⟨M.k.w,by rw[hl,h.l],λz w z0 z1=>M.dv h.dv z w z0 (by rw[hl]at z1;exact z1),λz w z0 z1=>M.bk h.bk z w z0 (by rw[hl]at z1;exact z1),λz z0 z1=>by rw[hF];exact h.fd z z0 (by rw[hl]at z1;exact z1),λz w hw cL=>?_,λy U=>?_,?_,Iy 0 [] (by omega) (by omega) h.o0,λy U wy V i i0 i1=>?_,λy U u hu wy wu V UN c r c0 c1 r0 r1=>?_⟩,Rx,hF,⟨wx,yD⟩,λy U=>?_⟩
 .have b:=hw.1.fb hD
  rw[M.k.k z b.1 ((h.fd z b.1 (by rw[h.l];exact b.2)).2 ⟨w,hw,cL⟩)]
  exact h.lw z w hw cL
 .rw[Rx]at U
  rw[hF,hl,h.l];exact hN y U
 .rw[Rx,rj]
  exact⟨h.nn,by simp,λa ha b hb=>by simp at hb;subst hb;exact λe=>Rl (e▸ha)⟩
 .have b:=(Dv.aH y i wy i0 i1 V.1).fb hD
  rw[Rx]at U;rcases dQ.1 U with U|U
  .exact Iy _ _ b.1 b.2 (h.oi y U wy V i i0 i1)
  .simp at U
   subst U;rw[V.pO lx];exact e1 i i0 i1
 .have b:=(Dv.ak y c u r wy wu c0 c1 r0 r1 V.1 UN.1).fb hD
  have wOf:∀y∈S.N ++ [(x:Int)],∀w,kp D y w->ix S.W y=some w:=λy U w hw=>by
   obtain⟨a,b⟩:=hN y U;obtain⟨w', hw', lw'⟩:=UM y a.1 a.2 b;rw[hw', lw'.pO hw]
  rw[Rx]at U hu
  by_cases e:y=x
  .subst e
   rw[V.pO lx];exact(e2 u hu wu (wOf u hu wu UN) c r c0 c1 r0 r1).1
  .by_cases e' : u=x
   .subst e'
    rw[UN.pO lx];exact(e2 y U wy (wOf y U wy V) c r c0 c1 r0 r1).2
   .have Ej : y∈S.N:=by
     rcases dQ.1 U with U|U
     .exact U
     .simp at U;exact absurd U e
    have hu' : u∈S.N:=by
     rcases dQ.1 hu with hu|hu
     .exact hu
     .simp at hu;exact absurd hu e'
    exact Iy _ _ b.1 b.2 (h.ob y Ej u hu' wy wu V UN c r c0 c1 r0 r1)
 .obtain⟨a,b⟩:=hN y U
  obtain⟨w,hw,_⟩:=UM y a.1 a.2 b;exact⟨a,b,w,hw⟩
variable{va:AV}{σ τ:List ah}
theorem FS.done{p p' : Tf->Nat}(h:FS S va p σ)(V:∀t,t ≠ .dn->p' t=p t)
  (h1:ak τ (p .f)=some ⟨some 5,[va,.sl (p .wo) S.W.length 0 S.W.length,.sl (p .fd) S.F.length 0 S.F.length,.sl (p .rd) S.R.length 0 S.R.length,.sl (p' .dn) (S.N.length+1) 0 (S.N.length+1)],.live⟩)
  (h2:ak τ (p' .dn)=some (Zb (S.N ++ [x])))
  (h3:∀t B,t ≠ .f->t ≠ .dn->S.cont va p t=some B->ak τ (p t)=some B)
  (h4:(S.N ≠ []/\p' .dn=p .dn)\/σ.length<=p' .dn):FS {S with N:=S.N ++ [x]} va p' τ:=by
 refine h.step (λt=>t = .f\/t = .dn) (λt U=>?_) (λt B U hB=>?_) (λt B U hB=>h3 t B (λe=>U (.inl e)) (λe=>U (.inr e)) hB) (λt B U hB=>?_) λt u U hu cL e=>?_
 .have t1:t ≠ .f:=λe=>U (.inl e)
  have t2:t ≠ .dn:=λe=>U (.inr e);refine⟨?_,V t t2⟩;cases t with
  |f=>exact absurd rfl t1
  |dn=>exact absurd rfl t2
  |rd=>
   show some (⟨none,(List.range S.R.length).map λn=>cE (p' (.bk n)) (S.dG n).length,.live⟩:ah)=some ⟨none,(List.range S.R.length).map λn=>cE (p (.bk n)) (S.dG n).length,.live⟩;simp only[V (.bk _) (by simp)]
  |_=>rfl
 .rcases U with rfl|rfl
  .rw[V _ (by simp),h1,<-hB]
   simp[Fd.cont,cE,V]
  .rw[h2,<-hB]
   simp[Fd.cont]
 .rcases U with rfl|rfl
  .exact .inl ⟨⟨_,rfl⟩,V _ (by simp)⟩
  .exact h4.imp (λq=>⟨⟨_,aa q.1⟩,q.2⟩) id
 .have q:=h.lt (t:=.f) rfl
  rcases U with rfl|rfl
  .rw[V _ (by simp)]at cL;omega
  .rcases hu with rfl|rfl
   .rw[V .f (by simp)]at e;omega
   .rfl
def UO:List AV:=List.replicate 1025 .ae
def kK (k:Nat):Fd:=⟨List.replicate k none,List.replicate k false,List.replicate 1025 [],[]⟩
def Iz:Tf->Nat
 |.wo=>0
 |.fd=>1
 |.rd=>2
 |.f=>3
 |.dn=>0
 |.bk _=>0
variable{k:Nat}
theorem yF{n:Nat}:(kK k).dG n=[]:=by
 show ix (List.replicate 1025 ([]:List Int)) (n:Int)=[]
 by_cases h:n<1025
 .exact kJ h
 .unfold ix
  rw[eE,jh (by simp;omega)];rfl
theorem Ry:ix (kK k).F z=false:=by
 show ix (List.replicate k false) z=false;unfold ix;rw[eE]
 by_cases h:z.toNat<k
 .rw[cO (by simpa using h)];simp
 .rw[jh (by simp;omega)];rfl
theorem uy:ix (kK k).W z=none:=by
 show ix (List.replicate k (none:Option (List Int))) z=none;unfold ix;rw[eE]
 by_cases h:z.toNat<k
 .rw[cO (by simpa using h)];simp
 .rw[jh (by simp;omega)];rfl
theorem Rz(d:k<=512):lJ (kK k):=⟨by simp[kK],by simp[kK],by simpa[kK]using d,λn=>by rw[yF];simp,λn y a=>by rw[yF]at a;simp at a,λx w _ _ b=>by rw[uy]at b;simp at b⟩
theorem RA{n:Nat}{p:Tf->Nat}:(kK k).cont va p (.bk n)=none:=aa (by rw[yF];simp)
theorem sr0(i:jr D):Sr D 0 ((kK D.K.length).off 0 [])/\UL ((kK D.K.length).off 0 []):=by
 have q:=Rz i.f.k;have j:(kK D.K.length).W.length=D.K.length:=by simp[kK]
 obtain⟨M,o⟩:=Mo.off (D:=D) q (x:=0) (c:=[]) (by rw[j];exact i.k) .nil
 generalize (kK D.K.length).off 0 []=T at *;have m:∀z,ix T.F z=false:=λz=>by rw[M.k.f];exact Ry
 have b:T.N=[]:=M.k.n;have g:T.W.length=(kK D.K.length).W.length:=M.k.l;exact⟨⟨M.k.w,by rw[g,j],λz w d e=>M.dv (λz w _ _ h=>by rw[uy]at h;simp at h) z w d (by rw[<-g];exact e),λz w d e=>M.bk (λz w _ _ _ h=>by rw[uy]at h;simp at h) z w d (by rw[<-g];exact e),λz d e=>by rw[m];simp,λz w _ h=>by omega,λy p=>by rw[b]at p;simp at p,by rw[b];simp,o,λx a=>by rw[b]at a;simp at a,λx a=>by rw[b]at a;simp at a⟩,λz _ _ h=>by rw[m]at h;simp at h⟩
theorem akh (D:Vd) (Q:jr D) (hs:D.n.calls+D.n.af+D.n.aj<=64) :
  LX L AO [D.vcs.av] [] (λr τ=>∃S:Fd,bV τ false r=some (.bF [bN (S.W.map λo=>o.getD []),bL S.F])/\Sr D 1025 S):=by
 refine af4 rfl ?_;have ru:=Q.k;have hk5:=Q.f.k;obtain⟨Y,IA⟩:=sr0 Q;have U:FS (kK D.K.length) D.vcs.av Iz [⟨none,List.replicate D.K.length .ae,.live⟩,⟨none,List.replicate D.K.length (.bool false),.live⟩,⟨none,UO,.live⟩,⟨some 5,[D.vcs.av,.sl 0 D.K.length 0 D.K.length,.sl 1 D.K.length 0 D.K.length,.sl 2 1025 0 1025,.ae],.live⟩]:=by
  refine⟨λt B d=>?_,λt u A B Z d e=>?_⟩
  .cases t with
   |f=>rw[<-d];simp[kK,Iz,ak,Fd.cont,cE]
   |wo=>rw[<-d];simp[kK,Iz,ak,Fd.cont,nh]
   |fd=>rw[<-d];simp[kK,Iz,ak,Fd.cont]
   |rd=>
    rw[<-d];have:(List.range (kK D.K.length).R.length).map (λn=>cE (Iz (.bk n)) ((kK D.K.length).dG n).length)=UO:=by
     simp only[yF,dg];rw[show(kK D.K.length).R.length=1025 by simp[kK]]
     show(List.range 1025).map (λ_=>AV.ae)=_;rw[List.map_const', qk];rfl
    show some _=some (⟨none,(List.range (kK D.K.length).R.length).map (λn=>cE (Iz (.bk n)) ((kK D.K.length).dG n).length),.live⟩:ah);rw[this]
   |dn=>simp[Fd.cont,kK]at d
   |bk n=>simp[Fd.cont,yF]at d
  .cases t<;>cases u<;>first
    |rfl
    |(rw[RA]at Z;simp at Z;done)
    |(rw[RA]at d;simp at d;done)
    |(simp[Fd.cont,kK]at Z;done)
    |(simp[Fd.cont,kK]at d;done)
    |(simp[Iz]at e;done)
 have hO:=Im (kK D.K.length) U (Rz hk5).ok (x:=0) (by simpa[kK]using ru) [(false,none)] (by simp[bZ]) (by simp) (λo ho=>by rw[uy]at ho;simp at ho) false
 obtain⟨r0,JT,hO,rfl,p0,hp0,I⟩:=dh hO;simp only[cJ,List.map_nil,vF]at hO;rw[show bZ [(false,none)]=([]:List Int)from rfl]at I;have xh:p0 .f=3:=hp0.1;have HP:List.replicate 1025 AV.ae=UO:=rfl;have xD:∀l:List AV,(AV.agg l).cells=l:=λ_=>rfl;have zW:List.map AV.bool (List.replicate D.K.length false)=List.replicate D.K.length (.bool false):=by simp
 have hO' : L tt [.ptr 3 (aE (some 5)) 0,.int 0,.au false [.ae]] [⟨none,List.replicate D.K.length .ae,.live⟩,⟨none,List.replicate D.K.length (.bool false),.live⟩,⟨none,UO,.live⟩,⟨some 5,[.aV (.agg [.int D.n.calls,.int D.n.af,.int D.n.aj,.int D.n.stack,.int D.n.start,bL D.n.accept,bN D.n.call,bN D.n.push,bN D.n.inner,dR D.n.pop,iL D.n.aZ,iL D.plc,bN D.K,.oT,bN D.IN,mB D.BL]),.sl 0 D.K.length 0 D.K.length,.sl 1 D.K.length 0 D.K.length,.sl 2 1025 0 1025,.ae],.live⟩]=some (.bF [],JT):=hO;have UH:(D.K.length:Int)<=1073741824:=by omega
 have J:=I.has .f _ rfl;rw[xh]at J;have hR1:(((kK D.K.length).off 0 []).R.length)=1025:=Y.w.r;rw[hR1]at J;simp[-ag,-List.map_replicate,-List.reduceReplicate];simp only[HP,xD,zW,hO'];simp[-ag,UH,J,hO', aE];refine aM (λq:Nat×(Tf->Nat)×List ah×Fd=>[(2,.int q.1)]) (λq=>q.2.2.1) (λq=>q.1<=1025/\q.2.1 .f=3/\FS q.2.2.2 D.vcs.av q.2.1 q.2.2.1/\Sr D q.1 q.2.2.2/\UL q.2.2.2) (λq=>1025-q.1) (0,p0,JT,(kK D.K.length).off 0 []) (by simp[a8]) ⟨by simp,xh,I,Y,IA⟩ ?_
 clear hO hO' J I Y IA U;rintro⟨n,p,σ,S⟩ ⟨n0,hp,hF,M,Z⟩;dsimp only at n0 hp hF M Z ⊢;have hv:=hF.has .f _ rfl;rw[hp]at hv
 by_cases hn:n<1025
 .have kV :=aB (show(n:Int)<1025 by omega)
  have hTL:=akb S hF M.w.ok (n:=n) (by omega) (λy hy=>(M.w.bm n y hy).1)
  obtain⟨rv,τ,hT,rfl,hF2,Un,CH⟩:=dh hTL;clear hTL;obtain⟨hS2,hm,pC⟩:=M.take Q hs Z (by omega)
  generalize (gF (S.dG n) S.F).1=out at *;generalize (gF (S.dG n) S.F).2=F' at *;rw[hp]at hT;have hol:=tF D.K.length pC λy hy=>by
   obtain⟨w,O,_⟩:=(hm y).1 hy;exact O.1.fb Q
  simp[-ag,kV, hT];refine yq (b:=σ.length) (l:=out) Un rfl rfl ?_;simp[-ag];have hF3:FS {S with F:=F'} D.vcs.av p (ar τ σ.length ⟨none,out.map .int,.dead⟩):=hF2.junk λt A zl =>by
   obtain⟨B,d⟩:=Rk zl;have:=hF.lt d;omega
  refine aM (λq:Nat×(Tf->Nat)×List ah×Fd=>[(5,.int q.1)]) (λq=>q.2.2.1) (λq=>q.1<=out.length/\q.2.1 .f=3/\FS q.2.2.2 D.vcs.av q.2.1 q.2.2.1/\Sr D (n+1) q.2.2.2/\q.2.2.2.N=S.N++out.take q.1/\q.2.2.2.F=F') (λq=>out.length-q.1) (0,p,_,{S with F:=F'}) (by simp[a8]) ⟨by simp,hp,hF3,hS2,by simp,rfl⟩ ?_
  rintro⟨k,i,j,T⟩ ⟨k0,h,m,s,hN,hTF⟩;dsimp only at k0 h m s hN hTF ⊢;have E:=m.has .f _ rfl;rw[h]at E
  by_cases hk:k<out.length
  .have tk:=jm hk
   have hxm:=aO (l:=out) (n:=(k:Int)) (by omega) (by omega)
   obtain⟨w,O,Iw⟩:=(hm _).1 hxm;have hxr:=O.1.fb Q;obtain⟨x,hxx⟩:∃x:Nat,ix out (k:Int)=x:=⟨(ix out (k:Int)).toNat,by omega⟩
   rw[hxx]at hxm O hxr tk;have hxf:ix T.F (x:Int)=true:=(s.fd x (by omega) (by rw[s.l];exact hxr.2)).2 ⟨w,O,by omega⟩
   have Rl:(x:Int)∉T.N:=λa=>by
    rw[hN]at a;rcases dQ.1 a with a|a
    .have hq:=M.nd _ a
     obtain⟨u,hu,qT⟩:=(M.fd x hq.1.1 hq.1.2).1 hq.2;rw[hu.pO O]at qT;omega
    .have V:(out.take (k+1)).Nodup:=pC.sublist (List.take_sublist _ _)
     rw[tk,rj]at V;exact V.2.2 _ a _ (by simp) rfl
   obtain⟨hP,hPN,hPF,hPW,hPY⟩:=s.push Q (by omega) hxf Rl
   have hwf:lJ {T with N:=T.N ++ [(x:Int)]}:=⟨s.w.f,s.w.r,s.w.n,s.w.nd,s.w.bm,s.w.wl⟩
   have hPl:=tF D.K.length (l:=T.N ++ [(x:Int)]) (by rw[<-hPN];exact hP.nn) λy hy=>(hPY y hy).1
   rw[aY]at hPl;simp only[bX,dg]at hPl;have fin:∀(p4:Tf->Nat) (J8:List ah),p4 .f=3->FS {T with N:=T.N ++ [(x:Int)]} D.vcs.av p4 J8->∃τ,L AW [.ptr 3 5 0,.int x] J8=some (.bF [],τ)/\∃X,X .f=3/\FS (Fd.ext D x {T with N:=T.N ++ [(x:Int)]}) D.vcs.av X τ:=λp4 J8 hp4 h4=>by
    have P:=akc D Q {T with N:=T.N ++ [(x:Int)]} h4 hwf s.l (x:=x) (by omega) hxf (by simp) (by simp;omega) hPW hPY
    obtain⟨rv,τ,P,rfl,X,G,H⟩:=dh P;rw[hp4]at P;exact⟨τ,P,X,G.1.trans hp4,H⟩
   have l1:=m.lt (t:=.f) rfl;rw[h]at l1
   by_cases C:T.N=[]
   .obtain⟨τ5,P,X,G,H⟩:=fin (λt=>if t = .dn then j.length else i t) (ar (j ++ [⟨none,[.int x],.live⟩]) 3 ⟨some 5,[D.vcs.av,.sl (i .wo) T.W.length 0 T.W.length,.sl (i .fd) T.F.length 0 T.F.length,.sl (i .rd) T.R.length 0 T.R.length,.sl j.length 1 0 1],.live⟩) (by simpa using h) (m.done (λt ht=>aa ht) (by rw[h,cv (by simp;omega),C];simp) (by rw[ab rfl,aK (by omega),gJ,C];rfl) (λt B t1 t2 d=>by
      rw[aK (by have:=m.ne (t:=.f) rfl d (Ne.symm t1);omega)];exact fU (m.has t B d)) (.inr (by rw[ab rfl];exact aT _)))
    have e6:cE (i .dn) T.N.length = .ae:=by rw[C];rfl
    have hv4:∀B:ah,ak (j ++ [B]) 3=_:=λB=>fU (r:=[B]) E;simp[-ag,hk,hxx,E,hv4,e6,P];exact⟨by omega,az (k+1,X,τ5,Fd.ext D x {T with N:=T.N ++ [(x:Int)]}) (by simp) rfl ⟨by dsimp only;omega,G,H,hP,by dsimp only;rw[hPN,hN,tk];simp,by dsimp only;rw[hPF,hTF]⟩ (by dsimp only;omega)⟩
   .have hdn:=m.has .dn _ (aa C)
    have l2:=m.lt (t:=.dn) (aa C);have n1:i .dn ≠ 3:=by have:=m.ne (t:=.dn) (u:=.f) (aa C) rfl (by simp);omega
    obtain⟨τ5,P,X,G,H⟩:=fin i (ar (ar j (i .dn) (Zb (T.N ++ [(x:Int)]))) 3 ⟨some 5,[D.vcs.av,.sl (i .wo) T.W.length 0 T.W.length,.sl (i .fd) T.F.length 0 T.F.length,.sl (i .rd) T.R.length 0 T.R.length,.sl (i .dn) (T.N.length+1) 0 (T.N.length+1)],.live⟩) h (m.done (λt ht=>rfl) (by rw[h,cv (by rw[bQ];omega)]) (by rw[aK (Ne.symm n1),cv l2]) (λt B t1 t2 d=>by
      rw[aK (by have:=m.ne (t:=.f) rfl d (Ne.symm t1);omega),aK (m.ne (t:=.dn) (aa C) d (Ne.symm t2))];exact m.has t B d) (.inl ⟨C,rfl⟩))
    have e6:cE (i .dn) T.N.length = .sl (i .dn) T.N.length 0 T.N.length:=if_neg λe=>C (List.eq_nil_of_length_eq_zero e);have hv4:∀B:ah,ak (ar j (i .dn) B) 3=_:=λB=>(aK n1).trans E;simp only[Zb,List.map_append,List.map_cons,List.map_nil]at P;simp[-ag,hk,hxx,E,hv4,e6,hdn,P];exact⟨by omega,by omega,az (k+1,X,τ5,Fd.ext D x {T with N:=T.N ++ [(x:Int)]}) (by simp) rfl ⟨by dsimp only;omega,G,H,hP,by dsimp only;rw[hPN,hN,tk];simp,by dsimp only;rw[hPF,hTF]⟩ (by dsimp only;omega)⟩
  .have ek:k=out.length:=by omega
   subst ek;rw[List.take_length]at hN;simp[-ag];refine⟨by omega,az (n+1,i,j,T) (by simp) rfl ⟨by dsimp only;omega,h,m,s,λz z0 z1 C=>?_⟩ (by dsimp only;omega)⟩
   dsimp only at z1 C ⊢;obtain⟨w,O,hl⟩:=(s.fd z z0 z1).1 C;rw[hN]
   by_cases e:w.length=n
   .exact dQ.2 (.inr ((hm z).2 ⟨w,O,e⟩))
   .have z1' : z<(S.W.length:Int):=by rw[M.l];rw[s.l]at z1;exact z1
    exact dQ.2 (.inl (Z z z0 z1' ((M.fd z z0 z1').2 ⟨w,O,by omega⟩)))
 .have en:n=1025:=by omega
  subst en;have e1:view σ false vd (.sl (p .wo) S.W.length 0 S.W.length)=some (bN (S.W.map λo=>o.getD [])):=by
   have:=fj (k:=11) (f:=nh) (g:=λo=>iL (o.getD [])) (fr:=false) (hF.has .wo _ rfl) rfl rfl λo _=>by cases o<;>rfl
   rw[show vd=11+1 from rfl,this];simp
  have e2:view σ false vd (.sl (p .fd) S.F.length 0 S.F.length)=some (bL S.F):=fj (k:=11) (f:=AV.bool) (g:=AV.bool) (fr:=false) (hF.has .fd _ rfl) rfl rfl λo _=>rfl;simp[-ag,hv];exact⟨S,by rw[e1,e2],M⟩
theorem aki (D:Vd) (a:jr D) (b:D.n.calls+D.n.af+D.n.aj<=64):∃S:Fd,PC AO [D.vcs.av]=some (.bF [bN (S.W.map λo=>o.getD []),bL S.F])/\Sr D 1025 S:=BS (g:=λS:Fd=>.bF [bN (S.W.map λo=>o.getD []),bL S.F]) (akh D a b)
inductive Kd where
 |cl|ps|aH
 deriving DecidableEq
inductive Tn where
 |ac|po
 |ls (k:Kd)
 |rw(k:Kd) (s:Nat)
 |pr (s:Nat)
 |pg (s g:Nat)
 deriving DecidableEq
def al.tb (n:al):Kd->List (List Int)
 |.cl=>n.call
 |.ps=>n.push
 |.aH=>n.inner
def al.bp (n:al) (k:Kd) (s:Nat):List Int:=ix (n.tb k) (s:Int)
def al.bt (n:al) (s:Nat):List (List Int):=ix n.pop (s:Int)
def al.cx (n:al) (s g:Nat):List Int:=ix (n.bt s) (g:Int)
def jQ:Kd->List Int->ah
 |.ps,l=>bG l
 |_,l=>Zb l
abbrev gM (b k:Nat):AV:=.sl b k 0 k
def al.cont (n:al) (p:Tn->Nat):Tn->Option ah
 |.ac=>some ⟨none,n.accept.map .bool,.live⟩
 |.ls k=>if n.tb k=[]then none else some ⟨none,(List.range (n.tb k).length).map λs=>gM (p (.rw k s)) (n.bp k s).length,.live⟩
 |.rw k s=>if s<(n.tb k).length then some (jQ k (n.bp k s))else none
 |.po=>if n.pop=[]then none else some ⟨none,(List.range n.pop.length).map λs=>gM (p (.pr s)) (n.bt s).length,.live⟩
 |.pr s=>if s<n.pop.length then some ⟨none,(List.range (n.bt s).length).map λg=>gM (p (.pg s g)) (n.cx s g).length,.live⟩else none
 |.pg s g=>if s<n.pop.length/\g<(n.bt s).length then some (Zb (n.cx s g))else none
def al.bM (n:al) (p:Tn->Nat):List AV:=[.int n.calls,.int n.af,.int n.aj,.int n.stack,.int n.start,gM (p .ac) n.accept.length,cE (p (.ls .cl)) n.call.length,cE (p (.ls .ps)) n.push.length,cE (p (.ls .aH)) n.inner.length,cE (p .po) n.pop.length]
structure AS (n:al) (p:Tn->Nat) (σ:List ah):Prop where
 has:∀t B,n.cont p t=some B->ak σ (p t)=some B
 inj:∀t u A B,n.cont p t=some A->n.cont p u=some B->p t=p u->t=u
variable{n:al}{p:Tn->Nat}{u:Tn}{B:ah}
theorem AS.ne(h:AS n p σ){t:Tn}{A:ah}(U:n.cont p t=some A) (V:n.cont p u=some B) (hn:t ≠ u):p t ≠ p u:=λe=>hn (h.inj t u A B U V e)
theorem AS.lt(h:AS n p σ){t:Tn}{A:ah}(U:n.cont p t=some A):p t<σ.length:=dw (h.has t A U)
theorem AS.other(h:AS n p σ) (V:∀t B,n.cont p t=some B->ak τ (p t)=ak σ (p t)):AS n p τ:=
 ⟨λt B U=>by rw[V t B U];exact h.has t B U,h.inj⟩
theorem AS.put{n n' : al}(h:AS n p σ){t:Tn}{A:ah}(ht:n.cont p t=some A) (mL : n'.cont p t=some B) (hu:∀u,u ≠ t->n'.cont p u=n.cont p u):AS n' p (ar σ (p t) B):=by
 refine⟨λu C V=>?_,λu v C E V hE e=>?_⟩
 .by_cases U:u=t
  .subst U
   rw[mL]at V;injection V with V
   subst V;exact cv (h.lt ht)
  .rw[hu u U]at V
   rw[aK (h.ne ht V (Ne.symm U))];exact h.has u C V
 .have key:∀u C,n'.cont p u=some C->∃D,n.cont p u=some D:=λu C V=>by
   by_cases U:u=t
   .exact⟨A,by rw[U];exact ht⟩
   .rw[hu u U]at V;exact⟨C,V⟩
  obtain⟨_,h1⟩:=key u C V;obtain⟨_,h2⟩:=key v E hE;exact h.inj u v _ _ h1 h2 e
theorem RB{n:Nat}:∀l:List Bool,km n (l.map .bool)=l.map .bool
 | []=>rfl
 |b::l=>by rw[cJ,km,RB l];rfl
theorem RD{d:Nat}{t:Tn}:n.cont (λt=>p t+d) t=(n.cont p t).map (gm d):=by
 have a:∀(m:Nat) (f:Nat->Nat) (g:Nat->Nat),(List.range m).map (λs=>gM (f s+d) (g s))=km d ((List.range m).map λs=>gM (f s) (g s)):=λm f g=>by
  rw[wU,List.map_map];rfl
 cases t with
 |ac=>simp[al.cont,gm,RB]
 |po=>
  simp only[al.cont];split
  .rfl
  .rw[a];rfl
 |ls k=>
  simp only[al.cont];split
  .rfl
  .rw[a];rfl
 |rw k s=>
  simp only[al.cont];split
  .cases k<;>simp[jQ,gm,Bx]
   split<;>rfl
  .rfl
 |pr s=>
  simp only[al.cont];split
  .rw[a];rfl
  .rfl
 |pg s g=>
  simp only[al.cont];split
  .simp[gm,Bx]
  .rfl
theorem AS.shift(h:AS n p σ) (ρ:List ah):AS n (λt=>p t+ρ.length) (ρ++σ.map (gm ρ.length)):=by
 refine⟨λt B U=>?_,λt u A B hA U e=>?_⟩
 .rw[RD]at U
  obtain⟨C,V,rfl⟩:=mH.1 U;have:=h.has t C V;rw[bE]at this ⊢;rw[eK (by omega),show p t+ρ.length-ρ.length=p t by omega,fS,this]
  rfl
 .rw[RD]at hA U
  obtain⟨C,V,_⟩:=mH.1 hA;obtain⟨E,hE,_⟩:=mH.1 U;exact h.inj t u C E V hE (by omega)
theorem AS.view(h:AS n p σ):view σ false vd (.agg (n.bM p))=some n.av:=by
 have V:∀(k:Kd) (s:Nat) (f:Nat),s<(n.tb k).length->Ab.view σ false (f+2) (gM (p (.rw k s)) (n.bp k s).length)=some (iL (n.bp k s)):=λk s f hs=>by
  have:=h.has (.rw k s) _ (ab hs);cases k
  .exact fj (k:=f+1) this rfl rfl λ_ _=>rfl
  .exact fj (k:=f+1) (st:=if n.bp .ps s=[]then .jq else .live) this (by split<;>rfl) rfl λ_ _=>rfl
  .exact fj (k:=f+1) this rfl rfl λ_ _=>rfl
 have U:∀(k:Kd) (f:Nat),Ab.view σ false (f+3) (cE (p (.ls k)) (n.tb k).length)=some (bN (n.tb k)):=λk f=>by
  have e:bN (n.tb k) = .au false ((List.range (n.tb k).length).map λs=>iL (n.bp k s)):=by
   unfold al.bp;rw[pd (f:=iL)]
  rw[e];exact pe (k:=f+2) (f:=λs=>gM (p (.rw k s)) (n.bp k s).length) (λhx=>h.has (.ls k) _ (aa λe=>hx (by rw[e];rfl))) (by simp) λs hs=>V k s f (bT.1 hs)
 have C4:∀(f:Nat),Ab.view σ false (f+4) (cE (p .po) n.pop.length)=some (dR n.pop):=λf=>by
  have e:dR n.pop = .au false ((List.range n.pop.length).map λs=>bN (n.bt s)):=by
   unfold al.bt;rw[pd (f:=bN)]
  rw[e];refine pe (k:=f+3) (f:=λs=>gM (p (.pr s)) (n.bt s).length) (λhx=>h.has .po _ (aa λe=>hx (by rw[e];rfl))) (by simp) λs hs=>?_
  have iU :=bT.1 hs;have e2:bN (n.bt s) = .au false ((List.range (n.bt s).length).map λg=>iL (n.cx s g)):=by
   unfold al.cx;rw[pd (f:=iL)]
  rw[e2];exact fj (k:=f+2) (f:=λg=>gM (p (.pg s g)) (n.cx s g).length) (h.has (.pr s) _ (ab iU)) rfl (by simp) λg hg=>fj (k:=f+1) (h.has (.pg s g) _ (ab ⟨iU, bT.1 hg⟩)) rfl rfl λ_ _=>rfl
 show Ab.view σ false (11+1) _=_;unfold Ab.view;have hm:bI (Ab.view σ false 11) (n.bM p)=some [.int n.calls,.int n.af,.int n.aj,.int n.stack,.int n.start,bL n.accept,bN n.call,bN n.push,bN n.inner,dR n.pop]:=by
  refine cw rfl (cw rfl (cw rfl (cw rfl (cw rfl (cw ?_ (cw ?_ (cw ?_ (cw ?_ (cw ?_ rfl)))))))))
  .exact fj (k:=10) (h.has .ac _ rfl) rfl rfl λ_ _=>rfl
  .exact U .cl 8
  .exact U .ps 8
  .exact U .aH 8
  .exact C4 7
 simp only[hm]
theorem AS.mh(h:AS n p σ){l:List Bool}:AS {n with accept:=l} p (ar σ (p .ac) ⟨none,l.map .bool,.live⟩):=
 h.put (t:=.ac) rfl rfl λu U=>by cases u<;>first|rfl|exact absurd rfl U
theorem AS.mi(h:AS n p σ){s:Nat}(V:s<n.inner.length){l:List Int}(hl:l.length=(n.bp .aH s).length):AS {n with inner:=n.inner.set s l} p (ar σ (p (.rw .aH s)) (Zb l)):=by
 have hlen:(n.inner.set s l).length=n.inner.length:=by simp
 have U:∀s' : Nat,al.bp {n with inner:=n.inner.set s l} .aH s' = if s' = s then l else n.bp .aH s' :=λs' =>iD V s'
 have qC:∀s' : Nat,(al.bp {n with inner:=n.inner.set s l} .aH s').length=(n.bp .aH s').length:=λs' =>by
  rw[U];split
  .rename_i e;rw[e];exact hl
  .rfl
 refine h.put (t:=.rw .aH s) (ab V) ?_ λu hu=>?_
 .show(if s<(n.inner.set s l).length then some (jQ .aH (al.bp {n with inner:=n.inner.set s l} .aH s))else none)=_
  rw[hlen,ab V,U,ab rfl];rfl
 .cases u with
  |ls k=>
   cases k with
   |aH=>
    show(if n.inner.set s l=[]then none else some (⟨none,(List.range (n.inner.set s l).length).map λs' =>gM (p (.rw .aH s')) (al.bp {n with inner:=n.inner.set s l} .aH s').length,.live⟩:ah))=if n.inner=[]then none else some ⟨none,(List.range n.inner.length).map λs=>gM (p (.rw .aH s)) (n.bp .aH s).length,.live⟩
    simp only[qC,hlen];have:n.inner.set s l=[]↔n.inner=[]:=by rw[<-List.length_eq_zero_iff,hlen,List.length_eq_zero_iff]
    by_cases e:n.inner=[]
    .rw[ab e,ab (this.2 e)]
    .rw[aa e,aa λa=>e (this.1 a)]
   |_=>rfl
  |rw k s' =>
   cases k with
   |aH=>
    have:s' ≠ s:=λe=>hu (by rw[e])
    show(if s' < (n.inner.set s l).length then some (jQ .aH (al.bp {n with inner:=n.inner.set s l} .aH s'))else none)=if s' < n.inner.length then some (jQ .aH (n.bp .aH s'))else none
    rw[hlen,U,aa this]
   |_=>rfl
  |_=>rfl
variable{g:Nat}
theorem AS.mj(h:AS n p σ){s:Nat}(hs:s<n.pop.length) (hg:g<(n.bt s).length){l:List Int}(hl:l.length=(n.cx s g).length):AS {n with pop:=n.pop.set s ((n.bt s).set g l)} p (ar σ (p (.pg s g)) (Zb l)):=by
 have hlen:(n.pop.set s ((n.bt s).set g l)).length=n.pop.length:=by simp
 have yt:∀s' : Nat,al.bt {n with pop:=n.pop.set s ((n.bt s).set g l)} s' = if s' = s then(n.bt s).set g l else n.bt s' :=λs' =>iD hs s'
 have V:∀s' : Nat,(al.bt {n with pop:=n.pop.set s ((n.bt s).set g l)} s').length=(n.bt s').length:=λs' =>by
  rw[yt];split
  .rename_i e;rw[e];simp
  .rfl
 have U:∀s' g' : Nat,al.cx {n with pop:=n.pop.set s ((n.bt s).set g l)} s' g' = if s' = s/\g' = g then l else n.cx s' g' :=λs' g' =>by
  unfold al.cx;rw[yt]
  by_cases e:s' = s
  .rw[ab e,iD hg]
   by_cases e2:g' = g
   .rw[ab e2,ab ⟨e,e2⟩]
   .rw[aa e2,aa λa=>e2 a.2,e]
  .rw[aa e,aa λa=>e a.1]
 have qR:∀s' g' : Nat,(al.cx {n with pop:=n.pop.set s ((n.bt s).set g l)} s' g').length=(n.cx s' g').length:=λs' g' =>by
  rw[U];split
  .rename_i e;rw[e.1,e.2];exact hl
  .rfl
 refine h.put (t:=.pg s g) (ab ⟨hs,hg⟩) ?_ λu hu=>?_
 .show(if s<(n.pop.set s ((n.bt s).set g l)).length/\g<(al.bt {n with pop:=n.pop.set s ((n.bt s).set g l)} s).length then some (Zb (al.cx {n with pop:=n.pop.set s ((n.bt s).set g l)} s g))else none)=_
  rw[hlen,V,ab ⟨hs,hg⟩,U,ab ⟨rfl,rfl⟩]
 .cases u with
  |po=>
   show(if n.pop.set s ((n.bt s).set g l)=[]then none else some (⟨none,(List.range (n.pop.set s ((n.bt s).set g l)).length).map λs' =>gM (p (.pr s')) (al.bt {n with pop:=n.pop.set s ((n.bt s).set g l)} s').length,.live⟩:ah))=if n.pop=[]then none else some ⟨none,(List.range n.pop.length).map λs=>gM (p (.pr s)) (n.bt s).length,.live⟩
   simp only[V,hlen];have:n.pop.set s ((n.bt s).set g l)=[]↔n.pop=[]:=by rw[<-List.length_eq_zero_iff,hlen,List.length_eq_zero_iff]
   by_cases e:n.pop=[]
   .rw[ab e,ab (this.2 e)]
   .rw[aa e,aa λa=>e (this.1 a)]
  |pr s' =>
   show(if s' < (n.pop.set s ((n.bt s).set g l)).length then some (⟨none,(List.range (al.bt {n with pop:=n.pop.set s ((n.bt s).set g l)} s').length).map λg' =>gM (p (.pg s' g')) (al.cx {n with pop:=n.pop.set s ((n.bt s).set g l)} s' g').length,.live⟩:ah)else none)=if s' < n.pop.length then some ⟨none,(List.range (n.bt s').length).map λg' =>gM (p (.pg s' g')) (n.cx s' g').length,.live⟩else none
   simp only[V,hlen,qR]
  |pg s' g' =>
   have:¬(s' = s/\g' = g):=λe=>hu (by rw[e.1,e.2])
   show(if s' < (n.pop.set s ((n.bt s).set g l)).length/\g' < (al.bt {n with pop:=n.pop.set s ((n.bt s).set g l)} s').length then some (Zb (al.cx {n with pop:=n.pop.set s ((n.bt s).set g l)} s' g'))else none)=if s' < n.pop.length/\g' < (n.bt s').length then some (Zb (n.cx s' g'))else none
   rw[hlen,V,U,aa this]
  |_=>rfl
def fB (k s:Nat):Nat:=if s=0 then 3 else 11+k+(s-1)*(k+4)
def fp (k:Nat):Tn->Nat
 |.ac=>1
 |.po=>10+k
 |.ls .cl=>6+k
 |.ls .ps=>7+k
 |.ls .aH=>9+k
 |.rw .ps s=>fB k s
 |.pr s=>fB k s+1
 |.pg s g=>fB k s+2+g
 |.rw .cl s=>fB k s+2+k
 |.rw .aH s=>fB k s+2+k+(if s=0 then 3 else 1)
theorem yG{s t:Nat}(h:s<t):fB k s+k+4<=fB k t/\(s=0->11+k<=fB k t):=by
 obtain⟨u,rfl⟩:∃u,t=u+1:=⟨t-1,by omega⟩
 have e:fB k (u+1)=11+k+u*(k+4):=by simp[fB]
 rw[e]
 by_cases a:s=0
 .subst a
  have:fB k 0=3:=rfl;exact⟨by rw[this];have:=Nat.zero_le (u*(k+4));omega,λ_=>by omega⟩
 .obtain⟨v,rfl⟩:∃v,s=v+1:=⟨s-1,by omega⟩
  have b:fB k (v+1)=11+k+v*(k+4):=by simp[fB]
  rw[b];have:(v+1)*(k+4)<=u*(k+4):=kS _ (by omega)
  rw[eX]at this;exact⟨by omega,λh=>absurd h a⟩
theorem yH:fB k 0=3:=rfl
theorem akj:fB k 1=11+k:=by simp[fB]
theorem akk{s:Nat}(h:s ≠ 0):fB k (s+1)=fB k s+k+4:=by
 obtain⟨v,rfl⟩:∃v,s=v+1:=⟨s-1,by omega⟩
 simp[fB,eX];omega
theorem BW{s:Nat}(h:s ≠ 0):11+k<=fB k s:=(yG (s:=0) (t:=s) (by omega)).2 rfl
def Tn.C5 (k:Nat):Tn->Prop
 |.pg _ g=>g<k
 |_=>True
def Tn.off (k:Nat):Tn->Option (Nat×Nat)
 |.rw .ps s=>some (s,0)
 |.pr s=>some (s,1)
 |.pg s g=>some (s,2+g)
 |.rw .cl s=>some (s,2+k)
 |.rw .aH s=>some (s,2+k+if s=0 then 3 else 1)
 |_=>none
theorem uz{t:Tn}(a:t.C5 k):(∃s o,t.off k=some (s,o)/\fp k t=fB k s+o/\(o<k+4\/s=0/\o=k+5)/\(s=0->o<3+k\/o=k+5))\/(t.off k=none/\(fp k t=1\/6+k<=fp k t/\fp k t<=10+k/\fp k t ≠ 8+k)):=by
 cases t with
 |ac=>exact .inr ⟨rfl,.inl rfl⟩
 |po=>exact .inr ⟨rfl,.inr ⟨by simp[fp],by simp[fp],by simp[fp]⟩⟩
 |ls q=>cases q<;>exact .inr ⟨rfl,.inr ⟨by simp[fp],by simp[fp],by simp[fp]⟩⟩
 |rw q s=>
  cases q with
  |cl=>exact .inl ⟨s,2+k,rfl,by simp[fp];omega,by omega,by omega⟩
  |ps=>exact .inl ⟨s,0,rfl,by simp[fp],by omega,by omega⟩
  |aH=>
   refine .inl ⟨s,_,rfl,by simp only[fp];omega,?_,?_⟩
   .split<;>omega
   .intro h;rw[ab h];omega
 |pr s=>exact .inl ⟨s,1,rfl,rfl,by omega,by omega⟩
 |pg s g=>have:g<k:=a;exact .inl ⟨s,2+g,rfl,by simp[fp];omega,by omega,by omega⟩
theorem akl{t:Tn}(i:t.C5 k) (j:u.C5 k){s o:Nat}(b:t.off k=some (s,o)) (a:u.off k=some (s,o)):t=u:=by
 have e:∀g s', (Tn.pg s' g).C5 k->g<k:=λg s' h=>h;cases t with
 |ac=>simp[Tn.off]at b
 |po=>simp[Tn.off]at b
 |ls q=>simp[Tn.off]at b
 |rw q s' =>
  cases u with
  |ac=>simp[Tn.off]at a
  |po=>simp[Tn.off]at a
  |ls q=>simp[Tn.off]at a
  |rw r d =>
   cases q<;>cases r<;>simp[Tn.off]at b a<;>first|(rw[b.1,a.1];done)|(exfalso;(try split at b)<;>(try split at a)<;>omega)
  |pr d =>cases q<;>simp[Tn.off]at b a<;>exfalso<;>(try split at b)<;>omega
  |pg d g=>have:=e _ _ j;cases q<;>simp[Tn.off]at b a<;>exfalso<;>(try split at b)<;>omega
 |pr s' =>
  cases u with
  |ac=>simp[Tn.off]at a
  |po=>simp[Tn.off]at a
  |ls q=>simp[Tn.off]at a
  |rw r d =>cases r<;>simp[Tn.off]at b a<;>exfalso<;>(try split at a)<;>omega
  |pr d =>simp[Tn.off]at b a;rw[b.1,a.1]
  |pg d g=>simp[Tn.off]at b a;omega
 |pg s' g=>
  have l:=e _ _ i;cases u with
  |ac=>simp[Tn.off]at a
  |po=>simp[Tn.off]at a
  |ls q=>simp[Tn.off]at a
  |rw r d =>cases r<;>simp[Tn.off]at b a<;>exfalso<;>(try split at a)<;>omega
  |pr d =>simp[Tn.off]at b a;omega
  |pg d g' =>
   simp[Tn.off]at b a;rw[b.1,a.1,show g=g' by omega]
theorem vG{t:Tn}(m:t.C5 k) (i:u.C5 k) (e:fp k t=fp k u):t=u:=by
 rcases uz m with⟨s,o,b,j,w,n⟩|⟨b,j⟩
 .rcases uz i with⟨s', o', a,d,p,l⟩|⟨a,d⟩
  .have es:s=s' :=by
    rcases Nat.lt_trichotomy s s' with h|h|h
    .have:=yG (k:=k) h
     by_cases z:s=0
     .have:=this.2 z;have:=n z;subst z;rw[yH]at j;omega
     .omega
    .exact h
    .have:=yG (k:=k) h
     by_cases z:s' = 0
     .have:=this.2 z;have:=l z;subst z;rw[yH]at d;omega
     .omega
   subst es;exact akl m i b (by rw[a,show o' = o by omega])
  .exfalso
   by_cases z:s=0
   .have:=n z;subst z;rw[yH]at j;omega
   .have:=BW (k:=k) z;omega
 .rcases uz i with⟨s', o', a,d,p,l⟩|⟨a,d⟩
  .exfalso
   by_cases z:s' = 0
   .have:=l z;subst z;rw[yH]at d;omega
   .have:=BW (k:=k) z;omega
  .cases t with
   |ac=>cases u with
    |ac=>rfl
    |po=>simp[fp]at e;omega
    |ls q=>cases q<;>simp[fp]at e<;>omega
    |rw r s=>cases r<;>simp[Tn.off]at a
    |pr s=>simp[Tn.off]at a
    |pg s g=>simp[Tn.off]at a
   |po=>cases u with
    |ac=>simp[fp]at e;omega
    |po=>rfl
    |ls q=>cases q<;>simp[fp]at e
    |rw r s=>cases r<;>simp[Tn.off]at a
    |pr s=>simp[Tn.off]at a
    |pg s g=>simp[Tn.off]at a
   |ls q=>cases u with
    |ac=>cases q<;>simp[fp]at e<;>omega
    |po=>cases q<;>simp[fp]at e
    |ls r=>cases q<;>cases r<;>first|rfl|(simp[fp]at e)
    |rw r s=>cases r<;>simp[Tn.off]at a
    |pr s=>simp[Tn.off]at a
    |pg s g=>simp[Tn.off]at a
   |rw r s=>cases r<;>simp[Tn.off]at b
   |pr s=>simp[Tn.off]at b
   |pg s g=>simp[Tn.off]at b
def al.ay (n:al) (k:Nat):Nat:=max 1 (k*n.calls.toNat)
def al.uA (n:al) (s j:Nat):List Int:=(List.range j).map λ(c:Nat)=>(s:Int)*n.calls+(c:Int)
def al.dH (n:al) (k s:Nat):al:=⟨n.calls,n.af,n.aj,n.ay k,0,List.replicate k false,List.replicate s (List.replicate n.calls.toNat 0),(List.range s).map λs=>n.uA s n.calls.toNat,List.replicate s (List.replicate n.af.toNat 0),List.replicate s (List.replicate (n.ay k) (List.replicate n.aj.toNat 0))⟩
variable{j:Nat}
theorem akm{s:Nat}:n.uA s (j+1)=n.uA s j ++ [(s:Int)*n.calls+(j:Int)]:=by simp[al.uA,gw]
theorem IB{s:Nat}:(n.uA s j).length=j:=by simp[al.uA]
variable{i:Nat}
theorem ki{s:Nat}(a:i<s):(n.dH k s).bp .cl i=List.replicate n.calls.toNat 0/\(n.dH k s).bp .ps i=n.uA i n.calls.toNat/\(n.dH k s).bp .aH i=List.replicate n.af.toNat 0/\(n.dH k s).bt i=List.replicate (n.ay k) (List.replicate n.aj.toNat 0):=by
 refine⟨kJ a,?_,kJ a,kJ a⟩;show ix ((List.range s).map λs=>n.uA s n.calls.toNat) (i:Int)=_;rw[aG (by simpa using a)];simp
theorem tN{s:Nat}(a:i<s) (b:g<n.ay k):(n.dH k s).cx i g=List.replicate n.aj.toNat 0:=by
 unfold al.cx;rw[(ki a).2.2.2];exact kJ b
theorem ml{s:Nat}(q:Kd):((n.dH k s).tb q).length=s:=by cases q<;>simp[al.tb,al.dH]
theorem mm{s:Nat}:(n.dH k s).pop.length=s:=by simp[al.dH]
def al.ID (n:al):Kd->Nat
 |.cl=>n.calls.toNat
 |.ps=>n.calls.toNat
 |.aH=>n.af.toNat
theorem IE{s:Nat}(a:i<s) (q:Kd):((n.dH k s).bp q i).length=n.ID q:=by
 obtain⟨b,d,e,_⟩:=ki (n:=n) (k:=k) a;cases q
 .rw[b];simp[al.ID]
 .rw[d];exact IB
 .rw[e];simp[al.ID]
def BX (n:al) (k:Nat) (q:Kd) (s:Nat):ah:=⟨none,(List.range s).map λi=>gM (fp (n.ay k) (.rw q i)) (n.ID q),.live⟩
def J9 (n:al) (k s:Nat):ah:=⟨none,(List.range s).map λi=>gM (fp (n.ay k) (.pr i)) (n.ay k),.live⟩
def UP (n:al) (k s:Nat):ah:=⟨none,(List.range (n.ay k)).map λg=>gM (fp (n.ay k) (.pg s g)) n.aj.toNat,.live⟩
variable{q:Kd}
theorem RE{s:Nat}(b:s ≠ 0):(n.dH k s).cont (fp (n.ay k)) (.ls q)=some (BX n k q s):=by
 show(if(n.dH k s).tb q=[]then none else some (⟨none,(List.range ((n.dH k s).tb q).length).map λi=>gM (fp (n.ay k) (.rw q i)) ((n.dH k s).bp q i).length,.live⟩:ah))=_
 rw[aa λe=>by have:=ml (n:=n) (k:=k) (s:=s) q;rw[e]at this;simp at this;omega,ml]
 congr 2
 exact fv λi a=>by rw[IE (bT.1 a)]
theorem RF{s:Nat}(b:s ≠ 0):(n.dH k s).cont (fp (n.ay k)) .po=some (J9 n k s):=by
 show(if(n.dH k s).pop=[]then none else some (⟨none,(List.range (n.dH k s).pop.length).map λi=>gM (fp (n.ay k) (.pr i)) ((n.dH k s).bt i).length,.live⟩:ah))=_
 rw[aa λe=>by have:=mm (n:=n) (k:=k) (s:=s);rw[e]at this;simp at this;omega,mm]
 congr 2
 exact fv λi a=>by rw[(ki (bT.1 a)).2.2.2];simp
theorem RH{s:Nat}(a:i<s):(n.dH k s).cont (fp (n.ay k)) (.pr i)=some (UP n k i):=by
 show(if i<(n.dH k s).pop.length then some (⟨none,(List.range ((n.dH k s).bt i).length).map λg=>gM (fp (n.ay k) (.pg i g)) ((n.dH k s).cx i g).length,.live⟩:ah)else none)=_
 rw[mm,ab a,(ki a).2.2.2,List.length_replicate]
 congr 2
 exact fv λg b=>by rw[tN a (bT.1 b)];simp
theorem oz{s:Nat}{t:Tn}(h:(n.dH k s).cont (fp (n.ay k)) t=some B):t.C5 (n.ay k):=by
 cases t with
 |pg i g=>
  have h:(if i<(n.dH k s).pop.length/\g<((n.dH k s).bt i).length then some (Zb ((n.dH k s).cx i g))else none)=some B:=h
  split at h
  .rename_i a
   rw[mm]at a;rw[(ki a.1).2.2.2]at a;have:=a.2;rw[List.length_replicate]at this;exact this
  .simp at h
 |_=>trivial
theorem RI{s:Nat}(h:AS (n.dH k s) (fp (n.ay k)) σ)
  (l:∀t B,(∀q,t ≠ .ls q)->t ≠ .po->(n.dH k s).cont (fp (n.ay k)) t=some B->ak τ (fp (n.ay k) t)=some B)
  (x:∀q,ak τ (fp (n.ay k) (.ls q))=some (BX n k q (s+1))) (y:ak τ (fp (n.ay k) .po)=some (J9 n k (s+1)))
  (z:ak τ (fp (n.ay k) (.rw .cl s))=some (Zb (List.replicate n.calls.toNat 0))) (C:ak τ (fp (n.ay k) (.rw .ps s))=some (bG (n.uA s n.calls.toNat))) (D:ak τ (fp (n.ay k) (.rw .aH s))=some (Zb (List.replicate n.af.toNat 0)))
  (E:ak τ (fp (n.ay k) (.pr s))=some (UP n k s)) (F:∀g,g<n.ay k->ak τ (fp (n.ay k) (.pg s g))=some (Zb (List.replicate n.aj.toNat 0))):AS (n.dH k (s+1)) (fp (n.ay k)) τ:=by
 refine⟨λt B b=>?_,λt u A B G b e=>vG (oz G) (oz b) e⟩;cases t with
 |ac=>
  rw[<-b];exact l .ac _ (by simp) (by simp) rfl
 |po=>rw[<-b,RF (by omega)];exact y
 |ls q=>rw[<-b,RE (by omega)];exact x q
 |rw q i=>
  have b:(if i<((n.dH k (s+1)).tb q).length then some (jQ q ((n.dH k (s+1)).bp q i))else none)=some B:=b
  rw[ml]at b;split at b
  .rename_i m
   by_cases e:i=s
   .subst e
    obtain⟨p,r,w,_⟩:=ki (n:=n) (k:=k) m;cases q
    .rw[p]at b;rw[z];exact b
    .rw[r]at b;rw[C];exact b
    .rw[w]at b;rw[D];exact b
   .have j : i<s:=by omega
    refine l (.rw q i) B (by simp) (by simp) ?_
    show(if i<((n.dH k s).tb q).length then some (jQ q ((n.dH k s).bp q i))else none)=_
    rw[ml,ab j, <-b];obtain⟨p,r,w,_⟩:=ki (n:=n) (k:=k) m;obtain⟨b1,H,I,_⟩:=ki (n:=n) (k:=k) j;cases q
    .rw[p,b1]
    .rw[r,H]
    .rw[w,I]
  .simp at b
 |pr i=>
  have m:i<s+1:=by
   have b:(if i<(n.dH k (s+1)).pop.length then some _ else none)=some B:=b
   rw[mm]at b;exact cZ λJ=>by rw[aa J]at b;simp at b
  rw[RH m]at b
  by_cases e:i=s
  .subst e;rw[E];exact b
  .exact l (.pr i) B (by simp) (by simp) (by rw[RH (by omega)];exact b)
 |pg i g=>
  have d:(if i<(n.dH k (s+1)).pop.length/\g<((n.dH k (s+1)).bt i).length then some (Zb ((n.dH k (s+1)).cx i g))else none)=some B:=b
  rw[mm]at d;split at d
  .rename_i a
   have o:g<n.ay k:=by
    have:=a.2;rw[(ki a.1).2.2.2]at this;simpa using this
   rw[tN a.1 o]at d
   by_cases e:i=s
   .subst e;rw[F g o,d]
   .refine l (.pg i g) B (by simp) (by simp) ?_
    show(if i<(n.dH k s).pop.length/\g<((n.dH k s).bt i).length then some (Zb ((n.dH k s).cx i g))else none)=_
    rw[mm,(ki (show i<s by omega)).2.2.2,List.length_replicate,ab ⟨by omega,o⟩,tN (by omega) o]
    exact d
  .simp at d
theorem RJ{A:ah}:AS (n.dH k 0) (fp (n.ay k)) [A,⟨none,(List.replicate k false).map .bool,.live⟩,B]:=by
 refine⟨λt C a=>?_,λt u A B b d e=>vG (oz b) (oz d) e⟩;cases t with
 |ac=>rw[<-a];rfl
 |ls q=>cases q<;>simp[al.cont,al.tb,al.dH]at a
 |rw q s=>cases q<;>simp[al.cont,al.tb,al.dH]at a
 |_=>simp[al.cont,al.dH]at a
theorem vH{s:Nat}:(n.dH k s).bM (fp (n.ay k))=[.int n.calls,.int n.af,.int n.aj,.int ((n.ay k:Nat):Int),.int 0,.sl 1 k 0 k,cE (6+n.ay k) s,cE (7+n.ay k) s,cE (9+n.ay k) s,cE (10+n.ay k) s]:=by simp[al.bM,al.dH,fp]
theorem yI{Q:List ah}{C:ah}:ar (Q ++ [B]) Q.length C=Q ++ [C]:=by rw[sE];simp
theorem vI(h:i<τ.length):∀(Q r:List ah),τ.length<=Q.length->ak (Q++r) i=ak Q i:=λQ r a=>by
 rw[bE,bE,eC (by omega)]
theorem RK(h:i<τ.length):∀(Q:List ah) (B:ah),τ.length<=Q.length->ak (ar Q i B) i=some B:=λQ B a=>cv (by omega)
theorem mW(h:i ≠ j):∀(Q:List ah) (B:ah),ak (ar Q i B) j=ak Q j:=λQ B=>aK h
def IF (a k r g:Nat):ah:=⟨none,(List.range k).map λi=>if i<g then gM (a+i) r else .ae,.live⟩
variable{a:Nat}
theorem akn{r:Nat}:((List.range k).map λi=>if i<g then gM (a+i) r else .ae).set g (gM (a+g) r)=(List.range k).map λi=>if i<g+1 then gM (a+i) r else .ae:=by
 apply jJ (by simp)
 intro i b d;rw[rh];simp only[k9,nI]
 by_cases e:g=i
 .subst e;rw[ab rfl,ab (by omega)]
 .rw[aa e]
  by_cases h:i<g
  .rw[ab h,ab (by omega)]
  .rw[aa h,aa (by omega)]
theorem RL{r:Nat}:IF a k r 0=⟨none,List.replicate k .ae,.live⟩:=by
 unfold IF
 congr 1
 apply jJ (by simp)
 intro i b d;simp
variable{r:List ah}
theorem fV{Q:List ah}(h:i<Q.length):ak (Q++r) i=ak Q i:=by rw[bE,bE,eC h]
theorem ako{Q:List ah}(h:Q.length<=i):ak (Q++r) i=ak r (i-Q.length):=by rw[bE,bE,eK h]
theorem BY{Q:List ah}(h:i=Q.length+m):ak (Q++r) i=ak r m:=by rw[ako (by omega)];congr 1;omega
theorem IG{t:Tn}(b:t.C5 k):fp k t ≠ 2/\fp k t ≠ 0:=by
 rcases uz b with⟨s,o,d,a,e,g⟩|⟨d,a⟩
 .by_cases z:s=0
  .subst z;rw[yH]at a;omega
  .have:=BW (k:=k) z;omega
 .omega
theorem C6{s:Nat}:BX n k q (s+1)=⟨none,(List.range s).map (λi=>gM (fp (n.ay k) (.rw q i)) (n.ID q)) ++ [.sl (fp (n.ay k) (.rw q s)) (n.ID q) 0 (n.ID q)],.live⟩:=by
 unfold BX;rw[gw,jK];rfl
theorem C7{s:Nat}:J9 n k (s+1)=⟨none,(List.range s).map (λi=>gM (fp (n.ay k) (.pr i)) (n.ay k)) ++ [.sl (fp (n.ay k) (.pr s)) (n.ay k) 0 (n.ay k)],.live⟩:=by
 unfold J9;rw[gw,jK];rfl
theorem RM{s:Nat}(h:a=fB (n.ay k) s+2):IF a (n.ay k) n.aj.toNat (n.ay k)=UP n k s:=by
 unfold IF UP
 congr 1
 refine fv λi b=>?_;rw[ab (bT.1 b),h];rfl
theorem qD{ce:CE}{n:Nat}{a b d e g i j l m o:AV}(h:ak σ n=some ⟨some 10,[a,b,d,e,g,i,j,l,m,o],.live⟩):ev ce σ 0 [] (λ_=>.ptr n (aE (some 10)) 0) (.ld (.v 0) (some 10))=some (.agg [a,b,d,e,g,i,j,l,m,o],none):=by
 have p:upto σ n (aE (some 10))=some ⟨some 10,[a,b,d,e,g,i,j,l,m,o],.live⟩:=by unfold upto;rw[h];rfl
 simp only[ev,p]
 rfl
theorem RN (n:al) (N:n.Ok) (k:Nat) (hk:k<=128) (O:k*n.calls.toNat<=128):LX L vt [n.av,.int k] [] (λr τ=>r = .agg ((n.dH k k).bM (fp (n.ay k)))/\AS (n.dH k k) (fp (n.ay k)) τ):=by
 refine agF rfl ?_;have hc:=N.calls;have hi:=N.af;have hr:=N.aj;have hmul:(k:Int)*n.calls=((k*n.calls.toNat:Nat):Int):=by rw[iI];congr 1;omega
 have R:max 1 ((k:Int)*n.calls)=((n.ay k:Nat):Int):=by rw[hmul];unfold al.ay;omega
 have Ic:n.ay k<=128:=by unfold al.ay;omega
 have hkc:0<=(k:Int)*n.calls/\(k:Int)*n.calls<=128:=by rw[hmul];exact⟨nJ _,Int.ofNat_le.2 O⟩
 simp[-ag,-List.map_replicate,R];refine⟨by omega,by omega,?_⟩
 refine aM (λq:Nat×List ah=>[(3,.int q.1)]) (λq=>q.2) (λq=>q.1<=k/\AS (n.dH k q.1) (fp (n.ay k)) q.2/\ak q.2 2=some ⟨some 10,(n.dH k q.1).bM (fp (n.ay k)),.live⟩/\q.2.length=fB (n.ay k) q.1/\ak q.2 0=some ⟨some 10,[.int 0,.int 0,.int 0,.int 0,.int 0,.ae,.ae,.ae,.ae,.ae],.live⟩) (λq=>k-q.1) (0,[⟨some 10,[.int 0,.int 0,.int 0,.int 0,.int 0,.ae,.ae,.ae,.ae,.ae],.live⟩,⟨none,(List.replicate k false).map .bool,.live⟩,⟨some 10,[.int n.calls,.int n.af,.int n.aj,.int ((n.ay k:Nat):Int),.int 0,.sl 1 k 0 k,.ae,.ae,.ae,.ae],.live⟩]) (by simp[a8]) ⟨by simp,RJ,by simp[ak,al.bM,al.dH,cE,fp],by simp[fB],by simp[ak]⟩ ?_
 rintro⟨s,σ⟩ ⟨s0,x,u,hlen,y⟩;dsimp only at s0 x u hlen y ⊢
 by_cases hs:s<k
 .have hsc:0<=(s:Int)*n.calls/\(s:Int)*n.calls<=128:=⟨nK (by omega) hc.1,by have:=Int.mul_le_mul_of_nonneg_right (show(s:Int)<=k by omega) hc.1;omega⟩
  simp[-ag,hs];refine aM (λc:Nat=>[(5,.int c),(7,.sl σ.length c 0 c)]) (λc=>σ ++ [bG (n.uA s c)]) (λc=>c<=n.calls.toNat) (λc=>n.calls.toNat-c) 0 (by simp[a8,al.uA]) (by omega) ?_
  intro c c0
  by_cases Cz:c<n.calls.toNat
  .have D:=aB (show(c:Int)<n.calls by omega)
   have F:=λB:ah=>(gJ (Q:=σ) (r:=[]) (B:=B));have S:=akm (n:=n) (s:=s) (j:=c);have G:=IB (n:=n) (s:=s) (j:=c);generalize n.uA s c=P at *;simp[-ag,D,F,G];refine⟨by omega,by omega,by split<;>rfl,by omega,by omega,az (c+1) (by simp) ?_ (by omega) (by omega)⟩
   rw[yI,S];simp[bG]
  .have D:=dN (show ¬(c:Int)<n.calls by omega)
   have ec:c=n.calls.toNat:=by omega
   have A:∀r:List ah,ak (σ++r) 2=_:=λr=>fU (r:=r) u;rw[vH]at A;have G:=IB (n:=n) (s:=s) (j:=c);simp[-ag,-List.map_replicate,-Int.toNat_natCast,D,A];simp only[je,<-RL (a:=σ.length+2) (r:=n.aj.toNat)];refine⟨by omega,?_⟩
   refine aM (λq:Nat×List ah=>[(12,.int q.1)]) (λq=>q.2) (λq=>q.1<=n.ay k/\(∀b,b<σ.length->ak q.2 b=ak σ b)/\ak q.2 σ.length=some (bG (n.uA s c))/\ak q.2 (σ.length+1)=some (IF (σ.length+2) (n.ay k) n.aj.toNat q.1)/\(∀g,g<q.1->ak q.2 (σ.length+2+g)=some (Zb (List.replicate n.aj.toNat 0)))/\q.2.length=σ.length+2+q.1) (λq=>n.ay k-q.1) (0,σ ++ [bG (n.uA s c),IF (σ.length+2) (n.ay k) n.aj.toNat 0]) (by simp[a8]) ⟨by simp,λb F=>by rw[bE,bE,List.getElem?_append_left F],gJ,HU,λg h=>by dsimp only at h;omega,by simp⟩ ?_
   rintro⟨g,τ⟩ ⟨g0,d,J,E,K,z⟩;dsimp only at g0 d J E K z ⊢
   by_cases H:g<n.ay k
   .unfold IF at E
    have T:∀B:ah,ak (τ ++ [B]) (σ.length+1)=_:=λB=>fU (r:=[B]) E;simp[-ag,-List.map_replicate,H,E,T];refine⟨by omega,by omega,by omega,az (g+1,_) (by simp) rfl ⟨by dsimp only;omega,λb F=>?_,?_,?_,λi hi=>?_,?_⟩ (by dsimp only;omega)⟩
    .dsimp only
     rw[aK (by omega),<-d b F,bE,bE,eC (by omega)]
    .dsimp only
     rw[aK (by omega)];exact fU J
    .dsimp only
     rw[cv (by simp;omega)]
     show some (⟨none,_,.live⟩:ah)=_;rw[z];rw[show(AV.sl (σ.length+2+g) n.aj.toNat 0 n.aj.toNat).cells=[gM (σ.length+2+g) n.aj.toNat]from rfl,qz,akn];rfl
    .dsimp only at hi ⊢
     rw[aK (by omega)]
     by_cases e:i=g
     .subst e
      rw[<-z];exact gJ
     .exact fU (K i (by omega))
    .dsimp only
     rw[bQ,aY,z];simp;omega
   .have eg:g=n.ay k:=by omega
    subst eg;have l:=(d 2 (by rw[hlen];unfold fB;split<;>omega)).trans u
    rw[vH]at l
    by_cases w:s=0
    .subst w
     rw[show cE (6+n.ay k) 0 = .ae from rfl,show cE (7+n.ay k) 0 = .ae from rfl,show cE (9+n.ay k) 0 = .ae from rfl,show cE (10+n.ay k) 0 = .ae from rfl]at l;have l2:2<τ.length:=by omega
     have U:=vI l2;have V:=RK l2;simp[-ag,-List.map_replicate,l,U,V,Nat.le_add_right_of_le,bQ];have p : σ.length=3:=hlen;refine⟨by omega,by omega,az (1,_) (by simp) rfl ⟨by dsimp only;omega,RI x (λt B M t2 o=>?_) (λq=>?_) ?_ ?_ ?_ ?_ ?_ (λg H=>?_),?_,?_,?_⟩ (by dsimp only;omega)⟩
     .have f1:=x.lt o
      have f2:=(IG (oz o)).1;have:=x.has t B o;rw[<-d _ f1]at this;simp(disch:=((try simp only[bQ,aY,bX,dg]);omega)) only[aK,fV]
      exact this
     .rw[C6]
      cases q
      .rw[show fp (n.ay k) (.ls .cl)=τ.length+1 by simp[fp];omega]
       simp(disch:=((try simp only[bQ,aY,bX,dg]);omega)) only[aK,fV]
       rw[HU,show τ.length=fp (n.ay k) (.rw .cl 0)by simp[fp,fB];omega];rfl
      .rw[show fp (n.ay k) (.ls .ps)=τ.length+2 by simp[fp];omega]
       simp(disch:=((try simp only[bQ,aY,bX,dg]);omega)) only[aK,fV]
       rw[aja,p, ec];rfl
      .rw[show fp (n.ay k) (.ls .aH)=τ.length+3+1 by simp[fp];omega]
       simp(disch:=((try simp only[bQ,aY,bX,dg]);omega)) only[aK]
       rw[BY (m:=1) (by simp only[bQ,aY,bX,dg];try omega),show τ.length+3=fp (n.ay k) (.rw .aH 0)by simp[fp,fB];omega];rfl
     .rw[C7,show fp (n.ay k) .po=τ.length+3+2 by simp[fp];omega]
      simp(disch:=((try simp only[bQ,aY,bX,dg]);omega)) only[aK]
      rw[BY (m:=2) (by simp only[bQ,aY,bX,dg];try omega),p];try rfl
     .rw[show fp (n.ay k) (.rw .cl 0)=τ.length by simp[fp,fB];omega]
      simp(disch:=((try simp only[bQ,aY,bX,dg]);omega)) only[aK,fV]
      exact gJ
     .rw[show fp (n.ay k) (.rw .ps 0)=σ.length by rw[p];rfl]
      simp(disch:=((try simp only[bQ,aY,bX,dg]);omega)) only[aK,fV]
      rw[J,ec]
     .rw[show fp (n.ay k) (.rw .aH 0)=τ.length+3 by simp[fp,fB];omega]
      simp(disch:=((try simp only[bQ,aY,bX,dg]);omega)) only[aK]
      rw[BY (m:=0) (by simp only[bQ,aY,bX,dg];try omega)]
     .rw[show fp (n.ay k) (.pr 0)=σ.length+1 by rw[p];rfl]
      simp(disch:=((try simp only[bQ,aY,bX,dg]);omega)) only[aK,fV]
      rw[E,RM (s:=0) (by rw[p];rfl)]
     .rw[show fp (n.ay k) (.pg 0 g)=σ.length+2+g by rw[p];rfl]
      simp(disch:=((try simp only[bQ,aY,bX,dg]);omega)) only[aK,fV]
      exact K g H
     .dsimp only
      rw[cv (by simp only[bQ,aY,bX,dg];try omega),vH,show cE (6+n.ay k) 1 = .sl (6+n.ay k) 1 0 1 from rfl,show cE (7+n.ay k) 1 = .sl (7+n.ay k) 1 0 1 from rfl,show cE (9+n.ay k) 1 = .sl (9+n.ay k) 1 0 1 from rfl,show cE (10+n.ay k) 1 = .sl (10+n.ay k) 1 0 1 from rfl,show τ.length+1=6+n.ay k by omega,show τ.length+2=7+n.ay k by omega,show τ.length+3+1=9+n.ay k by omega,show τ.length+3+2=10+n.ay k by omega]
     .dsimp only
      rw[akj];simp only[bQ,aY,bX,dg];omega
     .dsimp only
      simp(disch:=((try simp only[bQ,aY,bX,dg]);omega)) only[aK,fV]
      rw[d 0 (by omega)];exact y
    .rw[show cE (6+n.ay k) s = .sl (6+n.ay k) s 0 s from aa w,show cE (7+n.ay k) s = .sl (7+n.ay k) s 0 s from aa w,show cE (9+n.ay k) s = .sl (9+n.ay k) s 0 s from aa w,show cE (10+n.ay k) s = .sl (10+n.ay k) s 0 s from aa w]at l
     have o:=BW (k:=n.ay k) w;have lk:∀q:Kd,ak τ (fp (n.ay k) (.ls q))=some (BX n k q s):=λq=>(d _ (by cases q<;>simp[fp]<;>omega)).trans (x.has (.ls q) _ (RE w))
     have I:ak τ (10+n.ay k)=some (J9 n k s):=(d _ (by omega)).trans (x.has .po _ (RF w))
     have b6:ak τ (6+n.ay k)=some (BX n k .cl s):=lk .cl;have b7:ak τ (7+n.ay k)=some (BX n k .ps s):=lk .ps;have b9:ak τ (9+n.ay k)=some (BX n k .aH s):=lk .aH;have U:=vI (τ:=τ) (i:=2) (by omega)
     have a6:=vI (τ:=τ) (i:=6+n.ay k) (by omega)
     have a7:=vI (τ:=τ) (i:=7+n.ay k) (by omega)
     have a9:=vI (τ:=τ) (i:=9+n.ay k) (by omega)
     have W:=vI (τ:=τ) (i:=10+n.ay k) (by omega)
     have V:=RK (τ:=τ) (i:=2) (by omega)
     have n1:=mW (i:=6+n.ay k) (j:=7+n.ay k) (by omega)
     have n2:=mW (i:=6+n.ay k) (j:=2) (by omega)
     have n3:=mW (i:=7+n.ay k) (j:=2) (by omega)
     have n4:=mW (i:=6+n.ay k) (j:=9+n.ay k) (by omega)
     have n5:=mW (i:=7+n.ay k) (j:=9+n.ay k) (by omega)
     have n6:=mW (i:=2) (j:=9+n.ay k) (by omega)
     have n7:=mW (i:=6+n.ay k) (j:=10+n.ay k) (by omega)
     have n8:=mW (i:=7+n.ay k) (j:=10+n.ay k) (by omega)
     have n9:=mW (i:=9+n.ay k) (j:=10+n.ay k) (by omega)
     have X:=mW (i:=2) (j:=10+n.ay k) (by omega)
     have Y:=mW (i:=9+n.ay k) (j:=2) (by omega)
     have Z:=mW (i:=10+n.ay k) (j:=2) (by omega)
     unfold BX at b6 b7 b9;unfold J9 at I;simp[-ag,-List.map_replicate,l,U,a6,a7,a9,W,V,Nat.le_add_right_of_le,n1,n2,n3,n4,n5,n6,n7,n8,n9,X,Y,Z,b6,b7,b9,I,bQ];refine⟨by omega,by omega,by omega,by omega,by omega,az (s+1,_) (by simp) rfl ⟨by dsimp only;omega,RI x (λt B M t2 o=>?_) (λq=>?_) ?_ ?_ ?_ ?_ ?_ (λg H=>?_),?_,?_,?_⟩ (by dsimp only;omega)⟩
     .have f1:=x.lt o
      have f2:=(IG (oz o)).1;have f6:fp (n.ay k) t ≠ 6+n.ay k:=λe=>M .cl (vG (oz o) trivial e);have f7:fp (n.ay k) t ≠ 7+n.ay k:=λe=>M .ps (vG (oz o) trivial e);have f9:fp (n.ay k) t ≠ 9+n.ay k:=λe=>M .aH (vG (oz o) trivial e);have f10:fp (n.ay k) t ≠ 10+n.ay k:=λe=>t2 (vG (oz o) trivial e);have:=x.has t B o;rw[<-d _ f1]at this;simp(disch:=((try simp only[bQ,aY,bX,dg]);omega)) only[aK,fV]
      exact this
     .rw[C6]
      cases q
      .rw[show fp (n.ay k) (.ls .cl)=6+n.ay k from rfl]
       simp(disch:=((try simp only[bQ,aY,bX,dg]);omega)) only[aK,fV]
       rw[cv (by simp only[bQ,aY,bX,dg];try omega),show τ.length=fp (n.ay k) (.rw .cl s)by simp[fp];omega];rfl
      .rw[show fp (n.ay k) (.ls .ps)=7+n.ay k from rfl]
       simp(disch:=((try simp only[bQ,aY,bX,dg]);omega)) only[aK,fV]
       rw[cv (by simp only[bQ,aY,bX,dg];try omega),hlen,ec];rfl
      .rw[show fp (n.ay k) (.ls .aH)=9+n.ay k from rfl]
       simp(disch:=((try simp only[bQ,aY,bX,dg]);omega)) only[aK,fV]
       rw[cv (by simp only[bQ,aY,bX,dg];try omega),show τ.length+1=fp (n.ay k) (.rw .aH s)by simp[fp,w];omega];rfl
     .rw[C7,show fp (n.ay k) .po=10+n.ay k from rfl]
      simp(disch:=((try simp only[bQ,aY,bX,dg]);omega)) only[aK,fV]
      rw[cv (by simp only[bQ,aY,bX,dg];try omega),hlen];rfl
     .rw[show fp (n.ay k) (.rw .cl s)=τ.length by simp[fp];omega]
      simp(disch:=((try simp only[bQ,aY,bX,dg]);omega)) only[aK,fV]
      exact gJ
     .rw[show fp (n.ay k) (.rw .ps s)=σ.length by rw[hlen];rfl]
      simp(disch:=((try simp only[bQ,aY,bX,dg]);omega)) only[aK,fV]
      rw[J,ec]
     .rw[show fp (n.ay k) (.rw .aH s)=τ.length+1 by simp[fp,w];omega]
      simp(disch:=((try simp only[bQ,aY,bX,dg]);omega)) only[aK]
      rw[BY (m:=0) (by simp only[bQ,aY,bX,dg];try omega)]
     .rw[show fp (n.ay k) (.pr s)=σ.length+1 by rw[hlen];rfl]
      simp(disch:=((try simp only[bQ,aY,bX,dg]);omega)) only[aK,fV]
      rw[E,RM (s:=s) (by rw[hlen])]
     .rw[show fp (n.ay k) (.pg s g)=σ.length+2+g by rw[hlen];rfl]
      simp(disch:=((try simp only[bQ,aY,bX,dg]);omega)) only[aK,fV]
      exact K g H
     .dsimp only
      rw[cv (by simp only[bQ,aY,bX,dg];try omega),vH]
      rfl
     .dsimp only
      rw[akk w];simp only[bQ,aY,bX,dg];omega
     .dsimp only
      simp(disch:=((try simp only[bQ,aY,bX,dg]);omega)) only[aK,fV]
      rw[d 0 (by omega)];exact y
 .have es:s=k:=by omega
  subst es;rw[vH]at u;have hna:∀b m:Nat,du (cE b m)=true:=λb m=>by unfold cE;split<;>rfl
  have C:∀B:ah,ak (ar σ 0 B) 0=some B:=λB=>cv (by rw[hlen];unfold fB;split<;>omega)
  have Aa:=λ(ce:CE) (c0 c1 c2 c3 c4 c5 c6 c7 c8 c9:AV)=>qD (ce:=ce) (σ:=ar σ 0 ⟨some 10,[c0,c1,c2,c3,c4,c5,c6,c7,c8,c9],.live⟩) (n:=0) (C _);simp[-ag,u,y,hna,C,Aa];exact⟨vH.symm,x.other λt B o=>aK (Ne.symm (IG (oz o)).2)⟩
abbrev gN:=Int×Int×List Int
def lK (c:gN):AV:=.agg [.int c.1,.int c.2.1,iL c.2.2]
abbrev Ka (l:List gN):AV:=.au false (l.map lK)
structure UQ (D:Vd) (cls:List Int) (l:List gN):Prop where
 vn:jr D
 vo:rW D
 k:1<=l.length/\l.length<=128
 kc:l.length*D.n.calls.toNat<=128
 cl:cls.length=D.K.length
 cr:∀c∈cls,0<=c/\c<(l.length:Int)
 v:∀c∈l,0<=c.2.1/\c.2.1<(D.K.length:Int)
 c:∀c∈l,0<=c.1/\c.1<(l.length:Int)
 nd:(l.map λc=>c.1).Nodup
 s0:D.n.start<(D.plc.length:Int)
 s1:0<=D.ij/\D.ij<(D.n.aZ.length:Int)
def vJ (l:List gN) (i:Nat):Int:=(ix l (i:Int)).2.1
def uB (l:List gN) (i:Nat):Int:=(ix l (i:Int)).1
def UR (st cls:List Int) (y:Int):Int:=ix st (ix cls y)
def tO (D:Vd) (cls:List Int) (l:List gN) (st:List Int) (i g r:Nat):Int:=if D.n.calls.toNat=0 then 0 else UR st cls (D.bk (vJ l (g/D.n.calls.toNat)) ((g%D.n.calls.toNat:Nat):Int) (vJ l i) (r:Int))
def BZ (D:Vd) (cls:List Int) (l:List gN) (st:List Int) (i j:Nat):Int:=UR st cls (D.im (vJ l i) (j:Int))
structure lS (D:Vd) (cls:List Int) (l:List gN) (st:List Int) (a s J G R:Nat) (A:al):Prop where
 h1:A.calls=D.n.calls
 h2:A.af=D.n.af
 h3:A.aj=D.n.aj
 h4:A.stack=((D.n.ay l.length:Nat):Int)
 h5:A.start=0
 h6:A.call=(D.n.dH l.length l.length).call
 h7:A.push=(D.n.dH l.length l.length).push
 la:A.accept.length=l.length
 li:A.inner.length=l.length
 ph:∀i,i<l.length->(A.bp .aH i).length=D.n.af.toNat
 lp:A.pop.length=l.length
 mq:∀i,i<l.length->(A.bt i).length=D.n.ay l.length
 pj:∀i g,i<l.length->g<D.n.ay l.length->(A.cx i g).length=D.n.aj.toNat
 ac:∀i:Nat,i<l.length->ix A.accept (i:Int)=if i<a then D.ac D.ij (vJ l i)else false
 aH:∀i j:Nat,i<l.length->j<D.n.af.toNat->ix (A.bp .aH i) (j:Int)=if i<s\/i=s/\j<J then BZ D cls l st i j else 0
 pop:∀i g r:Nat,i<l.length->g<D.n.ay l.length->r<D.n.aj.toNat->ix (A.cx i g) (r:Int)=if i<s\/i=s/\(g<G\/g=G/\r<R)then tO D cls l st i g r else 0
variable{cls st:List Int}{l:List gN}
theorem RO:lS D cls l st 0 0 0 0 0 (D.n.dH l.length l.length):=by
 refine⟨rfl,rfl,rfl,rfl,rfl,rfl,rfl,by simp[al.dH],by simp[al.dH],λi a=>by rw[IE a];rfl,mm,λi a=>by rw[(ki a).2.2.2];simp,λi g a b=>by rw[tN a b];simp,λi a=>?_,λi j a d=>?_,λi g r a b e=>?_⟩
 .rw[aa (by omega)];exact kJ a
 .rw[aa (by omega),(ki a).2.2.1];exact kJ d
 .rw[aa (by omega),tN a b];exact kJ e
variable{J R:Nat}{A:al}
theorem lS.bM{s G:Nat}(h:lS D cls l st a s J G R A) (U:l.length ≠ 0) (p:Tn->Nat):A.bM p=[.int D.n.calls,.int D.n.af,.int D.n.aj,.int ((D.n.ay l.length:Nat):Int),.int 0,.sl (p .ac) l.length 0 l.length,.sl (p (.ls .cl)) l.length 0 l.length,.sl (p (.ls .ps)) l.length 0 l.length,.sl (p (.ls .aH)) l.length 0 l.length,.sl (p .po) l.length 0 l.length]:=by
 have V:A.call.length=l.length:=by rw[h.h6];exact ml .cl
 have e2:A.push.length=l.length:=by rw[h.h7];exact ml .ps
 unfold al.bM cE;rw[h.h1,h.h2,h.h3,h.h4,h.h5,h.la,V,e2,h.li,h.lp,aa U,aa U,aa U,aa U]
theorem lS.mh{s G:Nat}(h:lS D cls l st s s J G R A) (V:s<l.length):lS D cls l st (s+1) s J G R {A with accept:=A.accept.set s (D.ac D.ij (vJ l s))}:=by
 refine⟨h.h1,h.h2,h.h3,h.h4,h.h5,h.h6,h.h7,by simp[h.la],h.li,h.ph,h.lp,h.mq,h.pj,λi hi=>?_,h.aH,h.pop⟩
 show ix (A.accept.set s _) (i:Int)=_;rw[iD (by rw[h.la];exact V)]
 by_cases e:i=s
 .rw[ab e,ab (by omega),e]
 .rw[aa e,h.ac i hi]
  by_cases U:i<s
  .rw[ab U,ab (by omega)]
  .rw[aa U,aa (by omega)]
theorem lS.mi{s G:Nat}(h:lS D cls l st a s J G R A) (hs:s<l.length) (hJ:J<D.n.af.toNat):lS D cls l st a s (J+1) G R {A with inner:=A.inner.set s ((A.bp .aH s).set J (BZ D cls l st s J))}:=by
 have U:∀s' : Nat,al.bp {A with inner:=A.inner.set s ((A.bp .aH s).set J (BZ D cls l st s J))} .aH s' = if s' = s then(A.bp .aH s).set J (BZ D cls l st s J)else A.bp .aH s' :=λs' =>iD (by rw[h.li];exact hs) s'
 refine⟨h.h1,h.h2,h.h3,h.h4,h.h5,h.h6,h.h7,h.la,by simp[h.li],λi hi=>?_,h.lp,h.mq,h.pj,h.ac,λi j hi hj=>?_,h.pop⟩
 .rw[U]
  split
  .rw[mN];exact h.ph s hs
  .exact h.ph i hi
 .rw[U]
  by_cases e:i=s
  .rw[ab e,iD (by rw[h.ph s hs];exact hJ)]
   by_cases e2:j=J
   .rw[ab e2,ab (.inr ⟨e,by omega⟩),e,e2]
   .subst e
    rw[aa e2,h.aH i j hi hj]
    by_cases V:j<J
    .rw[ab (.inr ⟨rfl,V⟩),ab (.inr ⟨rfl,by omega⟩)]
    .rw[aa (by omega),aa (by omega)]
  .rw[aa e,h.aH i j hi hj]
   by_cases V:i<s
   .rw[ab (.inl V),ab (.inl V)]
   .rw[aa (by omega),aa (by omega)]
theorem lS.mj{s G:Nat}(h:lS D cls l st a s J G R A) (hs:s<l.length) (hG:G<D.n.ay l.length) (hR:R<D.n.aj.toNat):lS D cls l st a s J G (R+1) {A with pop:=A.pop.set s ((A.bt s).set G ((A.cx s G).set R (tO D cls l st s G R)))}:=by
 have U:∀s' : Nat,al.bt {A with pop:=A.pop.set s ((A.bt s).set G ((A.cx s G).set R (tO D cls l st s G R)))} s' = if s' = s then(A.bt s).set G ((A.cx s G).set R (tO D cls l st s G R))else A.bt s' :=λs' =>iD (by rw[h.lp];exact hs) s'
 have V:∀s' g' : Nat,al.cx {A with pop:=A.pop.set s ((A.bt s).set G ((A.cx s G).set R (tO D cls l st s G R)))} s' g' = if s' = s/\g' = G then(A.cx s G).set R (tO D cls l st s G R)else A.cx s' g' :=λs' g' =>by
  generalize (A.cx s G).set R (tO D cls l st s G R)=w at *;unfold al.cx;rw[U]
  by_cases e:s' = s
  .rw[ab e,iD (by rw[h.mq s hs];exact hG)]
   by_cases e2:g' = G
   .rw[ab e2,ab ⟨e,e2⟩]
   .rw[aa e2,aa λa=>e2 a.2,e]
  .rw[aa e,aa λa=>e a.1]
 refine⟨h.h1,h.h2,h.h3,h.h4,h.h5,h.h6,h.h7,h.la,h.li,h.ph,by simp[h.lp],λi hi=>?_,λi g hi hg=>?_,h.ac,h.aH,λi g r hi hg hr=>?_⟩
 .rw[U]
  split
  .rw[mN];exact h.mq s hs
  .exact h.mq i hi
 .rw[V]
  split
  .rw[mN];exact h.pj s G hs hG
  .exact h.pj i g hi hg
 .rw[V]
  by_cases e:i=s/\g=G
  .rw[ab e,iD (by rw[h.pj s G hs hG];exact hR)]
   by_cases e2:r=R
   .rw[ab e2,ab (.inr ⟨e.1,.inr ⟨e.2,by omega⟩⟩),e.1,e.2,e2]
   .have hp:=h.pop s G r hs hG hr
    rw[aa e2,hp,e.1,e.2]
    by_cases e3:r<R
    .rw[ab (.inr ⟨rfl,.inr ⟨rfl,e3⟩⟩),ab (.inr ⟨rfl,.inr ⟨rfl,by omega⟩⟩)]
    .rw[aa (by omega),aa (by omega)]
  .rw[aa e,h.pop i g r hi hg hr]
   by_cases e3:i<s\/i=s/\(g<G\/g=G/\r<R)
   .rw[ab e3,ab (by omega)]
   .rw[aa e3,aa (by omega)]
theorem lS.yJ{s G:Nat}(h:lS D cls l st a s J G D.n.aj.toNat A):lS D cls l st a s J (G+1) 0 A:=by
 refine⟨h.h1,h.h2,h.h3,h.h4,h.h5,h.h6,h.h7,h.la,h.li,h.ph,h.lp,h.mq,h.pj,h.ac,h.aH,λi g r hi V hr=>?_⟩;rw[h.pop i g r hi V hr]
 by_cases U:i<s\/i=s/\(g<G\/g=G/\r<D.n.aj.toNat)
 .rw[ab U,ab (by omega)]
 .rw[aa U,aa (by omega)]
theorem lS.yK{s:Nat}(h:lS D cls l st (s+1) s D.n.af.toNat (l.length*D.n.calls.toNat) 0 A):lS D cls l st (s+1) (s+1) 0 0 0 A:=by
 refine⟨h.h1,h.h2,h.h3,h.h4,h.h5,h.h6,h.h7,h.la,h.li,h.ph,h.lp,h.mq,h.pj,h.ac,λi j hi V=>?_,λi g r hi hg hr=>?_⟩
 .rw[h.aH i j hi V]
  by_cases U:i<s\/i=s/\j<D.n.af.toNat
  .rw[ab U,ab (by omega)]
  .rw[aa U,aa (by omega)]
 .rw[h.pop i g r hi hg hr]
  by_cases hc:D.n.calls.toNat=0
  .have:tO D cls l st i g r=0:=ab hc
   rw[this];simp
  .have jo:D.n.ay l.length=max 1 (l.length*D.n.calls.toNat):=rfl
   have:1<=l.length*D.n.calls.toNat:=Nat.mul_pos (by omega) (by omega)
   by_cases U:i<s\/i=s/\(g<l.length*D.n.calls.toNat\/g=l.length*D.n.calls.toNat/\r<0)
   .rw[ab U,ab (by omega)]
   .rw[aa U,aa (by omega)]
def r6 (D:Vd) (cls:List Int) (l:List gN) (st:List Int):al:=⟨D.n.calls,D.n.af,D.n.aj,((D.n.ay l.length:Nat):Int),0,(List.range l.length).map λi=>D.ac D.ij (vJ l i),(D.n.dH l.length l.length).call,(D.n.dH l.length l.length).push,(List.range l.length).map λi=>(List.range D.n.af.toNat).map λj=>BZ D cls l st i j,(List.range l.length).map λi=>(List.range (D.n.ay l.length)).map λg=>(List.range D.n.aj.toNat).map λr=>tO D cls l st i g r⟩
theorem mX{a:Type} [Inhabited a]{l:List a}{f:Nat->a}(b:l.length=k) (h:∀i:Nat,i<k->ix l (i:Int)=f i):l=(List.range k).map f:=by
 refine jJ (by simp[b]) λi d e=>?_
 have:=h i (by omega)
 rw[aG d]at this;simp[this]
theorem lS.fin(h:lS D cls l st l.length l.length 0 0 0 A):A=r6 D cls l st:=by
 obtain⟨c,i,r,sk,s0,ac,cl,ps,aH,po⟩:=A;have e1:c=D.n.calls:=h.h1;have e2:i=D.n.af:=h.h2;have e3:r=D.n.aj:=h.h3;have e4:sk=((D.n.ay l.length:Nat):Int):=h.h4;have e5:s0=0:=h.h5;have e6:cl=(D.n.dH l.length l.length).call:=h.h6;have e7:ps=(D.n.dH l.length l.length).push:=h.h7;have e8:ac=(List.range l.length).map λi=>D.ac D.ij (vJ l i):=mX h.la λi hi=>by
  have:=h.ac i hi;rw[ab hi]at this;exact this
 have e9:aH=(List.range l.length).map λi=>(List.range D.n.af.toNat).map λj=>BZ D cls l st i j:=mX h.li λi hi=>mX (h.ph i hi) λj hj=>by
  have:=h.aH i j hi hj;rw[ab (.inl hi)]at this;exact this
 have U:po=(List.range l.length).map λi=>(List.range (D.n.ay l.length)).map λg=>(List.range D.n.aj.toNat).map λr=>tO D cls l st i g r:=mX h.lp λi hi=>mX (h.mq i hi) λg V=>mX (h.pj i g hi V) λr hr=>by
  have:=h.pop i g r hi V hr;rw[ab (.inl hi)]at this;exact this
 rw[e1,e2,e3,e4,e5,e6,e7,e8,e9,U];rfl
end Ab
