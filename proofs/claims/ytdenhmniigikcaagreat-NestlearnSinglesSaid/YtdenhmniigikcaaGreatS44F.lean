/- The rank of a word, and first words; and what it leans on. Condition: none. -/
import Derived.Test.YtdenhmniigikcaaGreatN43Word
import Derived.Test.YtdenhmniigikcaaGreatN44P
import Derived.Test.YtdenhmniigikcaaGreatN44Y
set_option linter.all false
set_option maxRecDepth 100000
set_option maxHeartbeats 4000000
namespace Ab
def dS:List Int->Nat
 | []=>0
 |x::w=>(x.toNat+1)*65^w.length+dS w
def sy (w:List Int):Prop:=∀x∈w,0<=x/\x<64
variable{x:Int}
def KK{w:List Int}:sy (x::w)↔(0<=x/\x<64)/\sy w:=by simp[sy]
def vX:∀{w:List Int},sy w->dS w<65^w.length
 | [],_=>by simp[dS]
 |x::w,h=>by
  obtain⟨d,a⟩:=KK.1 h;have e:=vX a;have b:x.toNat+1<=64:=aa
  have:(x.toNat+1)*65^w.length<=64*65^w.length:=lr _ b;rw[cO,Nat.pow_succ,dS];omega
def Uq{w:List Int}:65^w.length<=dS (x::w):=by
 rw[dS];have:1*65^w.length<=(x.toNat+1)*65^w.length:=lr _ aa
 omega
variable{u v:List Int}
def KL(a:sy u) (h:u.length<v.length):dS u<dS v:=by
 cases v with
 |nil=>simp at h
 |cons y v=>
  have b:=vX a;have d:=Uq (x:=y) (w:=v);have e:65^u.length<=65^v.length:=Nat.pow_le_pow_right aa (by simpa using Nat.le_of_lt_succ h)
  omega
def xr(a:sy v) (h:dS u<=dS v):u.length<=v.length:=by
 refine dF λb=>?_;have:=KL a (show v.length<u.length by omega)
 omega
def Ur:∀{u v:List Int},sy u->sy v->u.length=v.length->cy u v<0->dS u<dS v
 | [],[],_,_,_,h=>by simp[cy]at h
 | [],_::_,_,_,h,_=>by simp at h
 |_::_,[],_,_,h,_=>by simp at h
 |x::u,y::v,i,j,l,h=>by
  obtain⟨o,g⟩:=KK.1 i;obtain⟨p,m⟩:=KK.1 j;have d : u.length=v.length:=by simpa using l
  unfold cy at h;rw[dS,dS];split at h
  .rename_i n
   have a:=vX g;rw[d]at a ⊢;have:(x.toNat+1+1)*65^v.length<=(y.toNat+1)*65^v.length:=lr _ aa
   rw[fh (x.toNat+1)]at this;omega
  .split at h
   .omega
   .rename_i a b
    have e:x=y:=aa
    subst e;have:=Ur g m d h;rw[d];omega
def KM(a:sy u) (b:sy v) (h:aI u v<0):dS u<dS v:=by
 unfold aI at h;split at h
 .exact KL a jy
 .split at h
  .omega
  .exact Ur a b aa h
def oG(a:sy u) (b:sy v):aI u v<=0↔dS u<=dS v:=by
 constructor
 .intro h
  by_cases e:aI u v=0
  .rw[cC.eq _ _ e];exact bd _
  .exact Nat.le_of_lt (KM a b aa)
 .intro h
  refine dF λd=>?_;have:=cC.fL u v;have:=KM b a aa
  omega
def Us(a:sy u) (b:sy v) (h:dS u=dS v):u=v:=by
 refine cC.eq u v ?_;have d:=(oG a b).2 aa
 have e:=(oG b a).2 aa
 have:=cC.fL u v;omega
def KN:∀{u v:List Int},dS (u++v)=dS u*65^v.length+dS v
 | [],v=>by simp[dS]
 |x::u,v=>by
  rw[jD,dS,dS,KN,aU,Nat.pow_add,fh ((x.toNat+1)*65^u.length),Nat.mul_assoc,Nat.add_assoc]
variable{v': List Int}
def DE{u u' v: List Int}(a:sy v') (b:dS u<=dS u') (d:dS v<=dS v'):dS (u++v)<=dS (u' ++ v'):=by
 rw[KN,KN];have e:=xr a d;have g:65^v.length<=65^v'.length:=Nat.pow_le_pow_right aa e
 have:=jT b g;omega
def ane{v: List Int}(a:sy v') (b:dS v<=dS v'):dS (x::v)<=dS (x::v'):=DE (u:=[x]) (u' :=[x]) a (bd _) b
def u7 (P:List Int->Prop) (w:List Int):Prop:=(P w/\w.length<=1024)/\∀v,P v->dS w<=dS v
variable{P:List Int->Prop}
def anf(i:∀w,P w->sy w):∀{w:List Int},P w->w.length<=1024->∃v,u7 P v:=by
 have:∀(n:Nat) (w:List Int),dS w<=n->P w->∃v,P v/\dS v<=dS w/\∀u,P u->dS v<=dS u:=by
  intro n
  induction n with
  |zero=>exact λw h a=>⟨w,a,bd _,λu _=>aa⟩
  |succ n j=>
   intro w h a
   by_cases e:∃u,P u/\dS u<dS w
   .obtain⟨u,l,o⟩:=e
    obtain⟨v,b,g,d⟩:=j u aa l
    exact⟨v,b,aa,d⟩
   .exact⟨w,a,bd _,λu m=>by
     refine dF λp=>e ⟨u,m,aa⟩⟩
 intro w a q;obtain⟨v,b,g,d⟩:=this _ w (bd _) a;exact⟨v,⟨b,by have:=xr (i w a) g;omega⟩,d⟩
def ang(a:∀w,P w->sy w)(h:u7 P u) (k:u7 P v):u=v:=by
 refine Us (a u h.1.1) (a v k.1.1) ?_;have:=h.2 v k.1.1;have:=k.2 u h.1.1;omega
open Classical in
noncomputable def kG (P:List Int->Prop):Option (List Int):=if h:∃w,u7 P w then some (choose h)else none
def anh{w:List Int}(h:kG P=some w):u7 P w:=by
 unfold kG at h;split at h
 .rename_i a
  injection h with h
  rw[<-h];exact Classical.choose_spec a
 .simp at h
def ani(a:∀w,P w->sy w){w:List Int}(h:u7 P w):kG P=some w:=by
 unfold kG;rw[dif_pos ⟨w,h⟩];exact congrArg some (ang a (Classical.choose_spec (⟨w,h⟩:∃w,u7 P w)) h)
structure fX.Sm (M:fX):Prop where
 ok:M.Ok
 sum:M.calls+M.ak+M.ah<=64
def Wd.sy{M:fX}(hM:M.Sm){s t:Int}{w:List Int}(h:Wd M s t w):Ab.sy w:=λx hx=>by
 have:=(h.run ⟨hM.ok.calls.1,hM.ok.ak.1,hM.ok.ah.1⟩).1 x hx;have:=hM.sum;omega
def Wd.range{M:fX}(hM:M.Ok){s t:Int}{w:List Int}(h:Wd M s t w) (hs:0<=s/\s<(M.size:Int)):0<=t/\t<(M.size:Int):=h.conn.range hM hs
noncomputable def fX.lk (M:fX) (s t:Int):Option (List Int):=kG (Wd M s t)
inductive sx (M:fX):Int->Int->List Int->Prop
 |aQ (s i:Int):0<=i->i<M.ak->sx M s (M.inner s i) [M.calls+i]
 |call (s c p r:Int) (u:List Int):0<=c->c<M.calls->0<=r->r<M.ah->Wd M (M.call s c).1 p u->sx M s (M.pop p (M.call s c).2 r) (c::(u ++ [M.calls+M.ak+r]))
def sx.wd{M:fX}{s t:Int}{w:List Int}(h:sx M s t w):Wd M s t w:=by
 cases h with
 |aQ i h0 h1=>exact .aQ s i _ [] h0 h1 (.nil _)
 |call c p r u h0 h1 h2 h3 h4=>exact .call s c p r _ u [] h0 h1 h2 h3 h4 (.nil _)
def sx.pos{M:fX}{s t:Int}{w:List Int}(h:sx M s t w):1<=w.length:=by
 cases h<;>simp
def sx.then{M:fX}{s p t:Int}{a b:List Int}(h:sx M s p a) (k:Wd M p t b):Wd M s t (a++b):=h.wd.app k
noncomputable def fX.sk (M:fX) (s t:Int):Option (List Int):=kG (sx M s t)
section
variable{M:fX}{s t:Int}{w:List Int}
end
end Ab
namespace Ab
def KO:∀(l:List Int) (F:List Bool),(∀y∈l,0<=y/\y<(F.length:Int))->(∀y:Int,0<=y->(ix (iq l F).2 y=true↔ix F y=true\/y∈l))/\(∀y,y∈(iq l F).1↔y∈l/\ix F y=false)/\(iq l F).1.Nodup
 | [],F,_=>⟨λy _=>by simp[iq],λy=>by simp[iq],by simp[iq]⟩
 |x::l,F,h=>by
  have o:=h x ab
  simp only[iq]
  by_cases e:ix F x=true
  .rw[ae e]
   obtain⟨j,g,m⟩:=KO l F λy n=>h y (by simp[n])
   refine⟨λy d=>?_,λy=>?_,m⟩
   .rw[j y d,b5]
    constructor
    .rintro(a|a)
     .exact .inl a
     .exact .inr (.inr a)
    .rintro(a|rfl|a)
     .exact .inl a
     .exact .inl e
     .exact .inr a
   .rw[g y,b5]
    constructor
    .exact λa=>⟨.inr a.1,a.2⟩
    .rintro⟨rfl|a,b⟩
     .rw[e]at b;simp at b
     .exact⟨a,b⟩
  .rw[ad e]
   have p : ix F x=false:=gC
   obtain⟨j,g,m⟩:=KO l (F.set x.toNat true) λy n=>by simpa using h y (by simp[n])
   have i:∀y:Int,0<=y->ix (F.set x.toNat true) y=if y=x then true else ix F y:=λy d=>by
    rw[r9 aa d]
    by_cases q:y=x
    .rw[ae q,ae aa]
    .rw[ad q,ad aa]
   refine⟨λy d=>?_,λy=>?_,?_⟩
   .show ix (iq l (F.set x.toNat true)).2 y=true↔_
    rw[j y d,i y d,b5]
    by_cases q:y=x
    .simp[q]
    .simp[q]
   .show y∈x::(iq l (F.set x.toNat true)).1↔_
    rw[b5,g y,b5];constructor
    .rintro(rfl|⟨a,b⟩)
     .exact⟨.inl rfl,p⟩
     .have d:=(h y fm).1
      rw[i y d]at b;split at b
      .simp at b
      .exact⟨.inr a,b⟩
    .rintro⟨rfl|a,b⟩
     .exact .inl rfl
     .by_cases q:y=x
      .exact .inl q
      .have d:=(h y fm).1
       exact .inr ⟨a,by rw[i y d,ad q];exact b⟩
   .show(x::(iq l (F.set x.toNat true)).1).Nodup
    rw[nj];refine⟨λr=>?_,m⟩;have:=((g x).1 r).2;rw[i x o.1,ae rfl]at this;simp at this
variable{D:Vd}{x:Int}
def Dv.sy(h:j9 D) (hs:D.n.calls+D.n.ak+D.n.ah<=64){w:List Int}(hd:Dv D x w):Ab.sy w:=λa ha=>by
 have:=hd.sym h a ha;omega
variable{z:Int}
def Ut(h:j9 D) (d:D.n.calls+D.n.ak+D.n.ah<=64){w:List Int}(hd:Dv D z w):∃v,lh D z v/\v.length<=w.length:=by
 have:∀(n:Nat) (w:List Int),dS w<=n->Dv D z w->∃v,Dv D z v/\dS v<=dS w/\∀u,Dv D z u->dS v<=dS u:=by
  intro n
  induction n with
  |zero=>exact λw h e=>⟨w,e,bd _,λu _=>aa⟩
  |succ n l=>
   intro w h e
   by_cases i:∃u,Dv D z u/\dS u<dS w
   .obtain⟨u,m,o⟩:=i
    obtain⟨v,a,j,g⟩:=l u aa m
    exact⟨v,a,aa,g⟩
   .exact⟨w,e,bd _,λu b=>by
     refine dF λp=>i ⟨u,b,aa⟩⟩
 obtain⟨v,a,j,g⟩:=this _ w (bd _) hd;exact⟨v,⟨a,λu b=>(oG (a.sy h d) (b.sy h d)).2 (g u b)⟩,xr (hd.sy h d) j⟩
structure Sr (D:Vd) (n:Nat) (S:Fd):Prop where
 w:mC S
 l:S.W.length=D.K.length
 dv:∀z w,0<=z->z<(S.W.length:Int)->ix S.W z=some w->Dv D z w
 bk:∀z w,0<=z->z<(S.W.length:Int)->ix S.F z=false->ix S.W z=some w->z∈S.dR w.length
 fd:∀z,0<=z->z<(S.W.length:Int)->(ix S.F z=true↔∃w,lh D z w/\w.length<n)
 lw:∀z w,lh D z w->w.length<n->ix S.W z=some w
 nd:∀y∈S.N,(0<=y/\y<(S.W.length:Int))/\ix S.F y=true
 nn:S.N.Nodup
 o0:re S 0 []
 oi:∀x∈S.N,∀wx,lh D x wx->∀i,0<=i->i<D.n.ak->re S (D.im x i) (wx ++ [D.n.calls+i])
 ob:∀x∈S.N,∀y∈S.N,∀wx wy,lh D x wx->lh D y wy->∀c r,0<=c->c<D.n.calls->0<=r->r<D.n.ah->re S (D.bk x c y r) (wx++c::(wy ++ [D.n.calls+D.n.ak+r]))
def XQ (S:Fd):Prop:=∀z:Int,0<=z->z<(S.W.length:Int)->ix S.F z=true->z∈S.N
variable{S:Fd}
def Sr.C9(hD:j9 D){n:Nat}(h:Sr D n S) (ha:XQ S) (hn:n<=1024){t:List Int}(ht:lh D z t) (hl:t.length=n):ix S.W z=some t/\ix S.F z=false:=by
 have hz:=ht.1.eV hD;have hf:ix S.F z=false:=by
  cases e:ix S.F z with
  |false=>rfl
  |true=>
   obtain⟨w,hw,cm⟩:=(h.fd z hz.1 (by rw[h.l];exact hz.2)).1 e
   rw[hw.oN ht]at cm;omega
 refine⟨?_,hf⟩;have mem:∀{x w},lh D x w->w.length<n->x∈S.N:=fun {x w} hx cm=>by
  have:=hx.1.eV hD;exact ha x this.1 (by rw[h.l];exact this.2) ((h.fd x this.1 (by rw[h.l];exact this.2)).2 ⟨w,hx,cm⟩)
 have ho:re S z t:=by
  rcases ht.made with⟨rfl,rfl⟩|⟨x,i,w,i0,i1,hx,rfl,rfl⟩|⟨x,c,y,r,w,u,c0,c1,r0,r1,hx,hy,rfl,rfl⟩
  .exact h.o0
  .simp at hl
   exact h.oi x (mem hx aa) w hx i i0 i1
  .simp at hl
   exact h.ob x (mem hx aa) y (mem hy aa) w u hx hy c r c0 c1 r0 r1
 rcases ho with a|a|⟨v,a,b⟩
 .omega
 .rw[hf]at a;simp at a
 .have h1:=ht.2 v (h.dv z v hz.1 (by rw[h.l];exact hz.2) a)
  have h2:=cC.fL v t;rw[a,cC.eq v t aa]
def Sr.take(hD:j9 D) (hs:D.n.calls+D.n.ak+D.n.ah<=64){n:Nat}(h:Sr D n S) (ha:XQ S) (hn:n<=1024):Sr D (n+1) {S with F:=(iq (S.dR n) S.F).2}/\(∀x,x∈(iq (S.dR n) S.F).1↔∃w,lh D x w/\w.length=n)/\(iq (S.dR n) S.F).1.Nodup:=by
 have hr:∀y∈S.dR n,0<=y/\y<(S.F.length:Int):=λy hy=>by
  have:=(h.w.bm n y hy).1;rw[h.w.f];exact this
 obtain⟨t1,t2,t3⟩:=KO (S.dR n) S.F hr;have qw:∀x,x∈(iq (S.dR n) S.F).1↔∃w,lh D x w/\w.length=n:=λx=>by
  rw[t2 x];constructor
  .rintro⟨hb,hf⟩
   obtain⟨⟨x0,x1⟩,w,hw,KP⟩:=h.w.bm n x hb;obtain⟨v,hv,xR⟩:=Ut hD hs (h.dv x w x0 x1 hw);refine⟨v,hv,dF λhc=>?_⟩;rw[(h.fd x x0 x1).2 ⟨v,hv,aa⟩]at hf
   simp at hf
  .rintro⟨w,hw,hl⟩
   obtain⟨a,b⟩:=h.C9 hD ha hn hw hl;have:=hw.1.eV hD;have:=h.bk x w this.1 (by rw[h.l];exact this.2) b a
   rw[hl]at this;exact⟨this,b⟩
 have mono:∀z:Int,0<=z->ix S.F z=true->ix (iq (S.dR n) S.F).2 z=true:=λz z0 a=>(t1 z z0).2 (.inl a);have KQ:∀z t,0<=z->re S z t->re {S with F:=(iq (S.dR n) S.F).2} z t:=λz t z0 a=>by
  rcases a with a|a|a
  .exact .inl a
  .exact .inr (.inl (mono z z0 a))
  .exact .inr (.inr a)
 refine⟨⟨⟨by show(iq (S.dR n) S.F).2.length=_;rw[(Ah _ _).1];exact h.w.f,h.w.r,h.w.n,h.w.nd,h.w.bm,h.w.wl⟩,h.l,h.dv,λz w z0 z1 hf hw=>?_,λz z0 z1=>?_,λz w hw hl=>?_,λy hy=>⟨(h.nd y hy).1,mono y (h.nd y hy).1.1 (h.nd y hy).2⟩,h.nn,KQ 0 [] aa h.o0,λx hx wx vW i i0 i1=>?_,λx hx y hy wx wy vW xq c r c0 c1 r0 r1=>?_⟩,qw,t3⟩
 .refine h.bk z w z0 z1 ?_ hw
  cases e:ix S.F z with
  |false=>rfl
  |true=>
   have:=mono z z0 e;rw[show ix (iq (S.dR n) S.F).2 z=false from hf]at this;simp at this
 .show ix (iq (S.dR n) S.F).2 z=true↔_
  rw[t1 z z0];constructor
  .intro a
   by_cases e:ix S.F z=true
   .obtain⟨w,hw,hl⟩:=(h.fd z z0 z1).1 e
    exact⟨w,hw,aa⟩
   .rcases a with a|a
    .exact absurd a e
    .obtain⟨w,hw,hl⟩:=(qw z).1 ((t2 z).2 ⟨a,gC⟩)
     exact⟨w,hw,aa⟩
  .rintro⟨w,hw,hl⟩
   by_cases e:w.length=n
   .exact .inr ((t2 z).1 ((qw z).2 ⟨w,hw,e⟩)).1
   .exact .inl ((h.fd z z0 z1).2 ⟨w,hw,aa⟩)
 .by_cases e:w.length=n
  .exact(h.C9 hD ha hn hw e).1
  .exact h.lw z w hw aa
 .have b:=(Dv.aQ x i wx i0 i1 vW.1).eV hD
  exact KQ _ _ b.1 (h.oi x hx wx vW i i0 i1)
 .have b:=(Dv.aq x c y r wx wy c0 c1 r0 r1 vW.1 xq.1).eV hD
  exact KQ _ _ b.1 (h.ob x hx y hy wx wy vW xq c r c0 c1 r0 r1)
variable{m:Nat}
def Sr.push(hD:j9 D)(h:Sr D m S){x:Nat}(hx:x<D.K.length) (hf:ix S.F (x:Int)=true) (Uk:(x:Int)∉S.N):Sr D m (Fd.ext D x {S with N:=S.N ++ [(x:Int)]})/\(Fd.ext D x {S with N:=S.N ++ [(x:Int)]}).N=S.N ++ [(x:Int)]/\(Fd.ext D x {S with N:=S.N ++ [(x:Int)]}).F=S.F/\(∃wx,ix S.W (x:Int)=some wx)/\∀y∈S.N ++ [(x:Int)],(0<=y/\y<(D.K.length:Int))/\ix S.F y=true/\∃w,ix S.W y=some w:=by
 have SG:mC {S with N:=S.N ++ [(x:Int)]}:=⟨h.w.f,h.w.r,h.w.n,h.w.nd,h.w.bm,h.w.wl⟩
 have XR:∀y:Int,0<=y->y<(D.K.length:Int)->ix S.F y=true->∃w,ix S.W y=some w/\lh D y w:=λy y0 y1 hy=>by
  obtain⟨w,hw,hl⟩:=(h.fd y y0 (by rw[h.l];exact y1)).1 hy
  exact⟨w,h.lw y w hw hl,hw⟩
 obtain⟨wx,vW,lx⟩:=XR x aa aa hf
 have hN:∀y∈S.N ++ [(x:Int)],(0<=y/\y<(D.K.length:Int))/\ix S.F y=true:=λy hy=>by
  rcases cY.1 hy with hy|hy
  .have:=h.nd y hy
   rw[h.l]at this;exact this
  .simp at hy
   subst hy;exact⟨aa,hf⟩
 obtain⟨M,e1,e2⟩:=Mo.ext hD (S:={S with N:=S.N ++ [(x:Int)]}) SG h.l hx vW lx.1 λy hy=>by
  obtain⟨a,b⟩:=hN y hy;obtain⟨w,hw,lw⟩:=XR y a.1 a.2 b;exact⟨a,b,w,hw,lw.1⟩
 generalize Fd.ext D x {S with N:=S.N ++ [(x:Int)]}=T at *
 have hl:T.W.length=S.W.length:=M.k.l;have hF:T.F=S.F:=M.k.f;have Uu:T.N=S.N ++ [(x:Int)]:=M.k.n;have KQ:∀z t,0<=z->z<(D.K.length:Int)->re S z t->re T z t:=λz t z0 z1 a=>M.o z t z0 (by show z<(S.W.length:Int);rw[h.l];exact z1) a
 refine⟨⟨M.k.w,by rw[hl,h.l],λz w z0 z1=>M.dv h.dv z w z0 (by rw[hl]at z1;exact z1),λz w z0 z1=>M.bk h.bk z w z0 (by rw[hl]at z1;exact z1),λz z0 z1=>by rw[hF];exact h.fd z z0 (by rw[hl]at z1;exact z1),λz w hw cm=>?_,λy hy=>?_,?_,KQ 0 [] aa aa h.o0,λy hy wy xq i i0 i1=>?_,λy hy u hu wy wu xq XS c r c0 c1 r0 r1=>?_⟩,Uu,hF,⟨wx,vW⟩,λy hy=>?_⟩
 .have b:=hw.1.eV hD
  rw[M.k.k z b.1 ((h.fd z b.1 (by rw[h.l];exact b.2)).2 ⟨w,hw,cm⟩)]
  exact h.lw z w hw cm
 .rw[Uu]at hy
  rw[hF,hl,h.l];exact hN y hy
 .rw[Uu,rO]
  exact⟨h.nn,ab,λa ha b hb=>by simp at hb;subst hb;exact λe=>Uk (e▸ha)⟩
 .have b:=(Dv.aQ y i wy i0 i1 xq.1).eV hD
  rw[Uu]at hy;rcases cY.1 hy with hy|hy
  .exact KQ _ _ b.1 b.2 (h.oi y hy wy xq i i0 i1)
  .simp at hy
   subst hy;rw[xq.oN lx];exact e1 i i0 i1
 .have b:=(Dv.aq y c u r wy wu c0 c1 r0 r1 xq.1 XS.1).eV hD
  have wOf:∀y∈S.N ++ [(x:Int)],∀w,lh D y w->ix S.W y=some w:=λy hy w hw=>by
   obtain⟨a,b⟩:=hN y hy;obtain⟨w', XT, lw'⟩:=XR y a.1 a.2 b;rw[XT, lw'.oN hw]
  rw[Uu]at hy hu
  by_cases e:y=x
  .subst e
   rw[xq.oN lx];exact(e2 u hu wu (wOf u hu wu XS) c r c0 c1 r0 r1).1
  .by_cases e' : u=x
   .subst e'
    rw[XS.oN lx];exact(e2 y hy wy (wOf y hy wy xq) c r c0 c1 r0 r1).2
   .have ud : y∈S.N:=by
     rcases cY.1 hy with hy|hy
     .exact hy
     .simp at hy;exact absurd hy e
    have y4 : u∈S.N:=by
     rcases cY.1 hu with hu|hu
     .exact hu
     .simp at hu;exact absurd hu e'
    exact KQ _ _ b.1 b.2 (h.ob y ud u y4 wy wu xq XS c r c0 c1 r0 r1)
 .obtain⟨a,b⟩:=hN y hy
  obtain⟨w,hw,_⟩:=XR y a.1 a.2 b;exact⟨a,b,w,hw⟩
variable{va:AV}{σ τ:List al}
def FS.done{p p' : Tf->Nat}(h:FS S va p σ)(hp:∀t,t ≠ .dn->p' t=p t)
  (h1:aq τ (p .f)=some ⟨some 5,[va,.sl (p .wo) S.W.length 0 S.W.length,.sl (p .fd) S.F.length 0 S.F.length,.sl (p .rd) S.R.length 0 S.R.length,.sl (p' .dn) (S.N.length+1) 0 (S.N.length+1)],.live⟩)
  (h2:aq τ (p' .dn)=some (Zb (S.N ++ [x])))
  (h3:∀t B,t ≠ .f->t ≠ .dn->S.cont va p t=some B->aq τ (p t)=some B)
  (h4:(S.N ≠ []/\p' .dn=p .dn)\/σ.length<=p' .dn):FS {S with N:=S.N ++ [x]} va p' τ:=by
 refine h.step (λt=>t = .f\/t = .dn) (λt ht=>?_) (λt B ht hB=>?_) (λt B ht hB=>h3 t B (λe=>ht (.inl e)) (λe=>ht (.inr e)) hB) (λt B ht hB=>?_) λt u ht hu cm e=>?_
 .have t1:t ≠ .f:=λe=>ht (.inl e)
  have t2:t ≠ .dn:=λe=>ht (.inr e);refine⟨?_,hp t t2⟩;cases t with
  |f=>exact absurd rfl t1
  |dn=>exact absurd rfl t2
  |rd=>
   show some (⟨none,(List.range S.R.length).map λn=>cu (p' (.bk n)) (S.dR n).length,.live⟩:al)=some ⟨none,(List.range S.R.length).map λn=>cu (p (.bk n)) (S.dR n).length,.live⟩;simp only[hp (.bk _) ab]
  |_=>rfl
 .rcases ht with rfl|rfl
  .rw[hp _ ab,h1,<-hB]
   simp[Fd.cont,cu,hp]
  .rw[h2,<-hB]
   simp[Fd.cont]
 .rcases ht with rfl|rfl
  .exact .inl ⟨⟨_,rfl⟩,hp _ ab⟩
  .exact h4.imp (λq=>⟨⟨_,ad q.1⟩,q.2⟩) id
 .have q:=h.lt (t:=.f) rfl
  rcases ht with rfl|rfl
  .rw[hp _ ab]at cm;omega
  .rcases hu with rfl|rfl
   .rw[hp .f ab]at e;omega
   .rfl
def XU:List AV:=List.replicate 1025 .ag
def lR (k:Nat):Fd:=⟨List.replicate k none,List.replicate k false,List.replicate 1025 [],[]⟩
def KR:Tf->Nat
 |.wo=>0
 |.fd=>1
 |.rd=>2
 |.f=>3
 |.dn=>0
 |.bk _=>0
variable{k:Nat}
def Ak{n:Nat}:(lR k).dR n=[]:=by
 show ix (List.replicate 1025 ([]:List Int)) (n:Int)=[]
 by_cases h:n<1025
 .exact lQ h
 .unfold ix
  rw[gD,jg ax];rfl
def Uv:ix (lR k).F z=false:=by
 show ix (List.replicate k false) z=false;unfold ix;rw[gD]
 by_cases h:z.toNat<k
 .rw[db cq];simp
 .rw[jg ax];rfl
def vY:ix (lR k).W z=none:=by
 show ix (List.replicate k (none:Option (List Int))) z=none;unfold ix;rw[gD]
 by_cases h:z.toNat<k
 .rw[db cq];simp
 .rw[jg ax];rfl
def Uw(d:k<=512):mC (lR k):=⟨by simp[lR],by simp[lR],by simpa[lR]using d,λn=>by rw[Ak];simp,λn y a=>by rw[Ak]at a;simp at a,λx w _ _ b=>by rw[vY]at b;simp at b⟩
def Ux{n:Nat}{p:Tf->Nat}:(lR k).cont va p (.bk n)=none:=ad (by rw[Ak];simp)
def sr0(i:j9 D):Sr D 0 ((lR D.K.length).off 0 [])/\XQ ((lR D.K.length).off 0 []):=by
 have q:=Uw i.f.k;have j:(lR D.K.length).W.length=D.K.length:=by simp[lR]
 obtain⟨M,o⟩:=Mo.off (D:=D) q (x:=0) (c:=[]) (by rw[j];exact i.k) .nil
 generalize (lR D.K.length).off 0 []=T at *;have m:∀z,ix T.F z=false:=λz=>by rw[M.k.f];exact Uv
 have b:T.N=[]:=M.k.n;have g:T.W.length=(lR D.K.length).W.length:=M.k.l;exact⟨⟨M.k.w,by rw[g,j],λz w d e=>M.dv (λz w _ _ h=>by rw[vY]at h;simp at h) z w d (by rw[<-g];exact e),λz w d e=>M.bk (λz w _ _ _ h=>by rw[vY]at h;simp at h) z w d (by rw[<-g];exact e),λz d e=>by rw[m];simp,λz w _ h=>aa,λy p=>by rw[b]at p;simp at p,by rw[b];simp,o,λx a=>by rw[b]at a;simp at a,λx a=>by rw[b]at a;simp at a⟩,λz _ _ h=>by rw[m]at h;simp at h⟩
def anj (D:Vd) (Q:j9 D) (hs:D.n.calls+D.n.ak+D.n.ah<=64) :
  LX L Cu [D.vcs.av] [] (λr τ=>∃S:Fd,bP τ false r=some (.bM [b8 (S.W.map λo=>o.getD []),bL S.F])/\Sr D 1025 S):=by
 refine aiY rfl ?_;have sZ:=Q.k;have XV:=Q.f.k;obtain⟨Y,KS⟩:=sr0 Q;have U:FS (lR D.K.length) D.vcs.av KR [⟨none,List.replicate D.K.length .ag,.live⟩,⟨none,List.replicate D.K.length (.bool false),.live⟩,⟨none,XU,.live⟩,⟨some 5,[D.vcs.av,.sl 0 D.K.length 0 D.K.length,.sl 1 D.K.length 0 D.K.length,.sl 2 1025 0 1025,.ag],.live⟩]:=by
  refine⟨λt B d=>?_,λt u A B Z d e=>?_⟩
  .cases t with
   |f=>rw[<-d];simp[lR,KR,aq,Fd.cont,cu]
   |wo=>rw[<-d];simp[lR,KR,aq,Fd.cont,oP]
   |fd=>rw[<-d];simp[lR,KR,aq,Fd.cont]
   |rd=>
    rw[<-d];have:(List.range (lR D.K.length).R.length).map (λn=>cu (KR (.bk n)) ((lR D.K.length).dR n).length)=XU:=by
     simp only[Ak,fe];rw[show(lR D.K.length).R.length=1025 by simp[lR]]
     show(List.range 1025).map (λ_=>AV.ag)=_;rw[List.map_const', ou];rfl
    show some _=some (⟨none,(List.range (lR D.K.length).R.length).map (λn=>cu (KR (.bk n)) ((lR D.K.length).dR n).length),.live⟩:al);rw[this]
   |dn=>simp[Fd.cont,lR]at d
   |bk n=>simp[Fd.cont,Ak]at d
  .cases t<;>cases u<;>first
    |rfl
    |(rw[Ux]at Z;simp at Z;done)
    |(rw[Ux]at d;simp at d;done)
    |(simp[Fd.cont,lR]at Z;done)
    |(simp[Fd.cont,lR]at d;done)
    |(simp[KR]at e;done)
 have hO:=KF (lR D.K.length) U (Uw XV).ok (x:=0) (by simpa[lR]using sZ) [(false,none)] (by simp[ct]) ab (λo ho=>by rw[vY]at ho;simp at ho) false
 obtain⟨r0,Mq,hO,rfl,p0,hp0,I⟩:=dd hO;simp only[cS,List.map_nil,xp]at hO;rw[show ct [(false,none)]=([]:List Int)from rfl]at I;have yT:p0 .f=3:=hp0.1;have J8:List.replicate 1025 AV.ag=XU:=rfl;have zi:∀l:List AV,(AV.agg l).cells=l:=λ_=>rfl;have BI:List.map AV.bool (List.replicate D.K.length false)=List.replicate D.K.length (.bool false):=ab
 have hO' : L uT [.ptr 3 (aM (some 5)) 0,.int 0,.aF false [.ag]] [⟨none,List.replicate D.K.length .ag,.live⟩,⟨none,List.replicate D.K.length (.bool false),.live⟩,⟨none,XU,.live⟩,⟨some 5,[.a8 (.agg [.int D.n.calls,.int D.n.ak,.int D.n.ah,.int D.n.stack,.int D.n.start,bL D.n.accept,b8 D.n.call,b8 D.n.push,b8 D.n.inner,fv D.n.pop,iL D.n.bj,iL D.plc,b8 D.K,.qh,b8 D.IN,nV D.BL]),.sl 0 D.K.length 0 D.K.length,.sl 1 D.K.length 0 D.K.length,.sl 2 1025 0 1025,.ag],.live⟩]=some (.bM [],Mq):=hO;have MD:(D.K.length:Int)<=1073741824:=aa
 have J:=I.has .f _ rfl;rw[yT]at J;have hR1:(((lR D.K.length).off 0 []).R.length)=1025:=Y.w.r;rw[hR1]at J;simp[-aj,-List.map_replicate,-List.reduceReplicate];simp only[J8,zi,BI,hO'];simp[-aj,MD,J,hO', aM];refine aK (λq:Nat×(Tf->Nat)×List al×Fd=>[(2,.int q.1)]) (λq=>q.2.2.1) (λq=>q.1<=1025/\q.2.1 .f=3/\FS q.2.2.2 D.vcs.av q.2.1 q.2.2.1/\Sr D q.1 q.2.2.2/\XQ q.2.2.2) (λq=>1025-q.1) (0,p0,Mq,(lR D.K.length).off 0 []) aX ⟨ab,yT,I,Y,KS⟩ ?_
 clear hO hO' J I Y KS U;rintro⟨n,p,σ,S⟩ ⟨n0,hp,hF,M,Z⟩;dsimp only at n0 hp hF M Z ⊢;have hv:=hF.has .f _ rfl;rw[hp]at hv
 by_cases hn:n<1025
 .have l9 :=az (show(n:Int)<1025 by omega)
  have hTL:=am8 S hF M.w.ok (n:=n) aa (λy hy=>(M.w.bm n y hy).1)
  obtain⟨rv,τ,hT,rfl,hF2,Xr,uc⟩:=dd hTL;clear hTL;obtain⟨hS2,hm,qS⟩:=M.take Q hs Z aa
  generalize (iq (S.dR n) S.F).1=out at *;generalize (iq (S.dR n) S.F).2=F' at *;rw[hp]at hT;have hol:=tB D.K.length qS λy hy=>by
   obtain⟨w,O,_⟩:=(hm y).1 hy;exact O.1.eV Q
  simp[-aj,l9, hT];refine qD (b:=σ.length) (l:=out) Xr rfl rfl ?_;simp[-aj];have hF3:FS {S with F:=F'} D.vcs.av p (ar τ σ.length ⟨none,out.map .int,.dead⟩):=hF2.Ai λt A uY =>by
   obtain⟨B,d⟩:=Uj uY;have:=hF.lt d;omega
  refine aK (λq:Nat×(Tf->Nat)×List al×Fd=>[(5,.int q.1)]) (λq=>q.2.2.1) (λq=>q.1<=out.length/\q.2.1 .f=3/\FS q.2.2.2 D.vcs.av q.2.1 q.2.2.1/\Sr D (n+1) q.2.2.2/\q.2.2.2.N=S.N++out.take q.1/\q.2.2.2.F=F') (λq=>out.length-q.1) (0,p,_,{S with F:=F'}) aX ⟨ab,hp,hF3,hS2,ab,rfl⟩ ?_
  rintro⟨k,i,j,T⟩ ⟨k0,h,m,s,hN,hTF⟩;dsimp only at k0 h m s hN hTF ⊢;have E:=m.has .f _ rfl;rw[h]at E
  by_cases hk:k<out.length
  .have tk:=gx hk
   have hxm:=aJ (l:=out) (n:=(k:Int)) aa aa
   obtain⟨w,O,KP⟩:=(hm _).1 hxm;have hxr:=O.1.eV Q;obtain⟨x,hxx⟩:∃x:Nat,ix out (k:Int)=x:=⟨(ix out (k:Int)).toNat,aa⟩
   rw[hxx]at hxm O hxr tk;have hxf:ix T.F (x:Int)=true:=(s.fd x aa (by rw[s.l];exact hxr.2)).2 ⟨w,O,aa⟩
   have Uk:(x:Int)∉T.N:=λa=>by
    rw[hN]at a;rcases cY.1 a with a|a
    .have hq:=M.nd _ a
     obtain⟨u,hu,qc⟩:=(M.fd x hq.1.1 hq.1.2).1 hq.2;rw[hu.oN O]at qc;omega
    .have V:(out.take (k+1)).Nodup:=qS.sublist (List.take_sublist _ _)
     rw[tk,rO]at V;exact V.2.2 _ a _ ab rfl
   obtain⟨hP,hPN,hPF,hPW,hPY⟩:=s.push Q aa hxf Uk
   have hwf:mC {T with N:=T.N ++ [(x:Int)]}:=⟨s.w.f,s.w.r,s.w.n,s.w.nd,s.w.bm,s.w.wl⟩
   have hPl:=tB D.K.length (l:=T.N ++ [(x:Int)]) (by rw[<-hPN];exact hP.nn) λy hy=>(hPY y hy).1
   rw[aU]at hPl;simp only[cO,fe]at hPl;have fin:∀(p4:Tf->Nat) (ME:List al),p4 .f=3->FS {T with N:=T.N ++ [(x:Int)]} D.vcs.av p4 ME->∃τ,L CF [.ptr 3 5 0,.int x] ME=some (.bM [],τ)/\∃X,X .f=3/\FS (Fd.ext D x {T with N:=T.N ++ [(x:Int)]}) D.vcs.av X τ:=λp4 ME hp4 h4=>by
    have P:=am9 D Q {T with N:=T.N ++ [(x:Int)]} h4 hwf s.l (x:=x) aa hxf ab ax hPW hPY
    obtain⟨rv,τ,P,rfl,X,G,H⟩:=dd P;rw[hp4]at P;exact⟨τ,P,X,G.1.trans hp4,H⟩
   have l1:=m.lt (t:=.f) rfl;rw[h]at l1
   by_cases C:T.N=[]
   .obtain⟨τ5,P,X,G,H⟩:=fin (λt=>if t = .dn then j.length else i t) (ar (j ++ [⟨none,[.int x],.live⟩]) 3 ⟨some 5,[D.vcs.av,.sl (i .wo) T.W.length 0 T.W.length,.sl (i .fd) T.F.length 0 T.F.length,.sl (i .rd) T.R.length 0 T.R.length,.sl j.length 1 0 1],.live⟩) cq (m.done (λt ht=>ad ht) (by rw[h,bU ax,C];simp) (by rw[ae rfl,aA aa,gU,C];rfl) (λt B t1 t2 d=>by
      rw[aA (by have:=m.ne (t:=.f) rfl d (Ne.symm t1);omega)];exact gz (m.has t B d)) (.inr (by rw[ae rfl];exact bd _)))
    have e6:cu (i .dn) T.N.length = .ag:=by rw[C];rfl
    have hv4:∀B:al,aq (j ++ [B]) 3=_:=λB=>gz (r:=[B]) E;simp[-aj,hk,hxx,E,hv4,e6,P];exact⟨aa,aD (k+1,X,τ5,Fd.ext D x {T with N:=T.N ++ [(x:Int)]}) ab rfl ⟨au,G,H,hP,by dsimp only;rw[hPN,hN,tk];simp,by dsimp only;rw[hPF,hTF]⟩ au⟩
   .have hdn:=m.has .dn _ (ad C)
    have l2:=m.lt (t:=.dn) (ad C);have n1:i .dn ≠ 3:=by have:=m.ne (t:=.dn) (u:=.f) (ad C) rfl ab;omega
    obtain⟨τ5,P,X,G,H⟩:=fin i (ar (ar j (i .dn) (Zb (T.N ++ [(x:Int)]))) 3 ⟨some 5,[D.vcs.av,.sl (i .wo) T.W.length 0 T.W.length,.sl (i .fd) T.F.length 0 T.F.length,.sl (i .rd) T.R.length 0 T.R.length,.sl (i .dn) (T.N.length+1) 0 (T.N.length+1)],.live⟩) h (m.done (λt ht=>rfl) (by rw[h,bU (by rw[aY];omega)]) (by rw[aA (Ne.symm n1),bU l2]) (λt B t1 t2 d=>by
      rw[aA (by have:=m.ne (t:=.f) rfl d (Ne.symm t1);omega),aA (m.ne (t:=.dn) (ad C) d (Ne.symm t2))];exact m.has t B d) (.inl ⟨C,rfl⟩))
    have e6:cu (i .dn) T.N.length = .sl (i .dn) T.N.length 0 T.N.length:=if_neg λe=>C (List.eq_nil_of_length_eq_zero e);have hv4:∀B:al,aq (ar j (i .dn) B) 3=_:=λB=>(aA n1).trans E;simp only[Zb,List.map_append,List.map_cons,List.map_nil]at P;simp[-aj,hk,hxx,E,hv4,e6,hdn,P];exact⟨aa,aa,aD (k+1,X,τ5,Fd.ext D x {T with N:=T.N ++ [(x:Int)]}) ab rfl ⟨au,G,H,hP,by dsimp only;rw[hPN,hN,tk];simp,by dsimp only;rw[hPF,hTF]⟩ au⟩
  .have ek:k=out.length:=by omega
   subst ek;rw[List.take_length]at hN;simp[-aj];refine⟨aa,aD (n+1,i,j,T) ab rfl ⟨au,h,m,s,λz z0 z1 C=>?_⟩ au⟩
   dsimp only at z1 C ⊢;obtain⟨w,O,hl⟩:=(s.fd z z0 z1).1 C;rw[hN]
   by_cases e:w.length=n
   .exact cY.2 (.inr ((hm z).2 ⟨w,O,e⟩))
   .have z1' : z<(S.W.length:Int):=by rw[M.l];rw[s.l]at z1;exact z1
    exact cY.2 (.inl (Z z z0 z1' ((M.fd z z0 z1').2 ⟨w,O,aa⟩)))
 .have en:n=1025:=by omega
  subst en;have e1:view σ false vd (.sl (p .wo) S.W.length 0 S.W.length)=some (b8 (S.W.map λo=>o.getD [])):=by
   have:=dQ (k:=11) (f:=oP) (g:=λo=>iL (o.getD [])) (fr:=false) (hF.has .wo _ rfl) rfl rfl λo _=>by cases o<;>rfl
   rw[show vd=11+1 from rfl,this];simp
  have e2:view σ false vd (.sl (p .fd) S.F.length 0 S.F.length)=some (bL S.F):=dQ (k:=11) (f:=AV.bool) (g:=AV.bool) (fr:=false) (hF.has .fd _ rfl) rfl rfl λo _=>rfl;simp[-aj,hv];exact⟨S,by rw[e1,e2],M⟩
def ank (D:Vd) (a:j9 D) (b:D.n.calls+D.n.ak+D.n.ah<=64):∃S:Fd,PC Cu [D.vcs.av]=some (.bM [b8 (S.W.map λo=>o.getD []),bL S.F])/\Sr D 1025 S:=DC (g:=λS:Fd=>.bM [b8 (S.W.map λo=>o.getD []),bL S.F]) (anj D a b)
inductive Kd where
 |cl|ps|aQ
 deriving DecidableEq
inductive Tn where
 |ac|po
 |ls (k:Kd)
 |rw(k:Kd) (s:Nat)
 |pr (s:Nat)
 |pg (s g:Nat)
 deriving DecidableEq
def ao.tb (n:ao):Kd->List (List Int)
 |.cl=>n.call
 |.ps=>n.push
 |.aQ=>n.inner
def ao.cE (n:ao) (k:Kd) (s:Nat):List Int:=ix (n.tb k) (s:Int)
def ao.bD (n:ao) (s:Nat):List (List Int):=ix n.pop (s:Int)
def ao.cH (n:ao) (s g:Nat):List Int:=ix (n.bD s) (g:Int)
def kF:Kd->List Int->al
 |.ps,l=>bp l
 |_,l=>Zb l
abbrev iA (b k:Nat):AV:=.sl b k 0 k
def ao.cont (n:ao) (p:Tn->Nat):Tn->Option al
 |.ac=>some ⟨none,n.accept.map .bool,.live⟩
 |.ls k=>if n.tb k=[]then none else some ⟨none,(List.range (n.tb k).length).map λs=>iA (p (.rw k s)) (n.cE k s).length,.live⟩
 |.rw k s=>if s<(n.tb k).length then some (kF k (n.cE k s))else none
 |.po=>if n.pop=[]then none else some ⟨none,(List.range n.pop.length).map λs=>iA (p (.pr s)) (n.bD s).length,.live⟩
 |.pr s=>if s<n.pop.length then some ⟨none,(List.range (n.bD s).length).map λg=>iA (p (.pg s g)) (n.cH s g).length,.live⟩else none
 |.pg s g=>if s<n.pop.length/\g<(n.bD s).length then some (Zb (n.cH s g))else none
def ao.bV (n:ao) (p:Tn->Nat):List AV:=[.int n.calls,.int n.ak,.int n.ah,.int n.stack,.int n.start,iA (p .ac) n.accept.length,cu (p (.ls .cl)) n.call.length,cu (p (.ls .ps)) n.push.length,cu (p (.ls .aQ)) n.inner.length,cu (p .po) n.pop.length]
structure AS (n:ao) (p:Tn->Nat) (σ:List al):Prop where
 has:∀t B,n.cont p t=some B->aq σ (p t)=some B
 inj:∀t u A B,n.cont p t=some A->n.cont p u=some B->p t=p u->t=u
variable{n:ao}{p:Tn->Nat}{u:Tn}{B:al}
def AS.ne(h:AS n p σ){t:Tn}{A:al}(ht:n.cont p t=some A) (hu:n.cont p u=some B) (hn:t ≠ u):p t ≠ p u:=λe=>hn (h.inj t u A B ht hu e)
def AS.lt(h:AS n p σ){t:Tn}{A:al}(ht:n.cont p t=some A):p t<σ.length:=cU (h.has t A ht)
def AS.other(h:AS n p σ) (hb:∀t B,n.cont p t=some B->aq τ (p t)=aq σ (p t)):AS n p τ:=
 ⟨λt B hB=>by rw[hb t B hB];exact h.has t B hB,h.inj⟩
def AS.put{n n' : ao}(h:AS n p σ){t:Tn}{A:al}(ht:n.cont p t=some A) (om : n'.cont p t=some B) (hu:∀u,u ≠ t->n'.cont p u=n.cont p u):AS n' p (ar σ (p t) B):=by
 refine⟨λu C hC=>?_,λu v C E hC hE e=>?_⟩
 .by_cases CZ:u=t
  .subst CZ
   rw[om]at hC;injection hC with hC
   subst hC;exact bU (h.lt ht)
  .rw[hu u CZ]at hC
   rw[aA (h.ne ht hC (Ne.symm CZ))];exact h.has u C hC
 .have key:∀u C,n'.cont p u=some C->∃D,n.cont p u=some D:=λu C hC=>by
   by_cases CZ:u=t
   .exact⟨A,by rw[CZ];exact ht⟩
   .rw[hu u CZ]at hC;exact⟨C,hC⟩
  obtain⟨_,h1⟩:=key u C hC;obtain⟨_,h2⟩:=key v E hE;exact h.inj u v _ _ h1 h2 e
def Uy{n:Nat}:∀l:List Bool,kL n (l.map .bool)=l.map .bool
 | []=>rfl
 |b::l=>by rw[cS,kL,Uy l];rfl
def Uz{d:Nat}{t:Tn}:n.cont (λt=>p t+d) t=(n.cont p t).map (gH d):=by
 have a:∀(m:Nat) (f:Nat->Nat) (g:Nat->Nat),(List.range m).map (λs=>iA (f s+d) (g s))=kL d ((List.range m).map λs=>iA (f s) (g s)):=λm f g=>by
  rw[yA,List.map_map];rfl
 cases t with
 |ac=>simp[ao.cont,gH,Uy]
 |po=>
  simp only[ao.cont];split
  .rfl
  .rw[a];rfl
 |ls k=>
  simp only[ao.cont];split
  .rfl
  .rw[a];rfl
 |rw k s=>
  simp only[ao.cont];split
  .cases k<;>simp[kF,gH,Dd]
   split<;>rfl
  .rfl
 |pr s=>
  simp only[ao.cont];split
  .rw[a];rfl
  .rfl
 |pg s g=>
  simp only[ao.cont];split
  .simp[gH,Dd]
  .rfl
def AS.shift(h:AS n p σ) (ρ:List al):AS n (λt=>p t+ρ.length) (ρ++σ.map (gH ρ.length)):=by
 refine⟨λt B hB=>?_,λt u A B hA hB e=>?_⟩
 .rw[Uz]at hB
  obtain⟨C,hC,rfl⟩:=nY.1 hB;have:=h.has t C hC;rw[bE]at this ⊢;rw[gA aa,show p t+ρ.length-ρ.length=p t by omega,iv,this]
  rfl
 .rw[Uz]at hA hB
  obtain⟨C,hC,_⟩:=nY.1 hA;obtain⟨E,hE,_⟩:=nY.1 hB;exact h.inj t u C E hC hE aa
def AS.view(h:AS n p σ):view σ false vd (.agg (n.bV p))=some n.av:=by
 have gV:∀(k:Kd) (s:Nat) (f:Nat),s<(n.tb k).length->Ab.view σ false (f+2) (iA (p (.rw k s)) (n.cE k s).length)=some (iL (n.cE k s)):=λk s f hs=>by
  have:=h.has (.rw k s) _ (ae hs);cases k
  .exact dQ (k:=f+1) this rfl rfl λ_ _=>rfl
  .exact dQ (k:=f+1) (st:=if n.cE .ps s=[]then .gN else .live) this dE rfl λ_ _=>rfl
  .exact dQ (k:=f+1) this rfl rfl λ_ _=>rfl
 have KT:∀(k:Kd) (f:Nat),Ab.view σ false (f+3) (cu (p (.ls k)) (n.tb k).length)=some (b8 (n.tb k)):=λk f=>by
  have e:b8 (n.tb k) = .aF false ((List.range (n.tb k).length).map λs=>iL (n.cE k s)):=by
   unfold ao.cE;rw[qA (f:=iL)]
  rw[e];exact qB (k:=f+2) (f:=λs=>iA (p (.rw k s)) (n.cE k s).length) (λhx=>h.has (.ls k) _ (ad λe=>hx fK)) ab λs hs=>gV k s f (bQ.1 hs)
 have EV:∀(f:Nat),Ab.view σ false (f+4) (cu (p .po) n.pop.length)=some (fv n.pop):=λf=>by
  have e:fv n.pop = .aF false ((List.range n.pop.length).map λs=>b8 (n.bD s)):=by
   unfold ao.bD;rw[qA (f:=b8)]
  rw[e];refine qB (k:=f+3) (f:=λs=>iA (p (.pr s)) (n.bD s).length) (λhx=>h.has .po _ (ad λe=>hx fK)) ab λs hs=>?_
  have j8 :=bQ.1 hs;have e2:b8 (n.bD s) = .aF false ((List.range (n.bD s).length).map λg=>iL (n.cH s g)):=by
   unfold ao.cH;rw[qA (f:=iL)]
  rw[e2];exact dQ (k:=f+2) (f:=λg=>iA (p (.pg s g)) (n.cH s g).length) (h.has (.pr s) _ (ae j8)) rfl ab λg hg=>dQ (k:=f+1) (h.has (.pg s g) _ (ae ⟨j8, bQ.1 hg⟩)) rfl rfl λ_ _=>rfl
 show Ab.view σ false (11+1) _=_;unfold Ab.view;have hm:bJ (Ab.view σ false 11) (n.bV p)=some [.int n.calls,.int n.ak,.int n.ah,.int n.stack,.int n.start,bL n.accept,b8 n.call,b8 n.push,b8 n.inner,fv n.pop]:=by
  refine cG rfl (cG rfl (cG rfl (cG rfl (cG rfl (cG ?_ (cG ?_ (cG ?_ (cG ?_ (cG ?_ rfl)))))))))
  .exact dQ (k:=10) (h.has .ac _ rfl) rfl rfl λ_ _=>rfl
  .exact KT .cl 8
  .exact KT .ps 8
  .exact KT .aQ 8
  .exact EV 7
 simp only[hm]
def AS.nE(h:AS n p σ){l:List Bool}:AS {n with accept:=l} p (ar σ (p .ac) ⟨none,l.map .bool,.live⟩):=
 h.put (t:=.ac) rfl rfl λu hu=>by cases u<;>first|rfl|exact absurd rfl hu
theorem AS.nG(h:AS n p σ){s:Nat}(hs:s<n.inner.length){l:List Int}(hl:l.length=(n.cE .aQ s).length):AS {n with inner:=n.inner.set s l} p (ar σ (p (.rw .aQ s)) (Zb l)):=by
 have hlen:(n.inner.set s l).length=n.inner.length:=ab
 have gV:∀s' : Nat,ao.cE {n with inner:=n.inner.set s l} .aQ s' = if s' = s then l else n.cE .aQ s' :=λs' =>jm hs s'
 have qF:∀s' : Nat,(ao.cE {n with inner:=n.inner.set s l} .aQ s').length=(n.cE .aQ s').length:=λs' =>by
  rw[gV];split
  .rename_i e;rw[e];exact hl
  .rfl
 refine h.put (t:=.rw .aQ s) (ae hs) ?_ λu hu=>?_
 .show(if s<(n.inner.set s l).length then some (kF .aQ (ao.cE {n with inner:=n.inner.set s l} .aQ s))else none)=_
  rw[hlen,ae hs,gV,ae rfl];rfl
 .cases u with
  |ls k=>
   cases k with
   |aQ=>
    show(if n.inner.set s l=[]then none else some (⟨none,(List.range (n.inner.set s l).length).map λs' =>iA (p (.rw .aQ s')) (ao.cE {n with inner:=n.inner.set s l} .aQ s').length,.live⟩:al))=if n.inner=[]then none else some ⟨none,(List.range n.inner.length).map λs=>iA (p (.rw .aQ s)) (n.cE .aQ s).length,.live⟩
    simp only[qF,hlen];have:n.inner.set s l=[]↔n.inner=[]:=by rw[<-List.length_eq_zero_iff,hlen,List.length_eq_zero_iff]
    by_cases e:n.inner=[]
    .rw[ae e,ae (this.2 e)]
    .rw[ad e,ad λa=>e (this.1 a)]
   |_=>rfl
  |rw k s' =>
   cases k with
   |aQ=>
    have:s' ≠ s:=λe=>hu eD
    show(if s' < (n.inner.set s l).length then some (kF .aQ (ao.cE {n with inner:=n.inner.set s l} .aQ s'))else none)=if s' < n.inner.length then some (kF .aQ (n.cE .aQ s'))else none
    rw[hlen,gV,ad this]
   |_=>rfl
  |_=>rfl
variable{g:Nat}
theorem AS.nH(h:AS n p σ){s:Nat}(hs:s<n.pop.length) (hg:g<(n.bD s).length){l:List Int}(hl:l.length=(n.cH s g).length):AS {n with pop:=n.pop.set s ((n.bD s).set g l)} p (ar σ (p (.pg s g)) (Zb l)):=by
 have hlen:(n.pop.set s ((n.bD s).set g l)).length=n.pop.length:=ab
 have gV:∀s' : Nat,ao.bD {n with pop:=n.pop.set s ((n.bD s).set g l)} s' = if s' = s then(n.bD s).set g l else n.bD s' :=λs' =>jm hs s'
 have qF:∀s' : Nat,(ao.bD {n with pop:=n.pop.set s ((n.bD s).set g l)} s').length=(n.bD s').length:=λs' =>by
  rw[gV];split
  .rename_i e;rw[e];simp
  .rfl
 have pJ:∀s' g' : Nat,ao.cH {n with pop:=n.pop.set s ((n.bD s).set g l)} s' g' = if s' = s/\g' = g then l else n.cH s' g' :=λs' g' =>by
  unfold ao.cH;rw[gV]
  by_cases e:s' = s
  .rw[ae e,jm hg]
   by_cases e2:g' = g
   .rw[ae e2,ae ⟨e,e2⟩]
   .rw[ad e2,ad λa=>e2 a.2,e]
  .rw[ad e,ad λa=>e a.1]
 have ss:∀s' g' : Nat,(ao.cH {n with pop:=n.pop.set s ((n.bD s).set g l)} s' g').length=(n.cH s' g').length:=λs' g' =>by
  rw[pJ];split
  .rename_i e;rw[e.1,e.2];exact hl
  .rfl
 refine h.put (t:=.pg s g) (ae ⟨hs,hg⟩) ?_ λu hu=>?_
 .show(if s<(n.pop.set s ((n.bD s).set g l)).length/\g<(ao.bD {n with pop:=n.pop.set s ((n.bD s).set g l)} s).length then some (Zb (ao.cH {n with pop:=n.pop.set s ((n.bD s).set g l)} s g))else none)=_
  rw[hlen,qF,ae ⟨hs,hg⟩,pJ,ae ⟨rfl,rfl⟩]
 .cases u with
  |po=>
   show(if n.pop.set s ((n.bD s).set g l)=[]then none else some (⟨none,(List.range (n.pop.set s ((n.bD s).set g l)).length).map λs' =>iA (p (.pr s')) (ao.bD {n with pop:=n.pop.set s ((n.bD s).set g l)} s').length,.live⟩:al))=if n.pop=[]then none else some ⟨none,(List.range n.pop.length).map λs=>iA (p (.pr s)) (n.bD s).length,.live⟩
   simp only[qF,hlen];have:n.pop.set s ((n.bD s).set g l)=[]↔n.pop=[]:=by rw[<-List.length_eq_zero_iff,hlen,List.length_eq_zero_iff]
   by_cases e:n.pop=[]
   .rw[ae e,ae (this.2 e)]
   .rw[ad e,ad λa=>e (this.1 a)]
  |pr s' =>
   show(if s' < (n.pop.set s ((n.bD s).set g l)).length then some (⟨none,(List.range (ao.bD {n with pop:=n.pop.set s ((n.bD s).set g l)} s').length).map λg' =>iA (p (.pg s' g')) (ao.cH {n with pop:=n.pop.set s ((n.bD s).set g l)} s' g').length,.live⟩:al)else none)=if s' < n.pop.length then some ⟨none,(List.range (n.bD s').length).map λg' =>iA (p (.pg s' g')) (n.cH s' g').length,.live⟩else none
   simp only[qF,hlen,ss]
  |pg s' g' =>
   have:¬(s' = s/\g' = g):=λe=>hu (by rw[e.1,e.2])
   show(if s' < (n.pop.set s ((n.bD s).set g l)).length/\g' < (ao.bD {n with pop:=n.pop.set s ((n.bD s).set g l)} s').length then some (Zb (ao.cH {n with pop:=n.pop.set s ((n.bD s).set g l)} s' g'))else none)=if s' < n.pop.length/\g' < (n.bD s').length then some (Zb (n.cH s' g'))else none
   rw[hlen,qF,pJ,ad this]
  |_=>rfl
def fB (k s:Nat):Nat:=if s=0 then 3 else 11+k+(s-1)*(k+4)
def fp (k:Nat):Tn->Nat
 |.ac=>1
 |.po=>10+k
 |.ls .cl=>6+k
 |.ls .ps=>7+k
 |.ls .aQ=>9+k
 |.rw .ps s=>fB k s
 |.pr s=>fB k s+1
 |.pg s g=>fB k s+2+g
 |.rw .cl s=>fB k s+2+k
 |.rw .aQ s=>fB k s+2+k+(if s=0 then 3 else 1)
def Al{s t:Nat}(h:s<t):fB k s+k+4<=fB k t/\(s=0->11+k<=fB k t):=by
 obtain⟨u,rfl⟩:∃u,t=u+1:=⟨t-1,aa⟩
 have e:fB k (u+1)=11+k+u*(k+4):=by simp[fB]
 rw[e]
 by_cases a:s=0
 .subst a
  have:fB k 0=3:=rfl;exact⟨by rw[this];have:=Nat.zero_le (u*(k+4));omega,λ_=>aa⟩
 .obtain⟨v,rfl⟩:∃v,s=v+1:=⟨s-1,aa⟩
  have b:fB k (v+1)=11+k+v*(k+4):=by simp[fB]
  rw[b];have:(v+1)*(k+4)<=u*(k+4):=lr _ aa
  rw[fh]at this;exact⟨aa,λh=>absurd h a⟩
theorem Am:fB k 0=3:=rfl
def anl:fB k 1=11+k:=by simp[fB]
def anm{s:Nat}(h:s ≠ 0):fB k (s+1)=fB k s+k+4:=by
 obtain⟨v,rfl⟩:∃v,s=v+1:=⟨s-1,aa⟩
 simp[fB,fh];omega
def DF{s:Nat}(h:s ≠ 0):11+k<=fB k s:=(Al (s:=0) (t:=s) aa).2 rfl
def Tn.EW (k:Nat):Tn->Prop
 |.pg _ g=>g<k
 |_=>True
def Tn.off (k:Nat):Tn->Option (Nat×Nat)
 |.rw .ps s=>some (s,0)
 |.pr s=>some (s,1)
 |.pg s g=>some (s,2+g)
 |.rw .cl s=>some (s,2+k)
 |.rw .aQ s=>some (s,2+k+if s=0 then 3 else 1)
 |_=>none
def vZ{t:Tn}(a:t.EW k):(∃s o,t.off k=some (s,o)/\fp k t=fB k s+o/\(o<k+4\/s=0/\o=k+5)/\(s=0->o<3+k\/o=k+5))\/(t.off k=none/\(fp k t=1\/6+k<=fp k t/\fp k t<=10+k/\fp k t ≠ 8+k)):=by
 cases t with
 |ac=>exact .inr ⟨rfl,.inl rfl⟩
 |po=>exact .inr ⟨rfl,.inr ⟨by simp[fp],by simp[fp],by simp[fp]⟩⟩
 |ls q=>cases q<;>exact .inr ⟨rfl,.inr ⟨by simp[fp],by simp[fp],by simp[fp]⟩⟩
 |rw q s=>
  cases q with
  |cl=>exact .inl ⟨s,2+k,rfl,by simp[fp];omega,aa,aa⟩
  |ps=>exact .inl ⟨s,0,rfl,by simp[fp],aa,aa⟩
  |aQ=>
   refine .inl ⟨s,_,rfl,by simp only[fp];omega,?_,?_⟩
   .split<;>omega
   .intro h;rw[ae h];omega
 |pr s=>exact .inl ⟨s,1,rfl,rfl,aa,aa⟩
 |pg s g=>have:g<k:=a;exact .inl ⟨s,2+g,rfl,by simp[fp];omega,aa,aa⟩
def ann{t:Tn}(j:t.EW k) (l:u.EW k){s o:Nat}(b:t.off k=some (s,o)) (a:u.off k=some (s,o)):t=u:=by
 have i:∀g e, (Tn.pg e g).EW k->g<k:=λg e h=>h;cases t with
 |ac=>simp[Tn.off]at b
 |po=>simp[Tn.off]at b
 |ls q=>simp[Tn.off]at b
 |rw q e =>
  cases u with
  |ac=>simp[Tn.off]at a
  |po=>simp[Tn.off]at a
  |ls q=>simp[Tn.off]at a
  |rw r d =>
   cases q<;>cases r<;>simp[Tn.off]at b a<;>first|(rw[b.1,a.1];done)|(exfalso;(try split at b)<;>(try split at a)<;>omega)
  |pr d =>cases q<;>simp[Tn.off]at b a<;>exfalso<;>(try split at b)<;>omega
  |pg d g=>have:=i _ _ l;cases q<;>simp[Tn.off]at b a<;>exfalso<;>(try split at b)<;>omega
 |pr e =>
  cases u with
  |ac=>simp[Tn.off]at a
  |po=>simp[Tn.off]at a
  |ls q=>simp[Tn.off]at a
  |rw r d =>cases r<;>simp[Tn.off]at b a<;>exfalso<;>(try split at a)<;>omega
  |pr d =>simp[Tn.off]at b a;rw[b.1,a.1]
  |pg d g=>simp[Tn.off]at b a;omega
 |pg e g=>
  have n:=i _ _ j;cases u with
  |ac=>simp[Tn.off]at a
  |po=>simp[Tn.off]at a
  |ls q=>simp[Tn.off]at a
  |rw r d =>cases r<;>simp[Tn.off]at b a<;>exfalso<;>(try split at a)<;>omega
  |pr d =>simp[Tn.off]at b a;omega
  |pg d m =>
   simp[Tn.off]at b a;rw[b.1,a.1,show g=m by omega]
def xt{t:Tn}(n:t.EW k) (j:u.EW k) (e:fp k t=fp k u):t=u:=by
 rcases vZ n with⟨s,o,b,l,y,p⟩|⟨b,l⟩
 .rcases vZ j with⟨d, w, a,i,x,m⟩|⟨a,i⟩
  .have es:s=d :=by
    rcases Nat.lt_trichotomy s d with h|h|h
    .have:=Al (k:=k) h
     by_cases z:s=0
     .have:=this.2 z;have:=p z;subst z;rw[Am]at l;omega
     .omega
    .exact h
    .have:=Al (k:=k) h
     by_cases z:d = 0
     .have:=this.2 z;have:=m z;subst z;rw[Am]at i;omega
     .omega
   subst es;exact ann n j b (by rw[a,show w = o by omega])
  .exfalso
   by_cases z:s=0
   .have:=p z;subst z;rw[Am]at l;omega
   .have:=DF (k:=k) z;omega
 .rcases vZ j with⟨d, w, a,i,x,m⟩|⟨a,i⟩
  .exfalso
   by_cases z:d = 0
   .have:=m z;subst z;rw[Am]at i;omega
   .have:=DF (k:=k) z;omega
  .cases t with
   |ac=>cases u with
    |ac=>rfl
    |po=>simp[fp]at e;omega
    |ls q=>cases q<;>simp[fp]at e<;>omega
    |rw r s=>cases r<;>simp[Tn.off]at a
    |pr s=>simp[Tn.off]at a
    |pg s g=>simp[Tn.off]at a
   |po=>cases u with
    |ac=>simp[fp]at e;omega
    |po=>rfl
    |ls q=>cases q<;>simp[fp]at e
    |rw r s=>cases r<;>simp[Tn.off]at a
    |pr s=>simp[Tn.off]at a
    |pg s g=>simp[Tn.off]at a
   |ls q=>cases u with
    |ac=>cases q<;>simp[fp]at e<;>omega
    |po=>cases q<;>simp[fp]at e
    |ls r=>cases q<;>cases r<;>first|rfl|(simp[fp]at e)
    |rw r s=>cases r<;>simp[Tn.off]at a
    |pr s=>simp[Tn.off]at a
    |pg s g=>simp[Tn.off]at a
   |rw r s=>cases r<;>simp[Tn.off]at b
   |pr s=>simp[Tn.off]at b
   |pg s g=>simp[Tn.off]at b
def ao.aE (n:ao) (k:Nat):Nat:=max 1 (k*n.calls.toNat)
def ao.v7 (n:ao) (s j:Nat):List Int:=(List.range j).map λ(c:Nat)=>(s:Int)*n.calls+(c:Int)
def ao.dT (n:ao) (k s:Nat):ao:=⟨n.calls,n.ak,n.ah,n.aE k,0,List.replicate k false,List.replicate s (List.replicate n.calls.toNat 0),(List.range s).map λs=>n.v7 s n.calls.toNat,List.replicate s (List.replicate n.ak.toNat 0),List.replicate s (List.replicate (n.aE k) (List.replicate n.ah.toNat 0))⟩
variable{j:Nat}
def ano{s:Nat}:n.v7 s (j+1)=n.v7 s j ++ [(s:Int)*n.calls+(j:Int)]:=by simp[ao.v7,jh]
def KU{s:Nat}:(n.v7 s j).length=j:=by simp[ao.v7]
variable{i:Nat}
def kZ{s:Nat}(a:i<s):(n.dT k s).cE .cl i=List.replicate n.calls.toNat 0/\(n.dT k s).cE .ps i=n.v7 i n.calls.toNat/\(n.dT k s).cE .aQ i=List.replicate n.ak.toNat 0/\(n.dT k s).bD i=List.replicate (n.aE k) (List.replicate n.ah.toNat 0):=by
 refine⟨lQ a,?_,lQ a,lQ a⟩;show ix ((List.range s).map λs=>n.v7 s n.calls.toNat) (i:Int)=_;rw[aB iJ];simp
def u9{s:Nat}(a:i<s) (b:g<n.aE k):(n.dT k s).cH i g=List.replicate n.ah.toNat 0:=by
 unfold ao.cH;rw[(kZ a).2.2.2];exact lQ b
def nI{s:Nat}(q:Kd):((n.dT k s).tb q).length=s:=by cases q<;>simp[ao.tb,ao.dT]
def nJ{s:Nat}:(n.dT k s).pop.length=s:=by simp[ao.dT]
def ao.KV (n:ao):Kd->Nat
 |.cl=>n.calls.toNat
 |.ps=>n.calls.toNat
 |.aQ=>n.ak.toNat
def KW{s:Nat}(a:i<s) (q:Kd):((n.dT k s).cE q i).length=n.KV q:=by
 obtain⟨b,d,e,_⟩:=kZ (n:=n) (k:=k) a;cases q
 .rw[b];simp[ao.KV]
 .rw[d];exact KU
 .rw[e];simp[ao.KV]
def DG (n:ao) (k:Nat) (q:Kd) (s:Nat):al:=⟨none,(List.range s).map λi=>iA (fp (n.aE k) (.rw q i)) (n.KV q),.live⟩
def MF (n:ao) (k s:Nat):al:=⟨none,(List.range s).map λi=>iA (fp (n.aE k) (.pr i)) (n.aE k),.live⟩
def XW (n:ao) (k s:Nat):al:=⟨none,(List.range (n.aE k)).map λg=>iA (fp (n.aE k) (.pg s g)) n.ah.toNat,.live⟩
variable{q:Kd}
def UA{s:Nat}(b:s ≠ 0):(n.dT k s).cont (fp (n.aE k)) (.ls q)=some (DG n k q s):=by
 show(if(n.dT k s).tb q=[]then none else some (⟨none,(List.range ((n.dT k s).tb q).length).map λi=>iA (fp (n.aE k) (.rw q i)) ((n.dT k s).cE q i).length,.live⟩:al))=_
 rw[ad λe=>by have:=nI (n:=n) (k:=k) (s:=s) q;rw[e]at this;simp at this;omega,nI]
 congr 2
 exact eM λi a=>by rw[KW (bQ.1 a)]
def UB{s:Nat}(b:s ≠ 0):(n.dT k s).cont (fp (n.aE k)) .po=some (MF n k s):=by
 show(if(n.dT k s).pop=[]then none else some (⟨none,(List.range (n.dT k s).pop.length).map λi=>iA (fp (n.aE k) (.pr i)) ((n.dT k s).bD i).length,.live⟩:al))=_
 rw[ad λe=>by have:=nJ (n:=n) (k:=k) (s:=s);rw[e]at this;simp at this;omega,nJ]
 congr 2
 exact eM λi a=>by rw[(kZ (bQ.1 a)).2.2.2];simp
def UC{s:Nat}(a:i<s):(n.dT k s).cont (fp (n.aE k)) (.pr i)=some (XW n k i):=by
 show(if i<(n.dT k s).pop.length then some (⟨none,(List.range ((n.dT k s).bD i).length).map λg=>iA (fp (n.aE k) (.pg i g)) ((n.dT k s).cH i g).length,.live⟩:al)else none)=_
 rw[nJ,ae a,(kZ a).2.2.2,List.length_replicate]
 congr 2
 exact eM λg b=>by rw[u9 a (bQ.1 b)];simp
def pK{s:Nat}{t:Tn}(h:(n.dT k s).cont (fp (n.aE k)) t=some B):t.EW (n.aE k):=by
 cases t with
 |pg i g=>
  have h:(if i<(n.dT k s).pop.length/\g<((n.dT k s).bD i).length then some (Zb ((n.dT k s).cH i g))else none)=some B:=h
  split at h
  .rename_i a
   rw[nJ]at a;rw[(kZ a.1).2.2.2]at a;have:=a.2;rw[List.length_replicate]at this;exact this
  .simp at h
 |_=>trivial
def UD{s:Nat}(h:AS (n.dT k s) (fp (n.aE k)) σ)
  (l:∀t B,(∀q,t ≠ .ls q)->t ≠ .po->(n.dT k s).cont (fp (n.aE k)) t=some B->aq τ (fp (n.aE k) t)=some B)
  (x:∀q,aq τ (fp (n.aE k) (.ls q))=some (DG n k q (s+1))) (y:aq τ (fp (n.aE k) .po)=some (MF n k (s+1)))
  (z:aq τ (fp (n.aE k) (.rw .cl s))=some (Zb (List.replicate n.calls.toNat 0))) (C:aq τ (fp (n.aE k) (.rw .ps s))=some (bp (n.v7 s n.calls.toNat))) (D:aq τ (fp (n.aE k) (.rw .aQ s))=some (Zb (List.replicate n.ak.toNat 0)))
  (E:aq τ (fp (n.aE k) (.pr s))=some (XW n k s)) (F:∀g,g<n.aE k->aq τ (fp (n.aE k) (.pg s g))=some (Zb (List.replicate n.ah.toNat 0))):AS (n.dT k (s+1)) (fp (n.aE k)) τ:=by
 refine⟨λt B b=>?_,λt u A B G b e=>xt (pK G) (pK b) e⟩;cases t with
 |ac=>
  rw[<-b];exact l .ac _ ab ab rfl
 |po=>rw[<-b,UB aa];exact y
 |ls q=>rw[<-b,UA aa];exact x q
 |rw q i=>
  have b:(if i<((n.dT k (s+1)).tb q).length then some (kF q ((n.dT k (s+1)).cE q i))else none)=some B:=b
  rw[nI]at b;split at b
  .rename_i m
   by_cases e:i=s
   .subst e
    obtain⟨p,r,w,_⟩:=kZ (n:=n) (k:=k) m;cases q
    .rw[p]at b;rw[z];exact b
    .rw[r]at b;rw[C];exact b
    .rw[w]at b;rw[D];exact b
   .have j : i<s:=by omega
    refine l (.rw q i) B ab ab ?_
    show(if i<((n.dT k s).tb q).length then some (kF q ((n.dT k s).cE q i))else none)=_
    rw[nI,ae j, <-b];obtain⟨p,r,w,_⟩:=kZ (n:=n) (k:=k) m;obtain⟨b1,H,I,_⟩:=kZ (n:=n) (k:=k) j;cases q
    .rw[p,b1]
    .rw[r,H]
    .rw[w,I]
  .simp at b
 |pr i=>
  have m:i<s+1:=by
   have b:(if i<(n.dT k (s+1)).pop.length then some _ else none)=some B:=b
   rw[nJ]at b;exact dF λJ=>by rw[ad J]at b;simp at b
  rw[UC m]at b
  by_cases e:i=s
  .subst e;rw[E];exact b
  .exact l (.pr i) B ab ab (by rw[UC aa];exact b)
 |pg i g=>
  have d:(if i<(n.dT k (s+1)).pop.length/\g<((n.dT k (s+1)).bD i).length then some (Zb ((n.dT k (s+1)).cH i g))else none)=some B:=b
  rw[nJ]at d;split at d
  .rename_i a
   have o:g<n.aE k:=by
    have:=a.2;rw[(kZ a.1).2.2.2]at this;simpa using this
   rw[u9 a.1 o]at d
   by_cases e:i=s
   .subst e;rw[F g o,d]
   .refine l (.pg i g) B ab ab ?_
    show(if i<(n.dT k s).pop.length/\g<((n.dT k s).bD i).length then some (Zb ((n.dT k s).cH i g))else none)=_
    rw[nJ,(kZ (show i<s by omega)).2.2.2,List.length_replicate,ae ⟨aa,o⟩,u9 aa o]
    exact d
  .simp at d
def UE{A:al}:AS (n.dT k 0) (fp (n.aE k)) [A,⟨none,(List.replicate k false).map .bool,.live⟩,B]:=by
 refine⟨λt C a=>?_,λt u A B b d e=>xt (pK b) (pK d) e⟩;cases t with
 |ac=>rw[<-a];rfl
 |ls q=>cases q<;>simp[ao.cont,ao.tb,ao.dT]at a
 |rw q s=>cases q<;>simp[ao.cont,ao.tb,ao.dT]at a
 |_=>simp[ao.cont,ao.dT]at a
def xu{s:Nat}:(n.dT k s).bV (fp (n.aE k))=[.int n.calls,.int n.ak,.int n.ah,.int ((n.aE k:Nat):Int),.int 0,.sl 1 k 0 k,cu (6+n.aE k) s,cu (7+n.aE k) s,cu (9+n.aE k) s,cu (10+n.aE k) s]:=by simp[ao.bV,ao.dT,fp]
def Ao{Q:List al}{C:al}:ar (Q ++ [B]) Q.length C=Q ++ [C]:=by rw[sE];simp
def xx(h:i<τ.length):∀(Q r:List al),τ.length<=Q.length->aq (Q++r) i=aq Q i:=λQ r a=>by
 rw[bE,bE,eJ aa]
def UF(h:i<τ.length):∀(Q:List al) (B:al),τ.length<=Q.length->aq (ar Q i B) i=some B:=λQ B a=>bU aa
def oH(h:i ≠ j):∀(Q:List al) (B:al),aq (ar Q i B) j=aq Q j:=λQ B=>aA h
def KX (a k r g:Nat):al:=⟨none,(List.range k).map λi=>if i<g then iA (a+i) r else .ag,.live⟩
variable{a:Nat}
def anp{r:Nat}:((List.range k).map λi=>if i<g then iA (a+i) r else .ag).set g (iA (a+g) r)=(List.range k).map λi=>if i<g+1 then iA (a+i) r else .ag:=by
 apply me ab
 intro i b d;rw[qn];simp only[lI,List.getElem_range]
 by_cases e:g=i
 .subst e;rw[ae rfl,ae aa]
 .rw[ad e]
  by_cases h:i<g
  .rw[ae h,ae aa]
  .rw[ad h,ad aa]
def UG{r:Nat}:KX a k r 0=⟨none,List.replicate k .ag,.live⟩:=by
 unfold KX
 congr 1
 apply me ab
 intro i b d;simp
variable{r:List al}
def dH{Q:List al}(h:i<Q.length):aq (Q++r) i=aq Q i:=by rw[bE,bE,eJ h]
def anq{Q:List al}(h:Q.length<=i):aq (Q++r) i=aq r (i-Q.length):=by rw[bE,bE,gA h]
def DH{Q:List al}(h:i=Q.length+m):aq (Q++r) i=aq r m:=by rw[anq aa];congr 1;omega
def KY{t:Tn}(b:t.EW k):fp k t ≠ 2/\fp k t ≠ 0:=by
 rcases vZ b with⟨s,o,d,a,e,g⟩|⟨d,a⟩
 .by_cases z:s=0
  .subst z;rw[Am]at a;omega
  .have:=DF (k:=k) z;omega
 .omega
def EX{s:Nat}:DG n k q (s+1)=⟨none,(List.range s).map (λi=>iA (fp (n.aE k) (.rw q i)) (n.KV q)) ++ [.sl (fp (n.aE k) (.rw q s)) (n.KV q) 0 (n.KV q)],.live⟩:=by
 unfold DG;rw[jh,jE];rfl
def EY{s:Nat}:MF n k (s+1)=⟨none,(List.range s).map (λi=>iA (fp (n.aE k) (.pr i)) (n.aE k)) ++ [.sl (fp (n.aE k) (.pr s)) (n.aE k) 0 (n.aE k)],.live⟩:=by
 unfold MF;rw[jh,jE];rfl
def UH{s:Nat}(h:a=fB (n.aE k) s+2):KX a (n.aE k) n.ah.toNat (n.aE k)=XW n k s:=by
 unfold KX XW
 congr 1
 refine eM λi b=>?_;rw[ae (bQ.1 b),h];rfl
def oI{ce:CE}{n:Nat}{a b d e g i j l m o:AV}(h:aq σ n=some ⟨some 10,[a,b,d,e,g,i,j,l,m,o],.live⟩):ev ce σ 0 [] (λ_=>.ptr n (aM (some 10)) 0) (.ld (.v 0) (some 10))=some (.agg [a,b,d,e,g,i,j,l,m,o],none):=by
 have p:upto σ n (aM (some 10))=some ⟨some 10,[a,b,d,e,g,i,j,l,m,o],.live⟩:=by unfold upto;rw[h];rfl
 simp only[ev,p]
 rfl
def UI (n:ao) (N:n.Ok) (k:Nat) (hk:k<=128) (O:k*n.calls.toNat<=128):LX L w5 [n.av,.int k] [] (λr τ=>r = .agg ((n.dT k k).bV (fp (n.aE k)))/\AS (n.dT k k) (fp (n.aE k)) τ):=by
 refine ajC rfl ?_;have hc:=N.calls;have hi:=N.ak;have hr:=N.ah;have hmul:(k:Int)*n.calls=((k*n.calls.toNat:Nat):Int):=o6
 have R:max 1 ((k:Int)*n.calls)=((n.aE k:Nat):Int):=by rw[hmul];unfold ao.aE;omega
 have Ae:n.aE k<=128:=by unfold ao.aE;omega
 have Ap:0<=(k:Int)*n.calls/\(k:Int)*n.calls<=128:=by rw[hmul];exact⟨Int.natCast_nonneg _,Int.ofNat_le.2 O⟩
 simp[-aj,-List.map_replicate,R];refine⟨aa,aa,?_⟩
 refine aK (λq:Nat×List al=>[(3,.int q.1)]) (λq=>q.2) (λq=>q.1<=k/\AS (n.dT k q.1) (fp (n.aE k)) q.2/\aq q.2 2=some ⟨some 10,(n.dT k q.1).bV (fp (n.aE k)),.live⟩/\q.2.length=fB (n.aE k) q.1/\aq q.2 0=some ⟨some 10,[.int 0,.int 0,.int 0,.int 0,.int 0,.ag,.ag,.ag,.ag,.ag],.live⟩) (λq=>k-q.1) (0,[⟨some 10,[.int 0,.int 0,.int 0,.int 0,.int 0,.ag,.ag,.ag,.ag,.ag],.live⟩,⟨none,(List.replicate k false).map .bool,.live⟩,⟨some 10,[.int n.calls,.int n.ak,.int n.ah,.int ((n.aE k:Nat):Int),.int 0,.sl 1 k 0 k,.ag,.ag,.ag,.ag],.live⟩]) aX ⟨ab,UE,by simp[aq,ao.bV,ao.dT,cu,fp],by simp[fB],by simp[aq]⟩ ?_
 rintro⟨s,σ⟩ ⟨s0,x,u,hlen,y⟩;dsimp only at s0 x u hlen y ⊢
 by_cases hs:s<k
 .have hsc:0<=(s:Int)*n.calls/\(s:Int)*n.calls<=128:=⟨Int.mul_nonneg aa hc.1,by have:=Int.mul_le_mul_of_nonneg_right (show(s:Int)<=k by omega) hc.1;omega⟩
  simp[-aj,hs];refine aK (λc:Nat=>[(5,.int c),(7,.sl σ.length c 0 c)]) (λc=>σ ++ [bp (n.v7 s c)]) (λc=>c<=n.calls.toNat) (λc=>n.calls.toNat-c) 0 (by simp[du,ao.v7]) aa ?_
  intro c c0
  by_cases sO:c<n.calls.toNat
  .have D:=az (show(c:Int)<n.calls by omega)
   have F:=λB:al=>(gU (Q:=σ) (r:=[]) (B:=B));have S:=ano (n:=n) (s:=s) (j:=c);have G:=KU (n:=n) (s:=s) (j:=c);generalize n.v7 s c=P at *;simp[-aj,D,F,G];refine⟨aa,aa,dE,aa,aa,aD (c+1) ab ?_ aa aa⟩
   rw[Ao,S];simp[bp]
  .have D:=bX (show ¬(c:Int)<n.calls by omega)
   have ec:c=n.calls.toNat:=aa
   have A:∀r:List al,aq (σ++r) 2=_:=λr=>gz (r:=r) u;rw[xu]at A;have G:=KU (n:=n) (s:=s) (j:=c);simp[-aj,-List.map_replicate,-Int.toNat_natCast,D,A];simp only[lA,<-UG (a:=σ.length+2) (r:=n.ah.toNat)];refine⟨aa,?_⟩
   refine aK (λq:Nat×List al=>[(12,.int q.1)]) (λq=>q.2) (λq=>q.1<=n.aE k/\(∀b,b<σ.length->aq q.2 b=aq σ b)/\aq q.2 σ.length=some (bp (n.v7 s c))/\aq q.2 (σ.length+1)=some (KX (σ.length+2) (n.aE k) n.ah.toNat q.1)/\(∀g,g<q.1->aq q.2 (σ.length+2+g)=some (Zb (List.replicate n.ah.toNat 0)))/\q.2.length=σ.length+2+q.1) (λq=>n.aE k-q.1) (0,σ ++ [bp (n.v7 s c),KX (σ.length+2) (n.aE k) n.ah.toNat 0]) aX ⟨ab,λb F=>by rw[bE,bE,List.getElem?_append_left F],gU,Ke,λg h=>by dsimp only at h;omega,ab⟩ ?_
   rintro⟨g,τ⟩ ⟨g0,d,J,E,K,z⟩;dsimp only at g0 d J E K z ⊢
   by_cases H:g<n.aE k
   .unfold KX at E
    have T:∀B:al,aq (τ ++ [B]) (σ.length+1)=_:=λB=>gz (r:=[B]) E;simp[-aj,-List.map_replicate,H,E,T];refine⟨aa,aa,aa,aD (g+1,_) ab rfl ⟨au,λb F=>?_,?_,?_,λi hi=>?_,?_⟩ au⟩
    .dsimp only
     rw[aA aa,<-d b F,bE,bE,eJ aa]
    .dsimp only
     rw[aA aa];exact gz J
    .dsimp only
     rw[bU ax]
     show some (⟨none,_,.live⟩:al)=_;rw[z];rw[show(AV.sl (σ.length+2+g) n.ah.toNat 0 n.ah.toNat).cells=[iA (σ.length+2+g) n.ah.toNat]from rfl,lP,anp];rfl
    .dsimp only at hi ⊢
     rw[aA aa]
     by_cases e:i=g
     .subst e
      rw[<-z];exact gU
     .exact gz (K i aa)
    .dsimp only
     rw[aY,aU,z];simp;omega
   .have eg:g=n.aE k:=by omega
    subst eg;have l:=(d 2 (by rw[hlen];unfold fB;split<;>omega)).trans u
    rw[xu]at l
    by_cases w:s=0
    .subst w
     rw[show cu (6+n.aE k) 0 = .ag from rfl,show cu (7+n.aE k) 0 = .ag from rfl,show cu (9+n.aE k) 0 = .ag from rfl,show cu (10+n.aE k) 0 = .ag from rfl]at l;have l2:2<τ.length:=aa
     have U:=xx l2;have V:=UF l2;simp[-aj,-List.map_replicate,l,U,V,Nat.le_add_right_of_le,aY];have p : σ.length=3:=hlen;refine⟨aa,aa,aD (1,_) ab rfl ⟨au,UD x (λt B M t2 o=>?_) (λq=>?_) ?_ ?_ ?_ ?_ ?_ (λg H=>?_),?_,?_,?_⟩ au⟩
     .have f1:=x.lt o
      have f2:=(KY (pK o)).1;have:=x.has t B o;rw[<-d _ f1]at this;simp(disch:=((try simp only[aY,aU,cO,fe]);omega)) only[aA,dH]
      exact this
     .rw[EX]
      cases q
      .rw[show fp (n.aE k) (.ls .cl)=τ.length+1 by simp[fp];omega]
       simp(disch:=((try simp only[aY,aU,cO,fe]);omega)) only[aA,dH]
       rw[Ke,show τ.length=fp (n.aE k) (.rw .cl 0)by simp[fp,fB];omega];rfl
      .rw[show fp (n.aE k) (.ls .ps)=τ.length+2 by simp[fp];omega]
       simp(disch:=((try simp only[aY,aU,cO,fe]);omega)) only[aA,dH]
       rw[al9,p, ec];rfl
      .rw[show fp (n.aE k) (.ls .aQ)=τ.length+3+1 by simp[fp];omega]
       simp(disch:=((try simp only[aY,aU,cO,fe]);omega)) only[aA]
       rw[DH (m:=1) iN,show τ.length+3=fp (n.aE k) (.rw .aQ 0)by simp[fp,fB];omega];rfl
     .rw[EY,show fp (n.aE k) .po=τ.length+3+2 by simp[fp];omega]
      simp(disch:=((try simp only[aY,aU,cO,fe]);omega)) only[aA]
      rw[DH (m:=2) iN,p];try rfl
     .rw[show fp (n.aE k) (.rw .cl 0)=τ.length by simp[fp,fB];omega]
      simp(disch:=((try simp only[aY,aU,cO,fe]);omega)) only[aA,dH]
      exact gU
     .rw[show fp (n.aE k) (.rw .ps 0)=σ.length by rw[p];rfl]
      simp(disch:=((try simp only[aY,aU,cO,fe]);omega)) only[aA,dH]
      rw[J,ec]
     .rw[show fp (n.aE k) (.rw .aQ 0)=τ.length+3 by simp[fp,fB];omega]
      simp(disch:=((try simp only[aY,aU,cO,fe]);omega)) only[aA]
      rw[DH (m:=0) iN]
     .rw[show fp (n.aE k) (.pr 0)=σ.length+1 by rw[p];rfl]
      simp(disch:=((try simp only[aY,aU,cO,fe]);omega)) only[aA,dH]
      rw[E,UH (s:=0) (by rw[p];rfl)]
     .rw[show fp (n.aE k) (.pg 0 g)=σ.length+2+g by rw[p];rfl]
      simp(disch:=((try simp only[aY,aU,cO,fe]);omega)) only[aA,dH]
      exact K g H
     .dsimp only
      rw[bU iN,xu,show cu (6+n.aE k) 1 = .sl (6+n.aE k) 1 0 1 from rfl,show cu (7+n.aE k) 1 = .sl (7+n.aE k) 1 0 1 from rfl,show cu (9+n.aE k) 1 = .sl (9+n.aE k) 1 0 1 from rfl,show cu (10+n.aE k) 1 = .sl (10+n.aE k) 1 0 1 from rfl,show τ.length+1=6+n.aE k by omega,show τ.length+2=7+n.aE k by omega,show τ.length+3+1=9+n.aE k by omega,show τ.length+3+2=10+n.aE k by omega]
     .dsimp only
      rw[anl];simp only[aY,aU,cO,fe];omega
     .dsimp only
      simp(disch:=((try simp only[aY,aU,cO,fe]);omega)) only[aA,dH]
      rw[d 0 aa];exact y
    .rw[show cu (6+n.aE k) s = .sl (6+n.aE k) s 0 s from ad w,show cu (7+n.aE k) s = .sl (7+n.aE k) s 0 s from ad w,show cu (9+n.aE k) s = .sl (9+n.aE k) s 0 s from ad w,show cu (10+n.aE k) s = .sl (10+n.aE k) s 0 s from ad w]at l
     have o:=DF (k:=n.aE k) w;have lk:∀q:Kd,aq τ (fp (n.aE k) (.ls q))=some (DG n k q s):=λq=>(d _ (by cases q<;>simp[fp]<;>omega)).trans (x.has (.ls q) _ (UA w))
     have I:aq τ (10+n.aE k)=some (MF n k s):=(d _ aa).trans (x.has .po _ (UB w))
     have b6:aq τ (6+n.aE k)=some (DG n k .cl s):=lk .cl;have b7:aq τ (7+n.aE k)=some (DG n k .ps s):=lk .ps;have b9:aq τ (9+n.aE k)=some (DG n k .aQ s):=lk .aQ;have U:=xx (τ:=τ) (i:=2) aa
     have a6:=xx (τ:=τ) (i:=6+n.aE k) aa
     have a7:=xx (τ:=τ) (i:=7+n.aE k) aa
     have a9:=xx (τ:=τ) (i:=9+n.aE k) aa
     have W:=xx (τ:=τ) (i:=10+n.aE k) aa
     have V:=UF (τ:=τ) (i:=2) aa
     have n1:=oH (i:=6+n.aE k) (j:=7+n.aE k) aa
     have n2:=oH (i:=6+n.aE k) (j:=2) aa
     have n3:=oH (i:=7+n.aE k) (j:=2) aa
     have n4:=oH (i:=6+n.aE k) (j:=9+n.aE k) aa
     have n5:=oH (i:=7+n.aE k) (j:=9+n.aE k) aa
     have n6:=oH (i:=2) (j:=9+n.aE k) aa
     have n7:=oH (i:=6+n.aE k) (j:=10+n.aE k) aa
     have n8:=oH (i:=7+n.aE k) (j:=10+n.aE k) aa
     have n9:=oH (i:=9+n.aE k) (j:=10+n.aE k) aa
     have X:=oH (i:=2) (j:=10+n.aE k) aa
     have Y:=oH (i:=9+n.aE k) (j:=2) aa
     have Z:=oH (i:=10+n.aE k) (j:=2) aa
     unfold DG at b6 b7 b9;unfold MF at I;simp[-aj,-List.map_replicate,l,U,a6,a7,a9,W,V,Nat.le_add_right_of_le,n1,n2,n3,n4,n5,n6,n7,n8,n9,X,Y,Z,b6,b7,b9,I,aY];refine⟨aa,aa,aa,aa,aa,aD (s+1,_) ab rfl ⟨au,UD x (λt B M t2 o=>?_) (λq=>?_) ?_ ?_ ?_ ?_ ?_ (λg H=>?_),?_,?_,?_⟩ au⟩
     .have f1:=x.lt o
      have f2:=(KY (pK o)).1;have f6:fp (n.aE k) t ≠ 6+n.aE k:=λe=>M .cl (xt (pK o) trivial e);have f7:fp (n.aE k) t ≠ 7+n.aE k:=λe=>M .ps (xt (pK o) trivial e);have f9:fp (n.aE k) t ≠ 9+n.aE k:=λe=>M .aQ (xt (pK o) trivial e);have f10:fp (n.aE k) t ≠ 10+n.aE k:=λe=>t2 (xt (pK o) trivial e);have:=x.has t B o;rw[<-d _ f1]at this;simp(disch:=((try simp only[aY,aU,cO,fe]);omega)) only[aA,dH]
      exact this
     .rw[EX]
      cases q
      .rw[show fp (n.aE k) (.ls .cl)=6+n.aE k from rfl]
       simp(disch:=((try simp only[aY,aU,cO,fe]);omega)) only[aA,dH]
       rw[bU iN,show τ.length=fp (n.aE k) (.rw .cl s)by simp[fp];omega];rfl
      .rw[show fp (n.aE k) (.ls .ps)=7+n.aE k from rfl]
       simp(disch:=((try simp only[aY,aU,cO,fe]);omega)) only[aA,dH]
       rw[bU iN,hlen,ec];rfl
      .rw[show fp (n.aE k) (.ls .aQ)=9+n.aE k from rfl]
       simp(disch:=((try simp only[aY,aU,cO,fe]);omega)) only[aA,dH]
       rw[bU iN,show τ.length+1=fp (n.aE k) (.rw .aQ s)by simp[fp,w];omega];rfl
     .rw[EY,show fp (n.aE k) .po=10+n.aE k from rfl]
      simp(disch:=((try simp only[aY,aU,cO,fe]);omega)) only[aA,dH]
      rw[bU iN,hlen];rfl
     .rw[show fp (n.aE k) (.rw .cl s)=τ.length by simp[fp];omega]
      simp(disch:=((try simp only[aY,aU,cO,fe]);omega)) only[aA,dH]
      exact gU
     .rw[show fp (n.aE k) (.rw .ps s)=σ.length by rw[hlen];rfl]
      simp(disch:=((try simp only[aY,aU,cO,fe]);omega)) only[aA,dH]
      rw[J,ec]
     .rw[show fp (n.aE k) (.rw .aQ s)=τ.length+1 by simp[fp,w];omega]
      simp(disch:=((try simp only[aY,aU,cO,fe]);omega)) only[aA]
      rw[DH (m:=0) iN]
     .rw[show fp (n.aE k) (.pr s)=σ.length+1 by rw[hlen];rfl]
      simp(disch:=((try simp only[aY,aU,cO,fe]);omega)) only[aA,dH]
      rw[E,UH (s:=s) (by rw[hlen])]
     .rw[show fp (n.aE k) (.pg s g)=σ.length+2+g by rw[hlen];rfl]
      simp(disch:=((try simp only[aY,aU,cO,fe]);omega)) only[aA,dH]
      exact K g H
     .dsimp only
      rw[bU iN,xu]
      rfl
     .dsimp only
      rw[anm w];simp only[aY,aU,cO,fe];omega
     .dsimp only
      simp(disch:=((try simp only[aY,aU,cO,fe]);omega)) only[aA,dH]
      rw[d 0 aa];exact y
 .have es:s=k:=by omega
  subst es;rw[xu]at u;have hna:∀b m:Nat,dO (cu b m)=true:=λb m=>by unfold cu;split<;>rfl
  have C:∀B:al,aq (ar σ 0 B) 0=some B:=λB=>bU (by rw[hlen];unfold fB;split<;>omega)
  have Gm:=λ(ce:CE) (c0 c1 c2 c3 c4 c5 c6 c7 c8 c9:AV)=>oI (ce:=ce) (σ:=ar σ 0 ⟨some 10,[c0,c1,c2,c3,c4,c5,c6,c7,c8,c9],.live⟩) (n:=0) (C _);simp[-aj,u,y,hna,C,Gm];exact⟨xu.symm,x.other λt B o=>aA (Ne.symm (KY (pK o)).2)⟩
abbrev iB:=Int×Int×List Int
def mD (c:iB):AV:=.agg [.int c.1,.int c.2.1,iL c.2.2]
abbrev MG (l:List iB):AV:=.aF false (l.map mD)
structure XX (D:Vd) (cls:List Int) (l:List iB):Prop where
 vn:j9 D
 vo:tF D
 k:1<=l.length/\l.length<=128
 kc:l.length*D.n.calls.toNat<=128
 cl:cls.length=D.K.length
 cr:∀c∈cls,0<=c/\c<(l.length:Int)
 v:∀c∈l,0<=c.2.1/\c.2.1<(D.K.length:Int)
 c:∀c∈l,0<=c.1/\c.1<(l.length:Int)
 nd:(l.map λc=>c.1).Nodup
 s0:D.n.start<(D.plc.length:Int)
 s1:0<=D.iV/\D.iV<(D.n.bj.length:Int)
def xy (l:List iB) (i:Nat):Int:=(ix l (i:Int)).2.1
def v8 (l:List iB) (i:Nat):Int:=(ix l (i:Int)).1
def XY (st cls:List Int) (y:Int):Int:=ix st (ix cls y)
def vg (D:Vd) (cls:List Int) (l:List iB) (st:List Int) (i g r:Nat):Int:=if D.n.calls.toNat=0 then 0 else XY st cls (D.bk (xy l (g/D.n.calls.toNat)) ((g%D.n.calls.toNat:Nat):Int) (xy l i) (r:Int))
def DI (D:Vd) (cls:List Int) (l:List iB) (st:List Int) (i j:Nat):Int:=XY st cls (D.im (xy l i) (j:Int))
structure mI (D:Vd) (cls:List Int) (l:List iB) (st:List Int) (a s J G R:Nat) (A:ao):Prop where
 h1:A.calls=D.n.calls
 h2:A.ak=D.n.ak
 h3:A.ah=D.n.ah
 h4:A.stack=((D.n.aE l.length:Nat):Int)
 h5:A.start=0
 h6:A.call=(D.n.dT l.length l.length).call
 h7:A.push=(D.n.dT l.length l.length).push
 la:A.accept.length=l.length
 li:A.inner.length=l.length
 qG:∀i,i<l.length->(A.cE .aQ i).length=D.n.ak.toNat
 lp:A.pop.length=l.length
 nK:∀i,i<l.length->(A.bD i).length=D.n.aE l.length
 qH:∀i g,i<l.length->g<D.n.aE l.length->(A.cH i g).length=D.n.ah.toNat
 ac:∀i:Nat,i<l.length->ix A.accept (i:Int)=if i<a then D.ac D.iV (xy l i)else false
 aQ:∀i j:Nat,i<l.length->j<D.n.ak.toNat->ix (A.cE .aQ i) (j:Int)=if i<s\/i=s/\j<J then DI D cls l st i j else 0
 pop:∀i g r:Nat,i<l.length->g<D.n.aE l.length->r<D.n.ah.toNat->ix (A.cH i g) (r:Int)=if i<s\/i=s/\(g<G\/g=G/\r<R)then vg D cls l st i g r else 0
variable{cls st:List Int}{l:List iB}
def UJ:mI D cls l st 0 0 0 0 0 (D.n.dT l.length l.length):=by
 refine⟨rfl,rfl,rfl,rfl,rfl,rfl,rfl,by simp[ao.dT],by simp[ao.dT],λi a=>by rw[KW a];rfl,nJ,λi a=>by rw[(kZ a).2.2.2];simp,λi g a b=>by rw[u9 a b];simp,λi a=>?_,λi j a d=>?_,λi g r a b e=>?_⟩
 .rw[ad aa];exact lQ a
 .rw[ad aa,(kZ a).2.2.1];exact lQ d
 .rw[ad aa,u9 a b];exact lQ e
variable{J R:Nat}{A:ao}
def mI.bV{s G:Nat}(h:mI D cls l st a s J G R A) (hk:l.length ≠ 0) (p:Tn->Nat):A.bV p=[.int D.n.calls,.int D.n.ak,.int D.n.ah,.int ((D.n.aE l.length:Nat):Int),.int 0,.sl (p .ac) l.length 0 l.length,.sl (p (.ls .cl)) l.length 0 l.length,.sl (p (.ls .ps)) l.length 0 l.length,.sl (p (.ls .aQ)) l.length 0 l.length,.sl (p .po) l.length 0 l.length]:=by
 have e1:A.call.length=l.length:=by rw[h.h6];exact nI .cl
 have e2:A.push.length=l.length:=by rw[h.h7];exact nI .ps
 unfold ao.bV cu;rw[h.h1,h.h2,h.h3,h.h4,h.h5,h.la,e1,e2,h.li,h.lp,ad hk,ad hk,ad hk,ad hk]
def mI.nE{s G:Nat}(h:mI D cls l st s s J G R A) (hs:s<l.length):mI D cls l st (s+1) s J G R {A with accept:=A.accept.set s (D.ac D.iV (xy l s))}:=by
 refine⟨h.h1,h.h2,h.h3,h.h4,h.h5,h.h6,h.h7,by simp[h.la],h.li,h.qG,h.lp,h.nK,h.qH,λi hi=>?_,h.aQ,h.pop⟩
 show ix (A.accept.set s _) (i:Int)=_;rw[jm (by rw[h.la];exact hs)]
 by_cases e:i=s
 .rw[ae e,ae aa,e]
 .rw[ad e,h.ac i hi]
  by_cases e2:i<s
  .rw[ae e2,ae aa]
  .rw[ad e2,ad aa]
def mI.nG{s G:Nat}(h:mI D cls l st a s J G R A) (hs:s<l.length) (hJ:J<D.n.ak.toNat):mI D cls l st a s (J+1) G R {A with inner:=A.inner.set s ((A.cE .aQ s).set J (DI D cls l st s J))}:=by
 have gV:∀s' : Nat,ao.cE {A with inner:=A.inner.set s ((A.cE .aQ s).set J (DI D cls l st s J))} .aQ s' = if s' = s then(A.cE .aQ s).set J (DI D cls l st s J)else A.cE .aQ s' :=λs' =>jm (by rw[h.li];exact hs) s'
 refine⟨h.h1,h.h2,h.h3,h.h4,h.h5,h.h6,h.h7,h.la,by simp[h.li],λi hi=>?_,h.lp,h.nK,h.qH,h.ac,λi j hi hj=>?_,h.pop⟩
 .rw[gV]
  split
  .rw[ox];exact h.qG s hs
  .exact h.qG i hi
 .rw[gV]
  by_cases e:i=s
  .rw[ae e,jm (by rw[h.qG s hs];exact hJ)]
   by_cases e2:j=J
   .rw[ae e2,ae (.inr ⟨e,aa⟩),e,e2]
   .subst e
    rw[ad e2,h.aQ i j hi hj]
    by_cases e3:j<J
    .rw[ae (.inr ⟨rfl,e3⟩),ae (.inr ⟨rfl,aa⟩)]
    .rw[ad aa,ad aa]
  .rw[ad e,h.aQ i j hi hj]
   by_cases e3:i<s
   .rw[ae (.inl e3),ae (.inl e3)]
   .rw[ad aa,ad aa]
def mI.nH{s G:Nat}(h:mI D cls l st a s J G R A) (hs:s<l.length) (hG:G<D.n.aE l.length) (hR:R<D.n.ah.toNat):mI D cls l st a s J G (R+1) {A with pop:=A.pop.set s ((A.bD s).set G ((A.cH s G).set R (vg D cls l st s G R)))}:=by
 have gV:∀s' : Nat,ao.bD {A with pop:=A.pop.set s ((A.bD s).set G ((A.cH s G).set R (vg D cls l st s G R)))} s' = if s' = s then(A.bD s).set G ((A.cH s G).set R (vg D cls l st s G R))else A.bD s' :=λs' =>jm (by rw[h.lp];exact hs) s'
 have pJ:∀s' g' : Nat,ao.cH {A with pop:=A.pop.set s ((A.bD s).set G ((A.cH s G).set R (vg D cls l st s G R)))} s' g' = if s' = s/\g' = G then(A.cH s G).set R (vg D cls l st s G R)else A.cH s' g' :=λs' g' =>by
  generalize (A.cH s G).set R (vg D cls l st s G R)=w at *;unfold ao.cH;rw[gV]
  by_cases e:s' = s
  .rw[ae e,jm (by rw[h.nK s hs];exact hG)]
   by_cases e2:g' = G
   .rw[ae e2,ae ⟨e,e2⟩]
   .rw[ad e2,ad λa=>e2 a.2,e]
  .rw[ad e,ad λa=>e a.1]
 refine⟨h.h1,h.h2,h.h3,h.h4,h.h5,h.h6,h.h7,h.la,h.li,h.qG,by simp[h.lp],λi hi=>?_,λi g hi hg=>?_,h.ac,h.aQ,λi g r hi hg hr=>?_⟩
 .rw[gV]
  split
  .rw[ox];exact h.nK s hs
  .exact h.nK i hi
 .rw[pJ]
  split
  .rw[ox];exact h.qH s G hs hG
  .exact h.qH i g hi hg
 .rw[pJ]
  by_cases e:i=s/\g=G
  .rw[ae e,jm (by rw[h.qH s G hs hG];exact hR)]
   by_cases e2:r=R
   .rw[ae e2,ae (.inr ⟨e.1,.inr ⟨e.2,aa⟩⟩),e.1,e.2,e2]
   .have hp:=h.pop s G r hs hG hr
    rw[ad e2,hp,e.1,e.2]
    by_cases e3:r<R
    .rw[ae (.inr ⟨rfl,.inr ⟨rfl,e3⟩⟩),ae (.inr ⟨rfl,.inr ⟨rfl,aa⟩⟩)]
    .rw[ad aa,ad aa]
  .rw[ad e,h.pop i g r hi hg hr]
   by_cases e3:i<s\/i=s/\(g<G\/g=G/\r<R)
   .rw[ae e3,ae aa]
   .rw[ad e3,ad aa]
def mI.Aq{s G:Nat}(h:mI D cls l st a s J G D.n.ah.toNat A):mI D cls l st a s J (G+1) 0 A:=by
 refine⟨h.h1,h.h2,h.h3,h.h4,h.h5,h.h6,h.h7,h.la,h.li,h.qG,h.lp,h.nK,h.qH,h.ac,h.aQ,λi g r hi hg hr=>?_⟩;rw[h.pop i g r hi hg hr]
 by_cases e3:i<s\/i=s/\(g<G\/g=G/\r<D.n.ah.toNat)
 .rw[ae e3,ae aa]
 .rw[ad e3,ad aa]
def mI.Ar{s:Nat}(h:mI D cls l st (s+1) s D.n.ak.toNat (l.length*D.n.calls.toNat) 0 A):mI D cls l st (s+1) (s+1) 0 0 0 A:=by
 refine⟨h.h1,h.h2,h.h3,h.h4,h.h5,h.h6,h.h7,h.la,h.li,h.qG,h.lp,h.nK,h.qH,h.ac,λi j hi hj=>?_,λi g r hi hg hr=>?_⟩
 .rw[h.aQ i j hi hj]
  by_cases e3:i<s\/i=s/\j<D.n.ak.toNat
  .rw[ae e3,ae aa]
  .rw[ad e3,ad aa]
 .rw[h.pop i g r hi hg hr]
  by_cases hc:D.n.calls.toNat=0
  .have:vg D cls l st i g r=0:=ae hc
   rw[this];simp
  .have gG:D.n.aE l.length=max 1 (l.length*D.n.calls.toNat):=rfl
   have:1<=l.length*D.n.calls.toNat:=Nat.mul_pos aa aa
   by_cases e3:i<s\/i=s/\(g<l.length*D.n.calls.toNat\/g=l.length*D.n.calls.toNat/\r<0)
   .rw[ae e3,ae aa]
   .rw[ad e3,ad aa]
def tH (D:Vd) (cls:List Int) (l:List iB) (st:List Int):ao:=⟨D.n.calls,D.n.ak,D.n.ah,((D.n.aE l.length:Nat):Int),0,(List.range l.length).map λi=>D.ac D.iV (xy l i),(D.n.dT l.length l.length).call,(D.n.dT l.length l.length).push,(List.range l.length).map λi=>(List.range D.n.ak.toNat).map λj=>DI D cls l st i j,(List.range l.length).map λi=>(List.range (D.n.aE l.length)).map λg=>(List.range D.n.ah.toNat).map λr=>vg D cls l st i g r⟩
def oJ{a:Type} [Inhabited a]{l:List a}{f:Nat->a}(b:l.length=k) (h:∀i:Nat,i<k->ix l (i:Int)=f i):l=(List.range k).map f:=by
 refine me fj λi d e=>?_
 have:=h i aa
 rw[aB d]at this;simp[this]
def mI.fin(h:mI D cls l st l.length l.length 0 0 0 A):A=tH D cls l st:=by
 obtain⟨c,i,r,sk,s0,ac,cl,ps,aQ,po⟩:=A;have e1:c=D.n.calls:=h.h1;have e2:i=D.n.ak:=h.h2;have e3:r=D.n.ah:=h.h3;have e4:sk=((D.n.aE l.length:Nat):Int):=h.h4;have e5:s0=0:=h.h5;have e6:cl=(D.n.dT l.length l.length).call:=h.h6;have e7:ps=(D.n.dT l.length l.length).push:=h.h7;have e8:ac=(List.range l.length).map λi=>D.ac D.iV (xy l i):=oJ h.la λi hi=>by
  have:=h.ac i hi;rw[ae hi]at this;exact this
 have e9:aQ=(List.range l.length).map λi=>(List.range D.n.ak.toNat).map λj=>DI D cls l st i j:=oJ h.li λi hi=>oJ (h.qG i hi) λj hj=>by
  have:=h.aQ i j hi hj;rw[ae (.inl hi)]at this;exact this
 have e10:po=(List.range l.length).map λi=>(List.range (D.n.aE l.length)).map λg=>(List.range D.n.ah.toNat).map λr=>vg D cls l st i g r:=oJ h.lp λi hi=>oJ (h.nK i hi) λg hg=>oJ (h.qH i g hi hg) λr hr=>by
  have:=h.pop i g r hi hg hr;rw[ae (.inl hi)]at this;exact this
 rw[e1,e2,e3,e4,e5,e6,e7,e8,e9,e10];rfl
end Ab
