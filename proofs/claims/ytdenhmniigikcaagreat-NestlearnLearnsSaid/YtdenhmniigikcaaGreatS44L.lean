/- The rank of a word, and first words; and what it leans on. Condition: none. -/
import Derived.Test.YtdenhmniigikcaaGreatN43Word
import Derived.Test.YtdenhmniigikcaaGreatN44P
import Derived.Test.YtdenhmniigikcaaGreatN44Y
set_option linter.all false
set_option maxRecDepth 100000
set_option maxHeartbeats 4000000
open Option renaming some->aa,none->ab
open Bool renaming true->ad,false->ae
open List renaming range->af,replicate->ag,length->ah
open Int renaming toNat->aj
namespace Ab
def dU:ak->Nat
 | []=>0
 |x::w=>(aj x+1)*65^ah w+dU w
def sy (w:ak):Prop:=∀x∈w,0<=x/\x<64
variable{x:Int}
def Cx{w:ak}:sy (x::w)↔(0<=x/\x<64)/\sy w:=by simp[sy]
variable{u v:ak}
def an9:sy (u++v)↔sy u/\sy v:=by
 simp only[sy,dI];exact⟨λh=>⟨λx a=>h x (.inl a),λx a=>h x (.inr a)⟩,λh x a=>a.elim (h.1 x) (h.2 x)⟩
def Cy:∀{w:ak},sy w->dU w<65^ah w
 | [],_=>by simp[dU]
 |x::w,h=>by
  obtain⟨d,a⟩:=Cx.1 h;have e:=Cy a;have b:aj x+1<=64:=ax
  have:(aj x+1)*65^ah w<=64*65^ah w:=mq _ b;rw[cT,Nat.pow_succ,dU];omega
def VQ{w:ak}:65^ah w<=dU (x::w):=by
 rw[dU];have:1*65^ah w<=(aj x+1)*65^ah w:=mq _ ax
 omega
def Cz(a:sy u) (h:ah u<ah v):dU u<dU v:=by
 cases v with
 |nil=>simp at h
 |cons y v=>
  have b:=Cy a;have d:=VQ (x:=y) (w:=v);have e:65^ah u<=65^ah v:=Nat.pow_le_pow_right ax (by simpa using Nat.le_of_lt_succ h)
  omega
def wZ(a:sy v) (h:dU u<=dU v):ah u<=ah v:=by
 refine dP λb=>?_;have:=Cz a (show (ah v)<ah u by omega)
 omega
def VT:∀{u v:ak},sy u->sy v->ah u=ah v->dx u v<0->dU u<dU v
 | [],[],_,_,_,h=>by simp[dx]at h
 | [],_::_,_,_,h,_=>by simp at h
 |_::_,[],_,_,h,_=>by simp at h
 |x::u,y::v,i,j,l,h=>by
  obtain⟨o,g⟩:=Cx.1 i;obtain⟨p,m⟩:=Cx.1 j;have d : ah u=ah v:=by simpa using l
  unfold dx at h;rw[dU,dU];split at h
  .rename_i n
   have a:=Cy g;rw[d]at a ⊢;have:(aj x+1+1)*65^ah v<=(aj y+1)*65^ah v:=mq _ ax
   rw[fG (aj x+1)]at this;omega
  .split at h
   .omega
   .rename_i a b
    have e:x=y:=ax
    subst e;have:=VT g m d h;rw[d];omega
def Ml(a:sy u) (b:sy v) (h:bD u v<0):dU u<dU v:=by
 unfold bD at h;split at h
 .exact Cz a jE
 .split at h
  .omega
  .exact VT a b ax h
def xc(a:sy u) (b:sy v):bD u v<=0↔dU u<=dU v:=by
 constructor
 .intro h
  by_cases e:bD u v=0
  .rw[dO.eq _ _ e];exact bG _
  .exact Nat.le_of_lt (Ml a b ax)
 .intro h
  refine dP λd=>?_;have:=dO.gV u v;have:=Ml b a ax
  omega
def VU(a:sy u) (b:sy v) (h:dU u=dU v):u=v:=by
 refine dO.eq u v ?_;have d:=(xc a b).2 ax
 have e:=(xc b a).2 ax
 have:=dO.gV u v;omega
def Mm:∀{u v:ak},dU (u++v)=dU u*65^ah v+dU v
 | [],v=>by simp[dU]
 |x::u,v=>by
  rw[kK,dU,dU,Mm,bM,Nat.pow_add,fG ((aj x+1)*65^ah u),Nat.mul_assoc,Nat.add_assoc]
variable{v': ak}
def Mn{u u' v: ak}(a:sy v') (b:dU u<=dU u') (d:dU v<=dU v'):dU (u++v)<=dU (u' ++ v'):=by
 rw[Mm,Mm];have e:=wZ a d;have g:65^ah v<=65^ah v':=Nat.pow_le_pow_right ax e
 have:=kH b g;omega
def aoa{v: ak}(a:sy v') (b:dU v<=dU v'):dU (x::v)<=dU (x::v'):=Mn (u:=[x]) (u' :=[x]) a (bG _) b
def tH (P:ak->Prop) (w:ak):Prop:=(P w/\ah w<=1024)/\∀v,P v->dU w<=dU v
variable{P:ak->Prop}
def Mp(i:∀w,P w->sy w):∀{w:ak},P w->ah w<=1024->∃v,tH P v:=by
 have:∀(n:Nat) (w:ak),dU w<=n->P w->∃v,P v/\dU v<=dU w/\∀u,P u->dU v<=dU u:=by
  intro n
  induction n with
  |zero=>exact λw h a=>⟨w,a,bG _,λu _=>ax⟩
  |succ n j=>
   intro w h a
   by_cases e:∃u,P u/\dU u<dU w
   .obtain⟨u,l,o⟩:=e
    obtain⟨v,b,g,d⟩:=j u ax l
    exact⟨v,b,ax,d⟩
   .exact⟨w,a,bG _,λu m=>by
     refine dP λp=>e ⟨u,m,ax⟩⟩
 intro w a q;obtain⟨v,b,g,d⟩:=this _ w (bG _) a;exact⟨v,⟨b,by have:=wZ (i w a) g;omega⟩,d⟩
def aob(a:∀w,P w->sy w)(h:tH P u) (k:tH P v):u=v:=by
 refine VU (a u h.1.1) (a v k.1.1) ?_;have:=h.2 v k.1.1;have:=k.2 u h.1.1;omega
open Classical in
noncomputable def lG (P:ak->Prop):Option ak:=if h:∃w,tH P w then aa (choose h)else ab
def CA{w:ak}(h:lG P=aa w):tH P w:=by
 unfold lG at h;split at h
 .rename_i a
  injection h with h
  rw[<-h];exact Classical.choose_spec a
 .simp at h
def FH(a:∀w,P w->sy w){w:ak}(h:tH P w):lG P=aa w:=by
 unfold lG;rw[dif_pos ⟨w,h⟩];exact congrArg aa (aob a (Classical.choose_spec (⟨w,h⟩:∃w,tH P w)) h)
structure eZ.Sm (M:eZ):Prop where
 ok:M.Ok
 sum:M.ay+M.aG+M.aM<=64
def Wd.sy{M:eZ}(hM:M.Sm){s t:Int}{w:ak}(h:Wd M s t w):Ab.sy w:=λx hx=>by
 have:=(h.run ⟨hM.ok.ay.1,hM.ok.aG.1,hM.ok.aM.1⟩).1 x hx;have:=hM.sum;omega
def Wd.range{M:eZ}(hM:M.Ok){s t:Int}{w:ak}(h:Wd M s t w) (hs:0<=s/\s<(M.size:Int)):0<=t/\t<(M.size:Int):=h.conn.range hM hs
noncomputable def eZ.lk (M:eZ) (s t:Int):Option ak:=lG (Wd M s t)
inductive mL (M:eZ):Int->Int->ak->Prop
 |bp (s i:Int):0<=i->i<M.aG->mL M s (M.aH s i) [M.ay+i]
 |call (s c p r:Int) (u:ak):0<=c->c<M.ay->0<=r->r<M.aM->Wd M (M.call s c).1 p u->mL M s (M.aP p (M.call s c).2 r) (c::(u ++ [M.ay+M.aG+r]))
def mL.wd{M:eZ}{s t:Int}{w:ak}(h:mL M s t w):Wd M s t w:=by
 cases h with
 |bp i h0 h1=>exact .bp s i _ [] h0 h1 (.nil _)
 |call c p r u h0 h1 h2 h3 h4=>exact .call s c p r _ u [] h0 h1 h2 h3 h4 (.nil _)
def mL.pos{M:eZ}{s t:Int}{w:ak}(h:mL M s t w):1<=ah w:=by
 cases h<;>simp
def mL.then{M:eZ}{s p t:Int}{a b:ak}(h:mL M s p a) (k:Wd M p t b):Wd M s t (a++b):=h.wd.app k
def aoc{M:eZ}{s t:Int}{w:ak}(h:Wd M s t w):(s=t/\w=[])\/∃p a b,w=a++b/\mL M s p a/\Wd M p t b:=by
 cases h with
 |nil s=>exact .inl ⟨rfl,rfl⟩
 |bp s i t w d e g=>exact .inr ⟨_,[M.ay+i],w,rfl,.bp s i d e,g⟩
 |call s c p r t u v d e g j l m=>exact .inr ⟨_,c::(u ++ [M.ay+M.aG+r]),v,aA,.call s c p r u d e g j l,m⟩
noncomputable def eZ.sk (M:eZ) (s t:Int):Option ak:=lG (mL M s t)
section
variable{M:eZ}{s t:Int}{w:ak}
def rX (a:M.Sm):M.lk s t=aa w↔tH (Wd M s t) w:=⟨CA,FH λw h=>h.sy a⟩
def FI (a:M.Sm):M.sk s t=aa w↔tH (mL M s t) w:=⟨CA,FH λw h=>h.wd.sy a⟩
def ye (a:M.Sm) (h:Wd M s t w) (d:ah w<=1024):∃v,M.lk s t=aa v/\dU v<=dU w/\ah v<=ah w:=by
 obtain⟨v,b⟩:=Mp (λw h=>Wd.sy a h) h d;exact⟨v,(rX a).2 b,b.2 w h,wZ (h.sy a) (b.2 w h)⟩
def VV (a:M.Sm) (h:mL M s t w) (d:ah w<=1024):∃v,M.sk s t=aa v/\dU v<=dU w/\ah v<=ah w:=by
 obtain⟨v,b⟩:=Mp (λw h=>(mL.wd h).sy a) h d;exact⟨v,(FI a).2 b,b.2 w h,wZ (h.wd.sy a) (b.2 w h)⟩
end
end Ab
namespace Ab
def Mq:∀(l:ak) (F:List Bool),(∀y∈l,0<=y/\y<(ah F:Int))->(∀y:Int,0<=y->(ix (jc l F).2 y=ad↔ix F y=ad\/y∈l))/\(∀y,y∈(jc l F).1↔y∈l/\ix F y=ae)/\(jc l F).1.Nodup
 | [],F,_=>⟨λy _=>by simp[jc],λy=>by simp[jc],by simp[jc]⟩
 |x::l,F,h=>by
  have o:=h x aA
  simp only[jc]
  by_cases e:ix F x=ad
  .rw[aD e]
   obtain⟨j,g,m⟩:=Mq l F λy n=>h y (by simp[n])
   refine⟨λy d=>?_,λy=>?_,m⟩
   .rw[j y d,cC]
    constructor
    .rintro(a|a)
     .exact .inl a
     .exact .inr (.inr a)
    .rintro(a|rfl|a)
     .exact .inl a
     .exact .inl e
     .exact .inr a
   .rw[g y,cC]
    constructor
    .exact λa=>⟨.inr a.1,a.2⟩
    .rintro⟨rfl|a,b⟩
     .rw[e]at b;simp at b
     .exact⟨a,b⟩
  .rw[aC e]
   have p : ix F x=ae:=iT
   obtain⟨j,g,m⟩:=Mq l (F.set (aj x) ad) λy n=>by simpa using h y (by simp[n])
   have i:∀y:Int,0<=y->ix (F.set (aj x) ad) y=if y=x then ad else ix F y:=λy d=>by
    rw[tG ax d]
    by_cases q:y=x
    .rw[aD q,aD ax]
    .rw[aC q,aC ax]
   refine⟨λy d=>?_,λy=>?_,?_⟩
   .show ix (jc l (F.set (aj x) ad)).2 y=ad↔_
    rw[j y d,i y d,cC]
    by_cases q:y=x
    .simp[q]
    .simp[q]
   .show y∈x::(jc l (F.set (aj x) ad)).1↔_
    rw[cC,g y,cC];constructor
    .rintro(rfl|⟨a,b⟩)
     .exact⟨.inl rfl,p⟩
     .have d:=(h y gf).1
      rw[i y d]at b;split at b
      .simp at b
      .exact⟨.inr a,b⟩
    .rintro⟨rfl|a,b⟩
     .exact .inl rfl
     .by_cases q:y=x
      .exact .inl q
      .have d:=(h y gf).1
       exact .inr ⟨a,by rw[i y d,aC q];exact b⟩
   .show(x::(jc l (F.set (aj x) ad)).1).Nodup
    rw[nw];refine⟨λr=>?_,m⟩;have:=((g x).1 r).2;rw[i x o.1,aD rfl]at this;simp at this
variable{D:Vd}
def Dv.sy(h:kQ D) (hs:D.n.ay+D.n.aG+D.n.aM<=64){x:Int}{w:ak}(hd:Dv D x w):Ab.sy w:=λa ha=>by
 have:=hd.sym h a ha;omega
variable{z:Int}
def VW(h:kQ D) (d:D.n.ay+D.n.aG+D.n.aM<=64){w:ak}(hd:Dv D z w):∃v,mg D z v/\ah v<=ah w:=by
 have:∀(n:Nat) (w:ak),dU w<=n->Dv D z w->∃v,Dv D z v/\dU v<=dU w/\∀u,Dv D z u->dU v<=dU u:=by
  intro n
  induction n with
  |zero=>exact λw h e=>⟨w,e,bG _,λu _=>ax⟩
  |succ n l=>
   intro w h e
   by_cases i:∃u,Dv D z u/\dU u<dU w
   .obtain⟨u,m,o⟩:=i
    obtain⟨v,a,j,g⟩:=l u ax m
    exact⟨v,a,ax,g⟩
   .exact⟨w,e,bG _,λu b=>by
     refine dP λp=>i ⟨u,b,ax⟩⟩
 obtain⟨v,a,j,g⟩:=this _ w (bG _) hd;exact⟨v,⟨a,λu b=>(xc (a.sy h d) (b.sy h d)).2 (g u b)⟩,wZ (hd.sy h d) j⟩
structure Sr (D:Vd) (n:Nat) (S:Fd):Prop where
 w:nU S
 l:ah S.W=ah D.K
 dv:∀z w,0<=z->z<(ah S.W:Int)->ix S.W z=aa w->Dv D z w
 bk:∀z w,0<=z->z<(ah S.W:Int)->ix S.F z=ae->ix S.W z=aa w->z∈S.eM (ah w)
 fd:∀z,0<=z->z<(ah S.W:Int)->(ix S.F z=ad↔∃w,mg D z w/\ah w<n)
 lw:∀z w,mg D z w->ah w<n->ix S.W z=aa w
 nd:∀y∈S.N,(0<=y/\y<(ah S.W:Int))/\ix S.F y=ad
 nn:S.N.Nodup
 o0:sz S 0 []
 oi:∀x∈S.N,∀wx,mg D x wx->∀i,0<=i->i<D.n.aG->sz S (D.im x i) (wx ++ [D.n.ay+i])
 ob:∀x∈S.N,∀y∈S.N,∀wx wy,mg D x wx->mg D y wy->∀c r,0<=c->c<D.n.ay->0<=r->r<D.n.aM->sz S (D.bk x c y r) (wx++c::(wy ++ [D.n.ay+D.n.aG+r]))
def ZP (S:Fd):Prop:=∀z:Int,0<=z->z<(ah S.W:Int)->ix S.F z=ad->z∈S.N
variable{S:Fd}
def Sr.wS(hD:kQ D){n:Nat}(h:Sr D n S) (ha:ZP S) (hn:n<=1024){t:ak}(ht:mg D z t) (hl:ah t=n):ix S.W z=aa t/\ix S.F z=ae:=by
 have hz:=ht.1.gi hD;have hf:ix S.F z=ae:=by
  cases e:ix S.F z with
  |false=>rfl
  |true=>
   obtain⟨w,hw,cw⟩:=(h.fd z hz.1 (by rw[h.l];exact hz.2)).1 e
   rw[hw.rq ht]at cw;omega
 refine⟨?_,hf⟩;have mem:∀{x w},mg D x w->ah w<n->x∈S.N:=fun {x w} hx cw=>by
  have:=hx.1.gi hD;exact ha x this.1 (by rw[h.l];exact this.2) ((h.fd x this.1 (by rw[h.l];exact this.2)).2 ⟨w,hx,cw⟩)
 have ho:sz S z t:=by
  rcases ht.made with⟨rfl,rfl⟩|⟨x,i,w,i0,i1,hx,rfl,rfl⟩|⟨x,c,y,r,w,u,c0,c1,r0,r1,hx,hy,rfl,rfl⟩
  .exact h.o0
  .simp at hl
   exact h.oi x (mem hx ax) w hx i i0 i1
  .simp at hl
   exact h.ob x (mem hx ax) y (mem hy ax) w u hx hy c r c0 c1 r0 r1
 rcases ho with a|a|⟨v,a,b⟩
 .omega
 .rw[hf]at a;simp at a
 .have h1:=ht.2 v (h.dv z v hz.1 (by rw[h.l];exact hz.2) a)
  have h2:=dO.gV v t;rw[a,dO.eq v t ax]
def Sr.take(hD:kQ D) (hs:D.n.ay+D.n.aG+D.n.aM<=64){n:Nat}(h:Sr D n S) (ha:ZP S) (hn:n<=1024):Sr D (n+1) {S with F:=(jc (S.eM n) S.F).2}/\(∀x,x∈(jc (S.eM n) S.F).1↔∃w,mg D x w/\ah w=n)/\(jc (S.eM n) S.F).1.Nodup:=by
 have hr:∀y∈S.eM n,0<=y/\y<(ah S.F:Int):=λy hy=>by
  have:=(h.w.bm n y hy).1;rw[h.w.f];exact this
 obtain⟨t1,t2,t3⟩:=Mq (S.eM n) S.F hr;have lD:∀x,x∈(jc (S.eM n) S.F).1↔∃w,mg D x w/\ah w=n:=λx=>by
  rw[t2 x];constructor
  .rintro⟨hb,hf⟩
   obtain⟨⟨x0,x1⟩,w,hw,Mr⟩:=h.w.bm n x hb;obtain⟨v,hv,yB⟩:=VW hD hs (h.dv x w x0 x1 hw);refine⟨v,hv,dP λhc=>?_⟩;rw[(h.fd x x0 x1).2 ⟨v,hv,ax⟩]at hf
   simp at hf
  .rintro⟨w,hw,hl⟩
   obtain⟨a,b⟩:=h.wS hD ha hn hw hl;have:=hw.1.gi hD;have:=h.bk x w this.1 (by rw[h.l];exact this.2) b a
   rw[hl]at this;exact⟨this,b⟩
 have mono:∀z:Int,0<=z->ix S.F z=ad->ix (jc (S.eM n) S.F).2 z=ad:=λz z0 a=>(t1 z z0).2 (.inl a);have Ms:∀z t,0<=z->sz S z t->sz {S with F:=(jc (S.eM n) S.F).2} z t:=λz t z0 a=>by
  rcases a with a|a|a
  .exact .inl a
  .exact .inr (.inl (mono z z0 a))
  .exact .inr (.inr a)
 refine⟨⟨⟨by show(ah (jc (S.eM n) S.F).2)=_;rw[(Cu _ _).1];exact h.w.f,h.w.r,h.w.n,h.w.nd,h.w.bm,h.w.wl⟩,h.l,h.dv,λz w z0 z1 hf hw=>?_,λz z0 z1=>?_,λz w hw hl=>?_,λy hy=>⟨(h.nd y hy).1,mono y (h.nd y hy).1.1 (h.nd y hy).2⟩,h.nn,Ms 0 [] ax h.o0,λx hx wx Cw i i0 i1=>?_,λx hx y hy wx wy Cw zF c r c0 c1 r0 r1=>?_⟩,lD,t3⟩
 .refine h.bk z w z0 z1 ?_ hw
  cases e:ix S.F z with
  |false=>rfl
  |true=>
   have:=mono z z0 e;rw[show ix (jc (S.eM n) S.F).2 z=ae from hf]at this;simp at this
 .show ix (jc (S.eM n) S.F).2 z=ad↔_
  rw[t1 z z0];constructor
  .intro a
   by_cases e:ix S.F z=ad
   .obtain⟨w,hw,hl⟩:=(h.fd z z0 z1).1 e
    exact⟨w,hw,ax⟩
   .rcases a with a|a
    .exact absurd a e
    .obtain⟨w,hw,hl⟩:=(lD z).1 ((t2 z).2 ⟨a,iT⟩)
     exact⟨w,hw,ax⟩
  .rintro⟨w,hw,hl⟩
   by_cases e:ah w=n
   .exact .inr ((t2 z).1 ((lD z).2 ⟨w,hw,e⟩)).1
   .exact .inl ((h.fd z z0 z1).2 ⟨w,hw,ax⟩)
 .by_cases e:ah w=n
  .exact(h.wS hD ha hn hw e).1
  .exact h.lw z w hw ax
 .have b:=(Dv.bp x i wx i0 i1 Cw.1).gi hD
  exact Ms _ _ b.1 (h.oi x hx wx Cw i i0 i1)
 .have b:=(Dv.aQ x c y r wx wy c0 c1 r0 r1 Cw.1 zF.1).gi hD
  exact Ms _ _ b.1 (h.ob x hx y hy wx wy Cw zF c r c0 c1 r0 r1)
variable{m x:Nat}
def Sr.push(hD:kQ D)(h:Sr D m S)(hx:x<ah D.K) (hf:ix S.F (x:Int)=ad) (VI:(x:Int)∉S.N):Sr D m (Fd.ext D x {S with N:=S.N ++ [(x:Int)]})/\(Fd.ext D x {S with N:=S.N ++ [(x:Int)]}).N=S.N ++ [(x:Int)]/\(Fd.ext D x {S with N:=S.N ++ [(x:Int)]}).F=S.F/\(∃wx,ix S.W (x:Int)=aa wx)/\∀y∈S.N ++ [(x:Int)],(0<=y/\y<(ah D.K:Int))/\ix S.F y=ad/\∃w,ix S.W y=aa w:=by
 have Ue:nU {S with N:=S.N ++ [(x:Int)]}:=⟨h.w.f,h.w.r,h.w.n,h.w.nd,h.w.bm,h.w.wl⟩
 have ZQ:∀y:Int,0<=y->y<(ah D.K:Int)->ix S.F y=ad->∃w,ix S.W y=aa w/\mg D y w:=λy y0 y1 hy=>by
  obtain⟨w,hw,hl⟩:=(h.fd y y0 (by rw[h.l];exact y1)).1 hy
  exact⟨w,h.lw y w hw hl,hw⟩
 obtain⟨wx,Cw,lx⟩:=ZQ x ax ax hf
 have hN:∀y∈S.N ++ [(x:Int)],(0<=y/\y<(ah D.K:Int))/\ix S.F y=ad:=λy hy=>by
  rcases dI.1 hy with hy|hy
  .have:=h.nd y hy
   rw[h.l]at this;exact this
  .simp at hy
   subst hy;exact⟨ax,hf⟩
 obtain⟨M,e1,e2⟩:=Mo.ext hD (S:={S with N:=S.N ++ [(x:Int)]}) Ue h.l hx Cw lx.1 λy hy=>by
  obtain⟨a,b⟩:=hN y hy;obtain⟨w,hw,lw⟩:=ZQ y a.1 a.2 b;exact⟨a,b,w,hw,lw.1⟩
 generalize Fd.ext D x {S with N:=S.N ++ [(x:Int)]}=T at *
 have hl:ah T.W=ah S.W:=M.k.l;have hF:T.F=S.F:=M.k.f;have VX:T.N=S.N ++ [(x:Int)]:=M.k.n;have Ms:∀z t,0<=z->z<(ah D.K:Int)->sz S z t->sz T z t:=λz t z0 z1 a=>M.o z t z0 (by show z<(ah S.W:Int);rw[h.l];exact z1) a
 refine⟨⟨M.k.w,by rw[hl,h.l],λz w z0 z1=>M.dv h.dv z w z0 (by rw[hl]at z1;exact z1),λz w z0 z1=>M.bk h.bk z w z0 (by rw[hl]at z1;exact z1),λz z0 z1=>by rw[hF];exact h.fd z z0 (by rw[hl]at z1;exact z1),λz w hw cw=>?_,λy hy=>?_,?_,Ms 0 [] ax ax h.o0,λy hy wy zF i i0 i1=>?_,λy hy u hu wy wu zF ZR c r c0 c1 r0 r1=>?_⟩,VX,hF,⟨wx,Cw⟩,λy hy=>?_⟩
 .have b:=hw.1.gi hD
  rw[M.k.k z b.1 ((h.fd z b.1 (by rw[h.l];exact b.2)).2 ⟨w,hw,cw⟩)]
  exact h.lw z w hw cw
 .rw[VX]at hy
  rw[hF,hl,h.l];exact hN y hy
 .rw[VX,uy]
  exact⟨h.nn,aA,λa ha b hb=>by simp at hb;subst hb;exact λe=>VI (e▸ha)⟩
 .have b:=(Dv.bp y i wy i0 i1 zF.1).gi hD
  rw[VX]at hy;rcases dI.1 hy with hy|hy
  .exact Ms _ _ b.1 b.2 (h.oi y hy wy zF i i0 i1)
  .simp at hy
   subst hy;rw[zF.rq lx];exact e1 i i0 i1
 .have b:=(Dv.aQ y c u r wy wu c0 c1 r0 r1 zF.1 ZR.1).gi hD
  have wOf:∀y∈S.N ++ [(x:Int)],∀w,mg D y w->ix S.W y=aa w:=λy hy w hw=>by
   obtain⟨a,b⟩:=hN y hy;obtain⟨w', hw', lw'⟩:=ZQ y a.1 a.2 b;rw[hw', lw'.rq hw]
  rw[VX]at hy hu
  by_cases e:y=x
  .subst e
   rw[zF.rq lx];exact(e2 u hu wu (wOf u hu wu ZR) c r c0 c1 r0 r1).1
  .by_cases e' : u=x
   .subst e'
    rw[ZR.rq lx];exact(e2 y hy wy (wOf y hy wy zF) c r c0 c1 r0 r1).2
   .have tZ : y∈S.N:=by
     rcases dI.1 hy with hy|hy
     .exact hy
     .simp at hy;exact absurd hy e
    have Ba : u∈S.N:=by
     rcases dI.1 hu with hu|hu
     .exact hu
     .simp at hu;exact absurd hu e'
    exact Ms _ _ b.1 b.2 (h.ob y tZ u Ba wy wu zF ZR c r c0 c1 r0 r1)
 .obtain⟨a,b⟩:=hN y hy
  obtain⟨w,hw,_⟩:=ZQ y a.1 a.2 b;exact⟨a,b,w,hw⟩
variable{va:AV}{σ τ:aq}
def FS.done{p p' : Tf->Nat}(h:FS S va p σ){x:Int}(hp:∀t,t ≠ .dn->p' t=p t)
  (h1:aQ τ (p .f)=aa ⟨aa 5,[va,.sl (p .wo) (ah S.W) 0 (ah S.W),.sl (p .fd) (ah S.F) 0 (ah S.F),.sl (p .rd) (ah S.R) 0 (ah S.R),.sl (p' .dn) (ah S.N+1) 0 (ah S.N+1)],.live⟩)
  (h2:aQ τ (p' .dn)=aa (Zb (S.N ++ [x])))
  (h3:∀t B,t ≠ .f->t ≠ .dn->S.cont va p t=aa B->aQ τ (p t)=aa B)
  (h4:(S.N ≠ []/\p' .dn=p .dn)\/ah σ<=p' .dn):FS {S with N:=S.N ++ [x]} va p' τ:=by
 refine h.step (λt=>t = .f\/t = .dn) (λt ht=>?_) (λt B ht hB=>?_) (λt B ht hB=>h3 t B (λe=>ht (.inl e)) (λe=>ht (.inr e)) hB) (λt B ht hB=>?_) λt u ht hu cw e=>?_
 .have t1:t ≠ .f:=λe=>ht (.inl e)
  have t2:t ≠ .dn:=λe=>ht (.inr e);refine⟨?_,hp t t2⟩;cases t with
  |f=>exact absurd rfl t1
  |dn=>exact absurd rfl t2
  |rd=>
   show aa (⟨ab,(af (ah S.R)).map λn=>dh (p' (.bk n)) (ah (S.eM n)),.live⟩:aO)=aa ⟨ab,(af (ah S.R)).map λn=>dh (p (.bk n)) (ah (S.eM n)),.live⟩;simp only[hp (.bk _) aA]
  |_=>rfl
 .rcases ht with rfl|rfl
  .rw[hp _ aA,h1,<-hB]
   simp[Fd.cont,dh,hp]
  .rw[h2,<-hB]
   simp[Fd.cont]
 .rcases ht with rfl|rfl
  .exact .inl ⟨⟨_,rfl⟩,hp _ aA⟩
  .exact h4.imp (λq=>⟨⟨_,aC q.1⟩,q.2⟩) id
 .have q:=h.lt (t:=.f) rfl
  rcases ht with rfl|rfl
  .rw[hp _ aA]at cw;omega
  .rcases hu with rfl|rfl
   .rw[hp .f aA]at e;omega
   .rfl
def ZS:ao:=ag 1025 .aJ
def mM (k:Nat):Fd:=⟨ag k ab,ag k ae,ag 1025 [],[]⟩
def Mt:Tf->Nat
 |.wo=>0
 |.fd=>1
 |.rd=>2
 |.f=>3
 |.dn=>0
 |.bk _=>0
variable{k:Nat}
def CB{n:Nat}:(mM k).eM n=[]:=by
 show ix (ag 1025 ([]:ak)) (n:Int)=[]
 by_cases h:n<1025
 .exact lF h
 .unfold ix
  rw[fI,il aT];rfl
def VY:ix (mM k).F z=ae:=by
 show ix (ag k ae) z=ae;unfold ix;rw[fI]
 by_cases h:aj z<k
 .rw[dG du];simp
 .rw[il aT];rfl
def yg:ix (mM k).W z=ab:=by
 show ix (ag k (ab:Option ak)) z=ab;unfold ix;rw[fI]
 by_cases h:aj z<k
 .rw[dG du];simp
 .rw[il aT];rfl
def VZ(d:k<=512):nU (mM k):=⟨by simp[mM],by simp[mM],by simpa[mM]using d,λn=>by rw[CB];simp,λn y a=>by rw[CB]at a;simp at a,λx w _ _ b=>by rw[yg]at b;simp at b⟩
def V0{n:Nat}{p:Tf->Nat}:(mM k).cont va p (.bk n)=ab:=aC (by rw[CB];simp)
def sr0(i:kQ D):Sr D 0 ((mM (ah D.K)).off 0 [])/\ZP ((mM (ah D.K)).off 0 []):=by
 have q:=VZ i.f.k;have j:ah (mM (ah D.K)).W=ah D.K:=by simp[mM]
 obtain⟨M,o⟩:=Mo.off (D:=D) q (x:=0) (c:=[]) (by rw[j];exact i.k) .nil
 generalize (mM (ah D.K)).off 0 []=T at *;have m:∀z,ix T.F z=ae:=λz=>by rw[M.k.f];exact VY
 have b:T.N=[]:=M.k.n;have g:ah T.W=ah (mM (ah D.K)).W:=M.k.l;exact⟨⟨M.k.w,by rw[g,j],λz w d e=>M.dv (λz w _ _ h=>by rw[yg]at h;simp at h) z w d (by rw[<-g];exact e),λz w d e=>M.bk (λz w _ _ _ h=>by rw[yg]at h;simp at h) z w d (by rw[<-g];exact e),λz d e=>by rw[m];simp,λz w _ h=>ax,λy p=>by rw[b]at p;simp at p,by rw[b];simp,o,λx a=>by rw[b]at a;simp at a,λx a=>by rw[b]at a;simp at a⟩,λz _ _ h=>by rw[m]at h;simp at h⟩
def aod (D:Vd) (Q:kQ D) (hs:D.n.ay+D.n.aG+D.n.aM<=64) :
  LX L ED [D.vcs.av] [] (λr τ=>∃S:Fd,cK τ ae r=aa (.bY [bU (S.W.map λo=>o.getD []),bL S.F])/\Sr D 1025 S):=by
 refine ajU rfl ?_;have uH:=Q.k;have hk5:=Q.f.k;obtain⟨Y,Mu⟩:=sr0 Q;have U:FS (mM (ah D.K)) D.vcs.av Mt [⟨ab,ag (ah D.K) .aJ,.live⟩,⟨ab,ag (ah D.K) (.bool ae),.live⟩,⟨ab,ZS,.live⟩,⟨aa 5,[D.vcs.av,.sl 0 (ah D.K) 0 (ah D.K),.sl 1 (ah D.K) 0 (ah D.K),.sl 2 1025 0 1025,.aJ],.live⟩]:=by
  refine⟨λt B d=>?_,λt u A B Z d e=>?_⟩
  .cases t with
   |f=>rw[<-d];simp[mM,Mt,aQ,Fd.cont,dh]
   |wo=>rw[<-d];simp[mM,Mt,aQ,Fd.cont,qb]
   |fd=>rw[<-d];simp[mM,Mt,aQ,Fd.cont]
   |rd=>
    rw[<-d];have:(af (ah (mM (ah D.K)).R)).map (λn=>dh (Mt (.bk n)) (ah ((mM (ah D.K)).eM n)))=ZS:=by
     simp only[CB,eX];rw[show(ah (mM (ah D.K)).R)=1025 by simp[mM]]
     show(af 1025).map (λ_=>AV.aJ)=_;rw[List.map_const', lT];rfl
    show aa _=aa (⟨ab,(af (ah (mM (ah D.K)).R)).map (λn=>dh (Mt (.bk n)) (ah ((mM (ah D.K)).eM n))),.live⟩:aO);rw[this]
   |dn=>simp[Fd.cont,mM]at d
   |bk n=>simp[Fd.cont,CB]at d
  .cases t<;>cases u<;>first
    |rfl
    |(rw[V0]at Z;simp at Z;done)
    |(rw[V0]at d;simp at d;done)
    |(simp[Fd.cont,mM]at Z;done)
    |(simp[Fd.cont,mM]at d;done)
    |(simp[Mt]at e;done)
 have hO:=Mh (mM (ah D.K)) U (VZ hk5).ok (x:=0) (by simpa[mM]using uH) [(ae,ab)] (by simp[cL]) aA (λo ho=>by rw[yg]at ho;simp at ho) ae
 obtain⟨r0,NS,hO,rfl,p0,hp0,I⟩:=dt hO;simp only[da,List.map_nil,zE]at hO;rw[show cL [(ae,ab)]=([]:ak)from rfl]at I;have AZ:p0 .f=3:=hp0.1;have LJ:ag 1025 AV.aJ=ZS:=rfl;have Br:∀l:ao,(AV.agg l).cells=l:=λ_=>rfl;have tY:List.map AV.bool (ag (ah D.K) ae)=ag (ah D.K) (.bool ae):=aA
 have hO' : L wM [.ptr 3 (ba (aa 5)) 0,.int 0,.aX ae [.aJ]] [⟨ab,ag (ah D.K) .aJ,.live⟩,⟨ab,ag (ah D.K) (.bool ae),.live⟩,⟨ab,ZS,.live⟩,⟨aa 5,[.bN (.agg [.int D.n.ay,.int D.n.aG,.int D.n.aM,.int D.n.aL,.int D.n.aF,bL D.n.az,bU D.n.call,bU D.n.push,bU D.n.aH,dw D.n.aP,iL D.n.bQ,iL D.plc,bU D.K,.rF,bU D.IN,pd D.BL]),.sl 0 (ah D.K) 0 (ah D.K),.sl 1 (ah D.K) 0 (ah D.K),.sl 2 1025 0 1025,.aJ],.live⟩]=aa (.bY [],NS):=hO;have ZL:(ah D.K:Int)<=1073741824:=ax
 have J:=I.has .f _ rfl;rw[AZ]at J;have hR1:(ah ((mM (ah D.K)).off 0 []).R)=1025:=Y.w.r;rw[hR1]at J;simp[-aK,-List.map_replicate,-List.reduceReplicate];simp only[LJ,Br,tY,hO'];simp[-aK,ZL,J,hO', ba];refine bB (λq:Nat×(Tf->Nat)×aq×Fd=>[(2,.int q.1)]) (λq=>q.2.2.1) (λq=>q.1<=1025/\q.2.1 .f=3/\FS q.2.2.2 D.vcs.av q.2.1 q.2.2.1/\Sr D q.1 q.2.2.2/\ZP q.2.2.2) (λq=>1025-q.1) (0,p0,NS,(mM (ah D.K)).off 0 []) bS ⟨aA,AZ,I,Y,Mu⟩ ?_
 clear hO hO' J I Y Mu U;rintro⟨n,p,σ,S⟩ ⟨n0,hp,hF,M,Z⟩;dsimp only at n0 hp hF M Z ⊢;have hv:=hF.has .f _ rfl;rw[hp]at hv
 by_cases hn:n<1025
 .have mz :=bz (show(n:Int)<1025 by omega)
  have hTL:=an4 S hF M.w.ok (n:=n) ax (λy hy=>(M.w.bm n y hy).1)
  obtain⟨rv,τ,hT,rfl,hF2,yV,rJ⟩:=dt hTL;clear hTL;obtain⟨hS2,hm,rp⟩:=M.take Q hs Z ax
  generalize (jc (S.eM n) S.F).1=out at *;generalize (jc (S.eM n) S.F).2=F' at *;rw[hp]at hT;have VH:=tB (ah D.K) rp λy hy=>by
   obtain⟨w,O,_⟩:=(hm y).1 hy;exact O.1.gi Q
  simp[-aK,mz, hT];refine Cf (b:=ah σ) (l:=out) yV rfl rfl ?_;simp[-aK];have hF3:FS {S with F:=F'} D.vcs.av p (aV τ (ah σ) ⟨ab,out.map .int,.dead⟩):=hF2.Cv λt A wU =>by
   obtain⟨B,d⟩:=VG wU;have:=hF.lt d;omega
  refine bB (λq:Nat×(Tf->Nat)×aq×Fd=>[(5,.int q.1)]) (λq=>q.2.2.1) (λq=>q.1<=ah out/\q.2.1 .f=3/\FS q.2.2.2 D.vcs.av q.2.1 q.2.2.1/\Sr D (n+1) q.2.2.2/\q.2.2.2.N=S.N++out.take q.1/\q.2.2.2.F=F') (λq=>ah out-q.1) (0,p,_,{S with F:=F'}) bS ⟨aA,hp,hF3,hS2,aA,rfl⟩ ?_
  rintro⟨k,i,j,T⟩ ⟨k0,h,m,s,hN,hTF⟩;dsimp only at k0 h m s hN hTF ⊢;have E:=m.has .f _ rfl;rw[h]at E
  by_cases hk:k<ah out
  .have tk:=lZ hk
   have hxm:=bh (l:=out) (n:=(k:Int)) ax ax
   obtain⟨w,O,Mr⟩:=(hm _).1 hxm;have hxr:=O.1.gi Q;obtain⟨x,hxx⟩:∃x:Nat,ix out (k:Int)=x:=⟨aj (ix out (k:Int)),ax⟩
   rw[hxx]at hxm O hxr tk;have ZT:ix T.F (x:Int)=ad:=(s.fd x ax (by rw[s.l];exact hxr.2)).2 ⟨w,O,ax⟩
   have VI:(x:Int)∉T.N:=λa=>by
    rw[hN]at a;rcases dI.1 a with a|a
    .have hq:=M.nd _ a
     obtain⟨u,hu,ui⟩:=(M.fd x hq.1.1 hq.1.2).1 hq.2;rw[hu.rq O]at ui;omega
    .have V:(out.take (k+1)).Nodup:=rp.sublist (List.take_sublist _ _)
     rw[tk,uy]at V;exact V.2.2 _ a _ aA rfl
   obtain⟨hP,hPN,hPF,hPW,hPY⟩:=s.push Q ax ZT VI
   have hwf:nU {T with N:=T.N ++ [(x:Int)]}:=⟨s.w.f,s.w.r,s.w.n,s.w.nd,s.w.bm,s.w.wl⟩
   have hPl:=tB (ah D.K) (l:=T.N ++ [(x:Int)]) (by rw[<-hPN];exact hP.nn) λy hy=>(hPY y hy).1
   rw[bM]at hPl;simp only[cT,eX]at hPl;have fin:∀(p4:Tf->Nat) (N9:aq),p4 .f=3->FS {T with N:=T.N ++ [(x:Int)]} D.vcs.av p4 N9->∃τ,L EL [.ptr 3 5 0,.int x] N9=aa (.bY [],τ)/\∃X,X .f=3/\FS (Fd.ext D x {T with N:=T.N ++ [(x:Int)]}) D.vcs.av X τ:=λp4 N9 Oa h4=>by
    have P:=an5 D Q {T with N:=T.N ++ [(x:Int)]} h4 hwf s.l (x:=x) ax ZT aA aT hPW hPY
    obtain⟨rv,τ,P,rfl,X,G,H⟩:=dt P;rw[Oa]at P;exact⟨τ,P,X,G.1.trans Oa,H⟩
   have l1:=m.lt (t:=.f) rfl;rw[h]at l1
   by_cases C:T.N=[]
   .obtain⟨τ5,P,X,G,H⟩:=fin (λt=>if t = .dn then (ah j) else i t) (aV (j ++ [⟨ab,[.int x],.live⟩]) 3 ⟨aa 5,[D.vcs.av,.sl (i .wo) (ah T.W) 0 (ah T.W),.sl (i .fd) (ah T.F) 0 (ah T.F),.sl (i .rd) (ah T.R) 0 (ah T.R),.sl (ah j) 1 0 1],.live⟩) du (m.done (λt ht=>aC ht) (by rw[h,cQ aT,C];simp) (by rw[aD rfl,bu ax,gZ,C];rfl) (λt B t1 t2 d=>by
      rw[bu (by have:=m.ne (t:=.f) rfl d (Ne.symm t1);omega)];exact iu (m.has t B d)) (.inr (by rw[aD rfl];exact bG _)))
    have e6:dh (i .dn) (ah T.N) = .aJ:=by rw[C];rfl
    have hv4:∀B:aO,aQ (j ++ [B]) 3=_:=λB=>iu (r:=[B]) E;simp[-aK,hk,hxx,E,hv4,e6,P];exact⟨ax,a8 (k+1,X,τ5,Fd.ext D x {T with N:=T.N ++ [(x:Int)]}) aA rfl ⟨aR,G,H,hP,by dsimp only;rw[hPN,hN,tk];simp,by dsimp only;rw[hPF,hTF]⟩ aR⟩
   .have hdn:=m.has .dn _ (aC C)
    have l2:=m.lt (t:=.dn) (aC C);have n1:i .dn ≠ 3:=by have:=m.ne (t:=.dn) (u:=.f) (aC C) rfl aA;omega
    obtain⟨τ5,P,X,G,H⟩:=fin i (aV (aV j (i .dn) (Zb (T.N ++ [(x:Int)]))) 3 ⟨aa 5,[D.vcs.av,.sl (i .wo) (ah T.W) 0 (ah T.W),.sl (i .fd) (ah T.F) 0 (ah T.F),.sl (i .rd) (ah T.R) 0 (ah T.R),.sl (i .dn) (ah T.N+1) 0 (ah T.N+1)],.live⟩) h (m.done (λt ht=>rfl) (by rw[h,cQ (by rw[cV];omega)]) (by rw[bu (Ne.symm n1),cQ l2]) (λt B t1 t2 d=>by
      rw[bu (by have:=m.ne (t:=.f) rfl d (Ne.symm t1);omega),bu (m.ne (t:=.dn) (aC C) d (Ne.symm t2))];exact m.has t B d) (.inl ⟨C,rfl⟩))
    have e6:dh (i .dn) (ah T.N) = .sl (i .dn) (ah T.N) 0 (ah T.N):=if_neg λe=>C (List.eq_nil_of_length_eq_zero e);have hv4:∀B:aO,aQ (aV j (i .dn) B) 3=_:=λB=>(bu n1).trans E;simp only[Zb,List.map_append,List.map_cons,List.map_nil]at P;simp[-aK,hk,hxx,E,hv4,e6,hdn,P];exact⟨ax,ax,a8 (k+1,X,τ5,Fd.ext D x {T with N:=T.N ++ [(x:Int)]}) aA rfl ⟨aR,G,H,hP,by dsimp only;rw[hPN,hN,tk];simp,by dsimp only;rw[hPF,hTF]⟩ aR⟩
  .have ek:k=ah out:=by omega
   subst ek;rw[List.take_length]at hN;simp[-aK];refine⟨ax,a8 (n+1,i,j,T) aA rfl ⟨aR,h,m,s,λz z0 z1 C=>?_⟩ aR⟩
   dsimp only at z1 C ⊢;obtain⟨w,O,hl⟩:=(s.fd z z0 z1).1 C;rw[hN]
   by_cases e:ah w=n
   .exact dI.2 (.inr ((hm z).2 ⟨w,O,e⟩))
   .have z1' : z<(ah S.W:Int):=by rw[M.l];rw[s.l]at z1;exact z1
    exact dI.2 (.inl (Z z z0 z1' ((M.fd z z0 z1').2 ⟨w,O,ax⟩)))
 .have en:n=1025:=by omega
  subst en;have e1:view σ ae vd (.sl (p .wo) (ah S.W) 0 (ah S.W))=aa (bU (S.W.map λo=>o.getD [])):=by
   have:=gY (k:=11) (f:=qb) (g:=λo=>iL (o.getD [])) (fr:=ae) (hF.has .wo _ rfl) rfl rfl λo _=>by cases o<;>rfl
   rw[show vd=11+1 from rfl,this];simp
  have e2:view σ ae vd (.sl (p .fd) (ah S.F) 0 (ah S.F))=aa (bL S.F):=gY (k:=11) (f:=AV.bool) (g:=AV.bool) (fr:=ae) (hF.has .fd _ rfl) rfl rfl λo _=>rfl;simp[-aK,hv];exact⟨S,by rw[e1,e2],M⟩
def aoe (D:Vd) (a:kQ D) (b:D.n.ay+D.n.aG+D.n.aM<=64):∃S:Fd,PC ED [D.vcs.av]=aa (.bY [bU (S.W.map λo=>o.getD []),bL S.F])/\Sr D 1025 S:=Cr (g:=λS:Fd=>.bY [bU (S.W.map λo=>o.getD []),bL S.F]) (aod D a b)
inductive Kd where
 |cl|ps|bp
 deriving DecidableEq
inductive Tn where
 |ac|po
 |ls (k:Kd)
 |rw(k:Kd) (s:Nat)
 |pr (s:Nat)
 |pg (s g:Nat)
 deriving DecidableEq
def aS.tb (n:aS):Kd->al
 |.cl=>n.call
 |.ps=>n.push
 |.bp=>n.aH
def aS.dc (n:aS) (k:Kd) (s:Nat):ak:=ix (n.tb k) (s:Int)
def aS.cd (n:aS) (s:Nat):al:=ix n.aP (s:Int)
def aS.df (n:aS) (s g:Nat):ak:=ix (n.cd s) (g:Int)
def lE:Kd->ak->aO
 |.ps,l=>gr l
 |_,l=>Zb l
abbrev jf (b k:Nat):AV:=.sl b k 0 k
def aS.cont (n:aS) (p:Tn->Nat):Tn->Option aO
 |.ac=>aa ⟨ab,n.az.map .bool,.live⟩
 |.ls k=>if n.tb k=[]then ab else aa ⟨ab,(af (ah (n.tb k))).map λs=>jf (p (.rw k s)) (ah (n.dc k s)),.live⟩
 |.rw k s=>if s<ah (n.tb k) then aa (lE k (n.dc k s))else ab
 |.po=>if n.aP=[]then ab else aa ⟨ab,(af (ah n.aP)).map λs=>jf (p (.pr s)) (ah (n.cd s)),.live⟩
 |.pr s=>if s<ah n.aP then aa ⟨ab,(af (ah (n.cd s))).map λg=>jf (p (.pg s g)) (ah (n.df s g)),.live⟩else ab
 |.pg s g=>if s<ah n.aP/\g<ah (n.cd s) then aa (Zb (n.df s g))else ab
def aS.cv (n:aS) (p:Tn->Nat):ao:=[.int n.ay,.int n.aG,.int n.aM,.int n.aL,.int n.aF,jf (p .ac) (ah n.az),dh (p (.ls .cl)) (ah n.call),dh (p (.ls .ps)) (ah n.push),dh (p (.ls .bp)) (ah n.aH),dh (p .po) (ah n.aP)]
structure AS (n:aS) (p:Tn->Nat) (σ:aq):Prop where
 has:∀t B,n.cont p t=aa B->aQ σ (p t)=aa B
 inj:∀t u A B,n.cont p t=aa A->n.cont p u=aa B->p t=p u->t=u
variable{n:aS}{p:Tn->Nat}{B:aO}
def AS.ne(h:AS n p σ){t u:Tn}{A:aO}(ht:n.cont p t=aa A) (hu:n.cont p u=aa B) (hn:t ≠ u):p t ≠ p u:=λe=>hn (h.inj t u A B ht hu e)
def AS.lt(h:AS n p σ){t:Tn}{A:aO}(ht:n.cont p t=aa A):p t<ah σ:=cX (h.has t A ht)
def AS.other(h:AS n p σ) (hb:∀t B,n.cont p t=aa B->aQ τ (p t)=aQ σ (p t)):AS n p τ:=
 ⟨λt B hB=>by rw[hb t B hB];exact h.has t B hB,h.inj⟩
def AS.put{n n' : aS}(h:AS n p σ){t:Tn}{A:aO}(ht:n.cont p t=aa A) (od : n'.cont p t=aa B) (hu:∀u,u ≠ t->n'.cont p u=n.cont p u):AS n' p (aV σ (p t) B):=by
 refine⟨λu C hC=>?_,λu v C E hC hE e=>?_⟩
 .by_cases Fa:u=t
  .subst Fa
   rw[od]at hC;injection hC with hC
   subst hC;exact cQ (h.lt ht)
  .rw[hu u Fa]at hC
   rw[bu (h.ne ht hC (Ne.symm Fa))];exact h.has u C hC
 .have key:∀u C,n'.cont p u=aa C->∃D,n.cont p u=aa D:=λu C hC=>by
   by_cases Fa:u=t
   .exact⟨A,by rw[Fa];exact ht⟩
   .rw[hu u Fa]at hC;exact⟨C,hC⟩
  obtain⟨_,h1⟩:=key u C hC;obtain⟨_,h2⟩:=key v E hE;exact h.inj u v _ _ h1 h2 e
def V1{n:Nat}:∀l:List Bool,lR n (l.map .bool)=l.map .bool
 | []=>rfl
 |b::l=>by rw[da,lR,V1 l];rfl
def V2{d:Nat}{t:Tn}:n.cont (λt=>p t+d) t=(n.cont p t).map (gl d):=by
 have a:∀(m:Nat) (f:Nat->Nat) (g:Nat->Nat),(af m).map (λs=>jf (f s+d) (g s))=lR d ((af m).map λs=>jf (f s) (g s)):=λm f g=>by
  rw[sO,List.map_map];rfl
 cases t with
 |ac=>simp[aS.cont,gl,V1]
 |po=>
  simp only[aS.cont];split
  .rfl
  .rw[a];rfl
 |ls k=>
  simp only[aS.cont];split
  .rfl
  .rw[a];rfl
 |rw k s=>
  simp only[aS.cont];split
  .cases k<;>simp[lE,gl,B9]
   split<;>rfl
  .rfl
 |pr s=>
  simp only[aS.cont];split
  .rw[a];rfl
  .rfl
 |pg s g=>
  simp only[aS.cont];split
  .simp[gl,B9]
  .rfl
def AS.shift(h:AS n p σ) (ρ:aq):AS n (λt=>p t+ah ρ) (ρ++σ.map (gl (ah ρ))):=by
 refine⟨λt B hB=>?_,λt u A B hA hB e=>?_⟩
 .rw[V2]at hB
  obtain⟨C,hC,rfl⟩:=pw.1 hB;have:=h.has t C hC;rw[bE]at this ⊢;rw[dW ax,show p t+ah ρ-ah ρ=p t by omega,gP,this]
  rfl
 .rw[V2]at hA hB
  obtain⟨C,hC,_⟩:=pw.1 hA;obtain⟨E,hE,_⟩:=pw.1 hB;exact h.inj t u C E hC hE ax
def AS.view(h:AS n p σ):view σ ae vd (.agg (n.cv p))=aa n.av:=by
 have iD:∀(k:Kd) (s:Nat) (f:Nat),s<ah (n.tb k)->Ab.view σ ae (f+2) (jf (p (.rw k s)) (ah (n.dc k s)))=aa (iL (n.dc k s)):=λk s f hs=>by
  have:=h.has (.rw k s) _ (aD hs);cases k
  .exact gY (k:=f+1) this rfl rfl λ_ _=>rfl
  .exact gY (k:=f+1) (st:=if n.dc .ps s=[]then .jN else .live) this iB rfl λ_ _=>rfl
  .exact gY (k:=f+1) this rfl rfl λ_ _=>rfl
 have Mv:∀(k:Kd) (f:Nat),Ab.view σ ae (f+3) (dh (p (.ls k)) (ah (n.tb k)))=aa (bU (n.tb k)):=λk f=>by
  have e:bU (n.tb k) = .aX ae ((af (ah (n.tb k))).map λs=>iL (n.dc k s)):=by
   unfold aS.dc;rw[rV (f:=iL)]
  rw[e];exact rW (k:=f+2) (f:=λs=>jf (p (.rw k s)) (ah (n.dc k s))) (λhx=>h.has (.ls k) _ (aC λe=>hx fW)) aA λs hs=>iD k s f (cE.1 hs)
 have G5:∀(f:Nat),Ab.view σ ae (f+4) (dh (p .po) (ah n.aP))=aa (dw n.aP):=λf=>by
  have e:dw n.aP = .aX ae ((af (ah n.aP)).map λs=>bU (n.cd s)):=by
   unfold aS.cd;rw[rV (f:=bU)]
  rw[e];refine rW (k:=f+3) (f:=λs=>jf (p (.pr s)) (ah (n.cd s))) (λhx=>h.has .po _ (aC λe=>hx fW)) aA λs hs=>?_
  have j8 :=cE.1 hs;have e2:bU (n.cd s) = .aX ae ((af (ah (n.cd s))).map λg=>iL (n.df s g)):=by
   unfold aS.df;rw[rV (f:=iL)]
  rw[e2];exact gY (k:=f+2) (f:=λg=>jf (p (.pg s g)) (ah (n.df s g))) (h.has (.pr s) _ (aD j8)) rfl aA λg hg=>gY (k:=f+1) (h.has (.pg s g) _ (aD ⟨j8, cE.1 hg⟩)) rfl rfl λ_ _=>rfl
 show Ab.view σ ae (11+1) _=_;unfold Ab.view;have hm:cu (Ab.view σ ae 11) (n.cv p)=aa [.int n.ay,.int n.aG,.int n.aM,.int n.aL,.int n.aF,bL n.az,bU n.call,bU n.push,bU n.aH,dw n.aP]:=by
  refine de rfl (de rfl (de rfl (de rfl (de rfl (de ?_ (de ?_ (de ?_ (de ?_ (de ?_ rfl)))))))))
  .exact gY (k:=10) (h.has .ac _ rfl) rfl rfl λ_ _=>rfl
  .exact Mv .cl 8
  .exact Mv .ps 8
  .exact Mv .bp 8
  .exact G5 7
 simp only[hm]
def AS.oT(h:AS n p σ){l:List Bool}:AS {n with az:=l} p (aV σ (p .ac) ⟨ab,l.map .bool,.live⟩):=
 h.put (t:=.ac) rfl rfl λu hu=>by cases u<;>first|rfl|exact absurd rfl hu
theorem AS.oU(h:AS n p σ){s:Nat}(hs:s<ah n.aH){l:ak}(hl:ah l=ah (n.dc .bp s)):AS {n with aH:=n.aH.set s l} p (aV σ (p (.rw .bp s)) (Zb l)):=by
 have hlen:ah (n.aH.set s l)=ah n.aH:=aA
 have iD:∀s' : Nat,aS.dc {n with aH:=n.aH.set s l} .bp s' = if s' = s then l else n.dc .bp s' :=λs' =>jZ hs s'
 have qT:∀s' : Nat,ah (aS.dc {n with aH:=n.aH.set s l} .bp s')=ah (n.dc .bp s'):=λs' =>by
  rw[iD];split
  .rename_i e;rw[e];exact hl
  .rfl
 refine h.put (t:=.rw .bp s) (aD hs) ?_ λu hu=>?_
 .show(if s<ah (n.aH.set s l) then aa (lE .bp (aS.dc {n with aH:=n.aH.set s l} .bp s))else ab)=_
  rw[hlen,aD hs,iD,aD rfl];rfl
 .cases u with
  |ls k=>
   cases k with
   |bp=>
    show(if n.aH.set s l=[]then ab else aa (⟨ab,(af (ah (n.aH.set s l))).map λs' =>jf (p (.rw .bp s')) (ah (aS.dc {n with aH:=n.aH.set s l} .bp s')),.live⟩:aO))=if n.aH=[]then ab else aa ⟨ab,(af (ah n.aH)).map λs=>jf (p (.rw .bp s)) (ah (n.dc .bp s)),.live⟩
    simp only[qT,hlen];have:n.aH.set s l=[]↔n.aH=[]:=by rw[<-List.length_eq_zero_iff,hlen,List.length_eq_zero_iff]
    by_cases e:n.aH=[]
    .rw[aD e,aD (this.2 e)]
    .rw[aC e,aC λa=>e (this.1 a)]
   |_=>rfl
  |rw k s' =>
   cases k with
   |bp=>
    have:s' ≠ s:=λe=>hu fk
    show(if s' < ah (n.aH.set s l) then aa (lE .bp (aS.dc {n with aH:=n.aH.set s l} .bp s'))else ab)=if s' < ah n.aH then aa (lE .bp (n.dc .bp s'))else ab
    rw[hlen,iD,aC this]
   |_=>rfl
  |_=>rfl
variable{g:Nat}
theorem AS.oV(h:AS n p σ){s:Nat}(hs:s<ah n.aP) (hg:g<ah (n.cd s)){l:ak}(hl:ah l=ah (n.df s g)):AS {n with aP:=n.aP.set s ((n.cd s).set g l)} p (aV σ (p (.pg s g)) (Zb l)):=by
 have hlen:ah (n.aP.set s ((n.cd s).set g l))=ah n.aP:=aA
 have iD:∀s' : Nat,aS.cd {n with aP:=n.aP.set s ((n.cd s).set g l)} s' = if s' = s then(n.cd s).set g l else n.cd s' :=λs' =>jZ hs s'
 have qT:∀s' : Nat,ah (aS.cd {n with aP:=n.aP.set s ((n.cd s).set g l)} s')=ah (n.cd s'):=λs' =>by
  rw[iD];split
  .rename_i e;rw[e];simp
  .rfl
 have oW:∀s' g' : Nat,aS.df {n with aP:=n.aP.set s ((n.cd s).set g l)} s' g' = if s' = s/\g' = g then l else n.df s' g' :=λs' g' =>by
  unfold aS.df;rw[iD]
  by_cases e:s' = s
  .rw[aD e,jZ hg]
   by_cases e2:g' = g
   .rw[aD e2,aD ⟨e,e2⟩]
   .rw[aC e2,aC λa=>e2 a.2,e]
  .rw[aC e,aC λa=>e a.1]
 have sN:∀s' g' : Nat,ah (aS.df {n with aP:=n.aP.set s ((n.cd s).set g l)} s' g')=ah (n.df s' g'):=λs' g' =>by
  rw[oW];split
  .rename_i e;rw[e.1,e.2];exact hl
  .rfl
 refine h.put (t:=.pg s g) (aD ⟨hs,hg⟩) ?_ λu hu=>?_
 .show(if s<ah (n.aP.set s ((n.cd s).set g l))/\g<ah (aS.cd {n with aP:=n.aP.set s ((n.cd s).set g l)} s) then aa (Zb (aS.df {n with aP:=n.aP.set s ((n.cd s).set g l)} s g))else ab)=_
  rw[hlen,qT,aD ⟨hs,hg⟩,oW,aD ⟨rfl,rfl⟩]
 .cases u with
  |po=>
   show(if n.aP.set s ((n.cd s).set g l)=[]then ab else aa (⟨ab,(af (ah (n.aP.set s ((n.cd s).set g l)))).map λs' =>jf (p (.pr s')) (ah (aS.cd {n with aP:=n.aP.set s ((n.cd s).set g l)} s')),.live⟩:aO))=if n.aP=[]then ab else aa ⟨ab,(af (ah n.aP)).map λs=>jf (p (.pr s)) (ah (n.cd s)),.live⟩
   simp only[qT,hlen];have:n.aP.set s ((n.cd s).set g l)=[]↔n.aP=[]:=by rw[<-List.length_eq_zero_iff,hlen,List.length_eq_zero_iff]
   by_cases e:n.aP=[]
   .rw[aD e,aD (this.2 e)]
   .rw[aC e,aC λa=>e (this.1 a)]
  |pr s' =>
   show(if s' < ah (n.aP.set s ((n.cd s).set g l)) then aa (⟨ab,(af (ah (aS.cd {n with aP:=n.aP.set s ((n.cd s).set g l)} s'))).map λg' =>jf (p (.pg s' g')) (ah (aS.df {n with aP:=n.aP.set s ((n.cd s).set g l)} s' g')),.live⟩:aO)else ab)=if s' < ah n.aP then aa ⟨ab,(af (ah (n.cd s'))).map λg' =>jf (p (.pg s' g')) (ah (n.df s' g')),.live⟩else ab
   simp only[qT,hlen,sN]
  |pg s' g' =>
   have:¬(s' = s/\g' = g):=λe=>hu (by rw[e.1,e.2])
   show(if s' < ah (n.aP.set s ((n.cd s).set g l))/\g' < ah (aS.cd {n with aP:=n.aP.set s ((n.cd s).set g l)} s') then aa (Zb (aS.df {n with aP:=n.aP.set s ((n.cd s).set g l)} s' g'))else ab)=if s' < ah n.aP/\g' < ah (n.cd s') then aa (Zb (n.df s' g'))else ab
   rw[hlen,qT,oW,aC this]
  |_=>rfl
def fB (k s:Nat):Nat:=if s=0 then 3 else 11+k+(s-1)*(k+4)
def fp (k:Nat):Tn->Nat
 |.ac=>1
 |.po=>10+k
 |.ls .cl=>6+k
 |.ls .ps=>7+k
 |.ls .bp=>9+k
 |.rw .ps s=>fB k s
 |.pr s=>fB k s+1
 |.pg s g=>fB k s+2+g
 |.rw .cl s=>fB k s+2+k
 |.rw .bp s=>fB k s+2+k+(if s=0 then 3 else 1)
def CC{s t:Nat}(h:s<t):fB k s+k+4<=fB k t/\(s=0->11+k<=fB k t):=by
 obtain⟨u,rfl⟩:∃u,t=u+1:=⟨t-1,ax⟩
 have e:fB k (u+1)=11+k+u*(k+4):=by simp[fB]
 rw[e]
 by_cases a:s=0
 .subst a
  have:fB k 0=3:=rfl;exact⟨by rw[this];have:=Nat.zero_le (u*(k+4));omega,λ_=>ax⟩
 .obtain⟨v,rfl⟩:∃v,s=v+1:=⟨s-1,ax⟩
  have b:fB k (v+1)=11+k+v*(k+4):=by simp[fB]
  rw[b];have:(v+1)*(k+4)<=u*(k+4):=mq _ ax
  rw[fG]at this;exact⟨ax,λh=>absurd h a⟩
theorem CD:fB k 0=3:=rfl
def aof:fB k 1=11+k:=by simp[fB]
def aog{s:Nat}(h:s ≠ 0):fB k (s+1)=fB k s+k+4:=by
 obtain⟨v,rfl⟩:∃v,s=v+1:=⟨s-1,ax⟩
 simp[fB,fG];omega
def FJ{s:Nat}(h:s ≠ 0):11+k<=fB k s:=(CC (s:=0) (t:=s) ax).2 rfl
def Tn.G6 (k:Nat):Tn->Prop
 |.pg _ g=>g<k
 |_=>True
def Tn.off (k:Nat):Tn->Option (Nat×Nat)
 |.rw .ps s=>aa (s,0)
 |.pr s=>aa (s,1)
 |.pg s g=>aa (s,2+g)
 |.rw .cl s=>aa (s,2+k)
 |.rw .bp s=>aa (s,2+k+if s=0 then 3 else 1)
 |_=>ab
def yh{t:Tn}(a:t.G6 k):(∃s o,t.off k=aa (s,o)/\fp k t=fB k s+o/\(o<k+4\/s=0/\o=k+5)/\(s=0->o<3+k\/o=k+5))\/(t.off k=ab/\(fp k t=1\/6+k<=fp k t/\fp k t<=10+k/\fp k t ≠ 8+k)):=by
 cases t with
 |ac=>exact .inr ⟨rfl,.inl rfl⟩
 |po=>exact .inr ⟨rfl,.inr ⟨by simp[fp],by simp[fp],by simp[fp]⟩⟩
 |ls q=>cases q<;>exact .inr ⟨rfl,.inr ⟨by simp[fp],by simp[fp],by simp[fp]⟩⟩
 |rw q s=>
  cases q with
  |cl=>exact .inl ⟨s,2+k,rfl,by simp[fp];omega,ax,ax⟩
  |ps=>exact .inl ⟨s,0,rfl,by simp[fp],ax,ax⟩
  |bp=>
   refine .inl ⟨s,_,rfl,by simp only[fp];omega,?_,?_⟩
   .split<;>omega
   .intro h;rw[aD h];omega
 |pr s=>exact .inl ⟨s,1,rfl,rfl,ax,ax⟩
 |pg s g=>have:g<k:=a;exact .inl ⟨s,2+g,rfl,by simp[fp];omega,ax,ax⟩
variable{o:Nat}
def aoh{t u:Tn}(j:t.G6 k) (l:u.G6 k){s:Nat}(b:t.off k=aa (s,o)) (a:u.off k=aa (s,o)):t=u:=by
 have i:∀g e, (Tn.pg e g).G6 k->g<k:=λg e h=>h;cases t with
 |ac=>simp[Tn.off]at b
 |po=>simp[Tn.off]at b
 |ls q=>simp[Tn.off]at b
 |rw q e =>
  cases u with
  |ac=>simp[Tn.off]at a
  |po=>simp[Tn.off]at a
  |ls q=>simp[Tn.off]at a
  |rw r d =>
   cases q<;>cases r<;>simp[Tn.off]at b a<;>first|(rw[b.1,a.1];done)|(exfalso;(try split at b)<;>(try split at a)<;>omega)
  |pr d =>cases q<;>simp[Tn.off]at b a<;>exfalso<;>(try split at b)<;>omega
  |pg d g=>have:=i _ _ l;cases q<;>simp[Tn.off]at b a<;>exfalso<;>(try split at b)<;>omega
 |pr e =>
  cases u with
  |ac=>simp[Tn.off]at a
  |po=>simp[Tn.off]at a
  |ls q=>simp[Tn.off]at a
  |rw r d =>cases r<;>simp[Tn.off]at b a<;>exfalso<;>(try split at a)<;>omega
  |pr d =>simp[Tn.off]at b a;rw[b.1,a.1]
  |pg d g=>simp[Tn.off]at b a;omega
 |pg e g=>
  have n:=i _ _ j;cases u with
  |ac=>simp[Tn.off]at a
  |po=>simp[Tn.off]at a
  |ls q=>simp[Tn.off]at a
  |rw r d =>cases r<;>simp[Tn.off]at b a<;>exfalso<;>(try split at a)<;>omega
  |pr d =>simp[Tn.off]at b a;omega
  |pg d m =>
   simp[Tn.off]at b a;rw[b.1,a.1,show g=m by omega]
def zG{t u:Tn}(n:t.G6 k) (j:u.G6 k) (e:fp k t=fp k u):t=u:=by
 rcases yh n with⟨s,o,b,l,y,p⟩|⟨b,l⟩
 .rcases yh j with⟨d, w, a,i,x,m⟩|⟨a,i⟩
  .have es:s=d :=by
    rcases Nat.lt_trichotomy s d with h|h|h
    .have:=CC (k:=k) h
     by_cases z:s=0
     .have:=this.2 z;have:=p z;subst z;rw[CD]at l;omega
     .omega
    .exact h
    .have:=CC (k:=k) h
     by_cases z:d = 0
     .have:=this.2 z;have:=m z;subst z;rw[CD]at i;omega
     .omega
   subst es;exact aoh n j b (by rw[a,show w = o by omega])
  .exfalso
   by_cases z:s=0
   .have:=p z;subst z;rw[CD]at l;omega
   .have:=FJ (k:=k) z;omega
 .rcases yh j with⟨d, w, a,i,x,m⟩|⟨a,i⟩
  .exfalso
   by_cases z:d = 0
   .have:=m z;subst z;rw[CD]at i;omega
   .have:=FJ (k:=k) z;omega
  .cases t with
   |ac=>cases u with
    |ac=>rfl
    |po=>simp[fp]at e;omega
    |ls q=>cases q<;>simp[fp]at e<;>omega
    |rw r s=>cases r<;>simp[Tn.off]at a
    |pr s=>simp[Tn.off]at a
    |pg s g=>simp[Tn.off]at a
   |po=>cases u with
    |ac=>simp[fp]at e;omega
    |po=>rfl
    |ls q=>cases q<;>simp[fp]at e
    |rw r s=>cases r<;>simp[Tn.off]at a
    |pr s=>simp[Tn.off]at a
    |pg s g=>simp[Tn.off]at a
   |ls q=>cases u with
    |ac=>cases q<;>simp[fp]at e<;>omega
    |po=>cases q<;>simp[fp]at e
    |ls r=>cases q<;>cases r<;>first|rfl|(simp[fp]at e)
    |rw r s=>cases r<;>simp[Tn.off]at a
    |pr s=>simp[Tn.off]at a
    |pg s g=>simp[Tn.off]at a
   |rw r s=>cases r<;>simp[Tn.off]at b
   |pr s=>simp[Tn.off]at b
   |pg s g=>simp[Tn.off]at b
def aS.aZ (n:aS) (k:Nat):Nat:=max 1 (k*aj n.ay)
def aS.vi (n:aS) (s j:Nat):ak:=(af j).map λ(c:Nat)=>(s:Int)*n.ay+(c:Int)
def aS.eN (n:aS) (k s:Nat):aS:=⟨n.ay,n.aG,n.aM,n.aZ k,0,ag k ae,ag s (ag (aj n.ay) 0),(af s).map λs=>n.vi s (aj n.ay),ag s (ag (aj n.aG) 0),ag s (ag (n.aZ k) (ag (aj n.aM) 0))⟩
variable{j:Nat}
def aoi{s:Nat}:n.vi s (j+1)=n.vi s j ++ [(s:Int)*n.ay+(j:Int)]:=by simp[aS.vi,kL]
def FK{s:Nat}:ah (n.vi s j)=j:=by simp[aS.vi]
variable{i:Nat}
def l7{s:Nat}(a:i<s):(n.eN k s).dc .cl i=ag (aj n.ay) 0/\(n.eN k s).dc .ps i=n.vi i (aj n.ay)/\(n.eN k s).dc .bp i=ag (aj n.aG) 0/\(n.eN k s).cd i=ag (n.aZ k) (ag (aj n.aM) 0):=by
 refine⟨lF a,?_,lF a,lF a⟩;show ix ((af s).map λs=>n.vi s (aj n.ay)) (i:Int)=_;rw[bt iQ];simp
def xe{s:Nat}(a:i<s) (b:g<n.aZ k):(n.eN k s).df i g=ag (aj n.aM) 0:=by
 unfold aS.df;rw[(l7 a).2.2.2];exact lF b
def oX{s:Nat}(q:Kd):ah ((n.eN k s).tb q)=s:=by cases q<;>simp[aS.tb,aS.eN]
def oY{s:Nat}:ah (n.eN k s).aP=s:=by simp[aS.eN]
def aS.Mw (n:aS):Kd->Nat
 |.cl=>aj n.ay
 |.ps=>aj n.ay
 |.bp=>aj n.aG
def Mx{s:Nat}(a:i<s) (q:Kd):ah ((n.eN k s).dc q i)=n.Mw q:=by
 obtain⟨b,d,e,_⟩:=l7 (n:=n) (k:=k) a;cases q
 .rw[b];simp[aS.Mw]
 .rw[d];exact FK
 .rw[e];simp[aS.Mw]
def FL (n:aS) (k:Nat) (q:Kd) (s:Nat):aO:=⟨ab,(af s).map λi=>jf (fp (n.aZ k) (.rw q i)) (n.Mw q),.live⟩
def Ob (n:aS) (k s:Nat):aO:=⟨ab,(af s).map λi=>jf (fp (n.aZ k) (.pr i)) (n.aZ k),.live⟩
def ZU (n:aS) (k s:Nat):aO:=⟨ab,(af (n.aZ k)).map λg=>jf (fp (n.aZ k) (.pg s g)) (aj n.aM),.live⟩
variable{q:Kd}
def V3{s:Nat}(b:s ≠ 0):(n.eN k s).cont (fp (n.aZ k)) (.ls q)=aa (FL n k q s):=by
 show(if(n.eN k s).tb q=[]then ab else aa (⟨ab,(af (ah ((n.eN k s).tb q))).map λi=>jf (fp (n.aZ k) (.rw q i)) (ah ((n.eN k s).dc q i)),.live⟩:aO))=_
 rw[aC λe=>by have:=oX (n:=n) (k:=k) (s:=s) q;rw[e]at this;simp at this;omega,oX]
 congr 2
 exact fm λi a=>by rw[Mx (cE.1 a)]
def V4{s:Nat}(b:s ≠ 0):(n.eN k s).cont (fp (n.aZ k)) .po=aa (Ob n k s):=by
 show(if(n.eN k s).aP=[]then ab else aa (⟨ab,(af (ah (n.eN k s).aP)).map λi=>jf (fp (n.aZ k) (.pr i)) (ah ((n.eN k s).cd i)),.live⟩:aO))=_
 rw[aC λe=>by have:=oY (n:=n) (k:=k) (s:=s);rw[e]at this;simp at this;omega,oY]
 congr 2
 exact fm λi a=>by rw[(l7 (cE.1 a)).2.2.2];simp
def V5{s:Nat}(a:i<s):(n.eN k s).cont (fp (n.aZ k)) (.pr i)=aa (ZU n k i):=by
 show(if i<ah (n.eN k s).aP then aa (⟨ab,(af (ah ((n.eN k s).cd i))).map λg=>jf (fp (n.aZ k) (.pg i g)) (ah ((n.eN k s).df i g)),.live⟩:aO)else ab)=_
 rw[oY,aD a,(l7 a).2.2.2,List.length_replicate]
 congr 2
 exact fm λg b=>by rw[xe a (cE.1 b)];simp
def qU{s:Nat}{t:Tn}(h:(n.eN k s).cont (fp (n.aZ k)) t=aa B):t.G6 (n.aZ k):=by
 cases t with
 |pg i g=>
  have h:(if i<ah (n.eN k s).aP/\g<ah ((n.eN k s).cd i) then aa (Zb ((n.eN k s).df i g))else ab)=aa B:=h
  split at h
  .rename_i a
   rw[oY]at a;rw[(l7 a.1).2.2.2]at a;have:=a.2;rw[List.length_replicate]at this;exact this
  .simp at h
 |_=>trivial
def V6{s:Nat}(h:AS (n.eN k s) (fp (n.aZ k)) σ)
  (l:∀t B,(∀q,t ≠ .ls q)->t ≠ .po->(n.eN k s).cont (fp (n.aZ k)) t=aa B->aQ τ (fp (n.aZ k) t)=aa B)
  (x:∀q,aQ τ (fp (n.aZ k) (.ls q))=aa (FL n k q (s+1))) (y:aQ τ (fp (n.aZ k) .po)=aa (Ob n k (s+1)))
  (z:aQ τ (fp (n.aZ k) (.rw .cl s))=aa (Zb (ag (aj n.ay) 0))) (C:aQ τ (fp (n.aZ k) (.rw .ps s))=aa (gr (n.vi s (aj n.ay)))) (D:aQ τ (fp (n.aZ k) (.rw .bp s))=aa (Zb (ag (aj n.aG) 0)))
  (E:aQ τ (fp (n.aZ k) (.pr s))=aa (ZU n k s)) (F:∀g,g<n.aZ k->aQ τ (fp (n.aZ k) (.pg s g))=aa (Zb (ag (aj n.aM) 0))):AS (n.eN k (s+1)) (fp (n.aZ k)) τ:=by
 refine⟨λt B b=>?_,λt u A B G b e=>zG (qU G) (qU b) e⟩;cases t with
 |ac=>
  rw[<-b];exact l .ac _ aA aA rfl
 |po=>rw[<-b,V4 ax];exact y
 |ls q=>rw[<-b,V3 ax];exact x q
 |rw q i=>
  have b:(if i<ah ((n.eN k (s+1)).tb q) then aa (lE q ((n.eN k (s+1)).dc q i))else ab)=aa B:=b
  rw[oX]at b;split at b
  .rename_i m
   by_cases e:i=s
   .subst e
    obtain⟨p,r,w,_⟩:=l7 (n:=n) (k:=k) m;cases q
    .rw[p]at b;rw[z];exact b
    .rw[r]at b;rw[C];exact b
    .rw[w]at b;rw[D];exact b
   .have j : i<s:=by omega
    refine l (.rw q i) B aA aA ?_
    show(if i<ah ((n.eN k s).tb q) then aa (lE q ((n.eN k s).dc q i))else ab)=_
    rw[oX,aD j, <-b];obtain⟨p,r,w,_⟩:=l7 (n:=n) (k:=k) m;obtain⟨b1,H,I,_⟩:=l7 (n:=n) (k:=k) j;cases q
    .rw[p,b1]
    .rw[r,H]
    .rw[w,I]
  .simp at b
 |pr i=>
  have m:i<s+1:=by
   have b:(if i<ah (n.eN k (s+1)).aP then aa _ else ab)=aa B:=b
   rw[oY]at b;exact dP λJ=>by rw[aC J]at b;simp at b
  rw[V5 m]at b
  by_cases e:i=s
  .subst e;rw[E];exact b
  .exact l (.pr i) B aA aA (by rw[V5 ax];exact b)
 |pg i g=>
  have d:(if i<ah (n.eN k (s+1)).aP/\g<ah ((n.eN k (s+1)).cd i) then aa (Zb ((n.eN k (s+1)).df i g))else ab)=aa B:=b
  rw[oY]at d;split at d
  .rename_i a
   have o:g<n.aZ k:=by
    have:=a.2;rw[(l7 a.1).2.2.2]at this;simpa using this
   rw[xe a.1 o]at d
   by_cases e:i=s
   .subst e;rw[F g o,d]
   .refine l (.pg i g) B aA aA ?_
    show(if i<ah (n.eN k s).aP/\g<ah ((n.eN k s).cd i) then aa (Zb ((n.eN k s).df i g))else ab)=_
    rw[oY,(l7 (show i<s by omega)).2.2.2,List.length_replicate,aD ⟨ax,o⟩,xe ax o]
    exact d
  .simp at d
def V7{A:aO}:AS (n.eN k 0) (fp (n.aZ k)) [A,⟨ab,(ag k ae).map .bool,.live⟩,B]:=by
 refine⟨λt C a=>?_,λt u A B b d e=>zG (qU b) (qU d) e⟩;cases t with
 |ac=>rw[<-a];rfl
 |ls q=>cases q<;>simp[aS.cont,aS.tb,aS.eN]at a
 |rw q s=>cases q<;>simp[aS.cont,aS.tb,aS.eN]at a
 |_=>simp[aS.cont,aS.eN]at a
def zH{s:Nat}:(n.eN k s).cv (fp (n.aZ k))=[.int n.ay,.int n.aG,.int n.aM,.int ((n.aZ k:Nat):Int),.int 0,.sl 1 k 0 k,dh (6+n.aZ k) s,dh (7+n.aZ k) s,dh (9+n.aZ k) s,dh (10+n.aZ k) s]:=by simp[aS.cv,aS.eN,fp]
def vj{Q:aq}{C:aO}:aV (Q ++ [B]) (ah Q) C=Q ++ [C]:=by rw[sE];simp
def zI(h:i<ah τ):∀(Q r:aq),ah τ<=ah Q->aQ (Q++r) i=aQ Q i:=λQ r a=>by
 rw[bE,bE,dq ax]
def V8(h:i<ah τ):∀(Q:aq) (B:aO),ah τ<=ah Q->aQ (aV Q i B) i=aa B:=λQ B a=>cQ ax
def pO(h:i ≠ j):∀(Q:aq) (B:aO),aQ (aV Q i B) j=aQ Q j:=λQ B=>bu h
def My (a k r g:Nat):aO:=⟨ab,(af k).map λi=>if i<g then jf (a+i) r else .aJ,.live⟩
variable{a:Nat}
def aoj{r:Nat}:((af k).map λi=>if i<g then jf (a+i) r else .aJ).set g (jf (a+g) r)=(af k).map λi=>if i<g+1 then jf (a+i) r else .aJ:=by
 apply gF aA
 intro i b d;rw[jm];simp only[gq,jn]
 by_cases e:g=i
 .subst e;rw[aD rfl,aD ax]
 .rw[aC e]
  by_cases h:i<g
  .rw[aD h,aD ax]
  .rw[aC h,aC ax]
def V9{r:Nat}:My a k r 0=⟨ab,ag k .aJ,.live⟩:=by
 unfold My
 congr 1
 apply gF aA
 intro i b d;simp
variable{r:aq}
def fD{Q:aq}(h:i<ah Q):aQ (Q++r) i=aQ Q i:=by rw[bE,bE,dq h]
def aok{Q:aq}(h:ah Q<=i):aQ (Q++r) i=aQ r (i-ah Q):=by rw[bE,bE,dW h]
def FM{Q:aq}(h:i=ah Q+m):aQ (Q++r) i=aQ r m:=by rw[aok ax];congr 1;omega
def Mz{t:Tn}(b:t.G6 k):fp k t ≠ 2/\fp k t ≠ 0:=by
 rcases yh b with⟨s,o,d,a,e,g⟩|⟨d,a⟩
 .by_cases z:s=0
  .subst z;rw[CD]at a;omega
  .have:=FJ (k:=k) z;omega
 .omega
def G7{s:Nat}:FL n k q (s+1)=⟨ab,(af s).map (λi=>jf (fp (n.aZ k) (.rw q i)) (n.Mw q)) ++ [.sl (fp (n.aZ k) (.rw q s)) (n.Mw q) 0 (n.Mw q)],.live⟩:=by
 unfold FL;rw[kL,kk];rfl
def G8{s:Nat}:Ob n k (s+1)=⟨ab,(af s).map (λi=>jf (fp (n.aZ k) (.pr i)) (n.aZ k)) ++ [.sl (fp (n.aZ k) (.pr s)) (n.aZ k) 0 (n.aZ k)],.live⟩:=by
 unfold Ob;rw[kL,kk];rfl
def Wa{s:Nat}(h:a=fB (n.aZ k) s+2):My a (n.aZ k) (aj n.aM) (n.aZ k)=ZU n k s:=by
 unfold My ZU
 congr 1
 refine fm λi b=>?_;rw[aD (cE.1 b),h];rfl
def pP{ce:CE}{n:Nat}{a b d e g i j l m o:AV}(h:aQ σ n=aa ⟨aa 10,[a,b,d,e,g,i,j,l,m,o],.live⟩):ev ce σ 0 [] (λ_=>.ptr n (ba (aa 10)) 0) (.ld (.v 0) (aa 10))=aa (.agg [a,b,d,e,g,i,j,l,m,o],ab):=by
 have p:upto σ n (ba (aa 10))=aa ⟨aa 10,[a,b,d,e,g,i,j,l,m,o],.live⟩:=by unfold upto;rw[h];rfl
 simp only[ev,p]
 rfl
def Wb (n:aS) (N:n.Ok) (k:Nat) (hk:k<=128) (O:k*aj n.ay<=128):LX L zk [n.av,.int k] [] (λr τ=>r = .agg ((n.eN k k).cv (fp (n.aZ k)))/\AS (n.eN k k) (fp (n.aZ k)) τ):=by
 refine akt rfl ?_;have hc:=N.ay;have hi:=N.aG;have hr:=N.aM;have hmul:(k:Int)*n.ay=((k*aj n.ay:Nat):Int):=qt
 have R:max 1 ((k:Int)*n.ay)=((n.aZ k:Nat):Int):=by rw[hmul];unfold aS.aZ;omega
 have zD:n.aZ k<=128:=by unfold aS.aZ;omega
 have hkc:0<=(k:Int)*n.ay/\(k:Int)*n.ay<=128:=by rw[hmul];exact⟨qx _,Int.ofNat_le.2 O⟩
 simp[-aK,-List.map_replicate,R];refine⟨ax,ax,?_⟩
 refine bB (λq:Nat×aq=>[(3,.int q.1)]) (λq=>q.2) (λq=>q.1<=k/\AS (n.eN k q.1) (fp (n.aZ k)) q.2/\aQ q.2 2=aa ⟨aa 10,(n.eN k q.1).cv (fp (n.aZ k)),.live⟩/\ah q.2=fB (n.aZ k) q.1/\aQ q.2 0=aa ⟨aa 10,[.int 0,.int 0,.int 0,.int 0,.int 0,.aJ,.aJ,.aJ,.aJ,.aJ],.live⟩) (λq=>k-q.1) (0,[⟨aa 10,[.int 0,.int 0,.int 0,.int 0,.int 0,.aJ,.aJ,.aJ,.aJ,.aJ],.live⟩,⟨ab,(ag k ae).map .bool,.live⟩,⟨aa 10,[.int n.ay,.int n.aG,.int n.aM,.int ((n.aZ k:Nat):Int),.int 0,.sl 1 k 0 k,.aJ,.aJ,.aJ,.aJ],.live⟩]) bS ⟨aA,V7,by simp[aQ,aS.cv,aS.eN,dh,fp],by simp[fB],by simp[aQ]⟩ ?_
 rintro⟨s,σ⟩ ⟨s0,x,u,hlen,y⟩;dsimp only at s0 x u hlen y ⊢
 by_cases hs:s<k
 .have hsc:0<=(s:Int)*n.ay/\(s:Int)*n.ay<=128:=⟨pH ax hc.1,by have:=Int.mul_le_mul_of_nonneg_right (show(s:Int)<=k by omega) hc.1;omega⟩
  simp[-aK,hs];refine bB (λc:Nat=>[(5,.int c),(7,.sl (ah σ) c 0 c)]) (λc=>σ ++ [gr (n.vi s c)]) (λc=>c<=aj n.ay) (λc=>aj n.ay-c) 0 (by simp[fj,aS.vi]) ax ?_
  intro c c0
  by_cases pD:c<aj n.ay
  .have D:=bz (show(c:Int)<n.ay by omega)
   have F:=λB:aO=>(gZ (Q:=σ) (r:=[]) (B:=B));have S:=aoi (n:=n) (s:=s) (j:=c);have G:=FK (n:=n) (s:=s) (j:=c);generalize n.vi s c=P at *;simp[-aK,D,F,G];refine⟨ax,ax,iB,ax,ax,a8 (c+1) aA ?_ ax ax⟩
   rw[vj,S];simp[gr]
  .have D:=eG (show ¬(c:Int)<n.ay by omega)
   have ec:c=aj n.ay:=ax
   have A:∀r:aq,aQ (σ++r) 2=_:=λr=>iu (r:=r) u;rw[zH]at A;have G:=FK (n:=n) (s:=s) (j:=c);simp[-aK,-List.map_replicate,-Int.toNat_natCast,D,A];simp only[jT,<-V9 (a:=ah σ+2) (r:=aj n.aM)];refine⟨ax,?_⟩
   refine bB (λq:Nat×aq=>[(12,.int q.1)]) (λq=>q.2) (λq=>q.1<=n.aZ k/\(∀b,b<ah σ->aQ q.2 b=aQ σ b)/\aQ q.2 (ah σ)=aa (gr (n.vi s c))/\aQ q.2 (ah σ+1)=aa (My (ah σ+2) (n.aZ k) (aj n.aM) q.1)/\(∀g,g<q.1->aQ q.2 (ah σ+2+g)=aa (Zb (ag (aj n.aM) 0)))/\ah q.2=ah σ+2+q.1) (λq=>n.aZ k-q.1) (0,σ ++ [gr (n.vi s c),My (ah σ+2) (n.aZ k) (aj n.aM) 0]) bS ⟨aA,λb F=>by rw[bE,bE,List.getElem?_append_left F],gZ,LP,λg h=>by dsimp only at h;omega,aA⟩ ?_
   rintro⟨g,τ⟩ ⟨g0,d,J,E,K,z⟩;dsimp only at g0 d J E K z ⊢
   by_cases H:g<n.aZ k
   .unfold My at E
    have T:∀B:aO,aQ (τ ++ [B]) (ah σ+1)=_:=λB=>iu (r:=[B]) E;simp[-aK,-List.map_replicate,H,E,T];refine⟨ax,ax,ax,a8 (g+1,_) aA rfl ⟨aR,λb F=>?_,?_,?_,λi hi=>?_,?_⟩ aR⟩
    .dsimp only
     rw[bu ax,<-d b F,bE,bE,dq ax]
    .dsimp only
     rw[bu ax];exact iu J
    .dsimp only
     rw[cQ aT]
     show aa (⟨ab,_,.live⟩:aO)=_;rw[z];rw[show(AV.sl (ah σ+2+g) (aj n.aM) 0 (aj n.aM)).cells=[jf (ah σ+2+g) (aj n.aM)]from rfl,tD,aoj];rfl
    .dsimp only at hi ⊢
     rw[bu ax]
     by_cases e:i=g
     .subst e
      rw[<-z];exact gZ
     .exact iu (K i ax)
    .dsimp only
     rw[cV,bM,z];simp;omega
   .have eg:g=n.aZ k:=by omega
    subst eg;have l:=(d 2 (by rw[hlen];unfold fB;split<;>omega)).trans u
    rw[zH]at l
    by_cases w:s=0
    .subst w
     rw[show dh (6+n.aZ k) 0 = .aJ from rfl,show dh (7+n.aZ k) 0 = .aJ from rfl,show dh (9+n.aZ k) 0 = .aJ from rfl,show dh (10+n.aZ k) 0 = .aJ from rfl]at l;have l2:2<ah τ:=ax
     have U:=zI l2;have V:=V8 l2;simp[-aK,-List.map_replicate,l,U,V,Nat.le_add_right_of_le,cV];have p : ah σ=3:=hlen;refine⟨ax,ax,a8 (1,_) aA rfl ⟨aR,V6 x (λt B M t2 o=>?_) (λq=>?_) ?_ ?_ ?_ ?_ ?_ (λg H=>?_),?_,?_,?_⟩ aR⟩
     .have f1:=x.lt o
      have f2:=(Mz (qU o)).1;have:=x.has t B o;rw[<-d _ f1]at this;simp(disch:=((try simp only[cV,bM,cT,eX]);omega)) only[bu,fD]
      exact this
     .rw[G7]
      cases q
      .rw[show fp (n.aZ k) (.ls .cl)=ah τ+1 by simp[fp];omega]
       simp(disch:=((try simp only[cV,bM,cT,eX]);omega)) only[bu,fD]
       rw[LP,show (ah τ)=fp (n.aZ k) (.rw .cl 0)by simp[fp,fB];omega];rfl
      .rw[show fp (n.aZ k) (.ls .ps)=ah τ+2 by simp[fp];omega]
       simp(disch:=((try simp only[cV,bM,cT,eX]);omega)) only[bu,fD]
       rw[am0,p, ec];rfl
      .rw[show fp (n.aZ k) (.ls .bp)=ah τ+3+1 by simp[fp];omega]
       simp(disch:=((try simp only[cV,bM,cT,eX]);omega)) only[bu]
       rw[FM (m:=1) jG,show (ah τ)+3=fp (n.aZ k) (.rw .bp 0)by simp[fp,fB];omega];rfl
     .rw[G8,show fp (n.aZ k) .po=ah τ+3+2 by simp[fp];omega]
      simp(disch:=((try simp only[cV,bM,cT,eX]);omega)) only[bu]
      rw[FM (m:=2) jG,p];try rfl
     .rw[show fp (n.aZ k) (.rw .cl 0)=ah τ by simp[fp,fB];omega]
      simp(disch:=((try simp only[cV,bM,cT,eX]);omega)) only[bu,fD]
      exact gZ
     .rw[show fp (n.aZ k) (.rw .ps 0)=ah σ by rw[p];rfl]
      simp(disch:=((try simp only[cV,bM,cT,eX]);omega)) only[bu,fD]
      rw[J,ec]
     .rw[show fp (n.aZ k) (.rw .bp 0)=ah τ+3 by simp[fp,fB];omega]
      simp(disch:=((try simp only[cV,bM,cT,eX]);omega)) only[bu]
      rw[FM (m:=0) jG]
     .rw[show fp (n.aZ k) (.pr 0)=ah σ+1 by rw[p];rfl]
      simp(disch:=((try simp only[cV,bM,cT,eX]);omega)) only[bu,fD]
      rw[E,Wa (s:=0) (by rw[p];rfl)]
     .rw[show fp (n.aZ k) (.pg 0 g)=ah σ+2+g by rw[p];rfl]
      simp(disch:=((try simp only[cV,bM,cT,eX]);omega)) only[bu,fD]
      exact K g H
     .dsimp only
      rw[cQ jG,zH,show dh (6+n.aZ k) 1 = .sl (6+n.aZ k) 1 0 1 from rfl,show dh (7+n.aZ k) 1 = .sl (7+n.aZ k) 1 0 1 from rfl,show dh (9+n.aZ k) 1 = .sl (9+n.aZ k) 1 0 1 from rfl,show dh (10+n.aZ k) 1 = .sl (10+n.aZ k) 1 0 1 from rfl,show (ah τ)+1=6+n.aZ k by omega,show (ah τ)+2=7+n.aZ k by omega,show (ah τ)+3+1=9+n.aZ k by omega,show (ah τ)+3+2=10+n.aZ k by omega]
     .dsimp only
      rw[aof];simp only[cV,bM,cT,eX];omega
     .dsimp only
      simp(disch:=((try simp only[cV,bM,cT,eX]);omega)) only[bu,fD]
      rw[d 0 ax];exact y
    .rw[show dh (6+n.aZ k) s = .sl (6+n.aZ k) s 0 s from aC w,show dh (7+n.aZ k) s = .sl (7+n.aZ k) s 0 s from aC w,show dh (9+n.aZ k) s = .sl (9+n.aZ k) s 0 s from aC w,show dh (10+n.aZ k) s = .sl (10+n.aZ k) s 0 s from aC w]at l
     have o:=FJ (k:=n.aZ k) w;have lk:∀q:Kd,aQ τ (fp (n.aZ k) (.ls q))=aa (FL n k q s):=λq=>(d _ (by cases q<;>simp[fp]<;>omega)).trans (x.has (.ls q) _ (V3 w))
     have I:aQ τ (10+n.aZ k)=aa (Ob n k s):=(d _ ax).trans (x.has .po _ (V4 w))
     have b6:aQ τ (6+n.aZ k)=aa (FL n k .cl s):=lk .cl;have b7:aQ τ (7+n.aZ k)=aa (FL n k .ps s):=lk .ps;have b9:aQ τ (9+n.aZ k)=aa (FL n k .bp s):=lk .bp;have U:=zI (τ:=τ) (i:=2) ax
     have a6:=zI (τ:=τ) (i:=6+n.aZ k) ax
     have a7:=zI (τ:=τ) (i:=7+n.aZ k) ax
     have a9:=zI (τ:=τ) (i:=9+n.aZ k) ax
     have W:=zI (τ:=τ) (i:=10+n.aZ k) ax
     have V:=V8 (τ:=τ) (i:=2) ax
     have n1:=pO (i:=6+n.aZ k) (j:=7+n.aZ k) ax
     have n2:=pO (i:=6+n.aZ k) (j:=2) ax
     have n3:=pO (i:=7+n.aZ k) (j:=2) ax
     have n4:=pO (i:=6+n.aZ k) (j:=9+n.aZ k) ax
     have n5:=pO (i:=7+n.aZ k) (j:=9+n.aZ k) ax
     have n6:=pO (i:=2) (j:=9+n.aZ k) ax
     have n7:=pO (i:=6+n.aZ k) (j:=10+n.aZ k) ax
     have n8:=pO (i:=7+n.aZ k) (j:=10+n.aZ k) ax
     have n9:=pO (i:=9+n.aZ k) (j:=10+n.aZ k) ax
     have X:=pO (i:=2) (j:=10+n.aZ k) ax
     have Y:=pO (i:=9+n.aZ k) (j:=2) ax
     have Z:=pO (i:=10+n.aZ k) (j:=2) ax
     unfold FL at b6 b7 b9;unfold Ob at I;simp[-aK,-List.map_replicate,l,U,a6,a7,a9,W,V,Nat.le_add_right_of_le,n1,n2,n3,n4,n5,n6,n7,n8,n9,X,Y,Z,b6,b7,b9,I,cV];refine⟨ax,ax,ax,ax,ax,a8 (s+1,_) aA rfl ⟨aR,V6 x (λt B M t2 o=>?_) (λq=>?_) ?_ ?_ ?_ ?_ ?_ (λg H=>?_),?_,?_,?_⟩ aR⟩
     .have f1:=x.lt o
      have f2:=(Mz (qU o)).1;have f6:fp (n.aZ k) t ≠ 6+n.aZ k:=λe=>M .cl (zG (qU o) trivial e);have f7:fp (n.aZ k) t ≠ 7+n.aZ k:=λe=>M .ps (zG (qU o) trivial e);have f9:fp (n.aZ k) t ≠ 9+n.aZ k:=λe=>M .bp (zG (qU o) trivial e);have f10:fp (n.aZ k) t ≠ 10+n.aZ k:=λe=>t2 (zG (qU o) trivial e);have:=x.has t B o;rw[<-d _ f1]at this;simp(disch:=((try simp only[cV,bM,cT,eX]);omega)) only[bu,fD]
      exact this
     .rw[G7]
      cases q
      .rw[show fp (n.aZ k) (.ls .cl)=6+n.aZ k from rfl]
       simp(disch:=((try simp only[cV,bM,cT,eX]);omega)) only[bu,fD]
       rw[cQ jG,show (ah τ)=fp (n.aZ k) (.rw .cl s)by simp[fp];omega];rfl
      .rw[show fp (n.aZ k) (.ls .ps)=7+n.aZ k from rfl]
       simp(disch:=((try simp only[cV,bM,cT,eX]);omega)) only[bu,fD]
       rw[cQ jG,hlen,ec];rfl
      .rw[show fp (n.aZ k) (.ls .bp)=9+n.aZ k from rfl]
       simp(disch:=((try simp only[cV,bM,cT,eX]);omega)) only[bu,fD]
       rw[cQ jG,show (ah τ)+1=fp (n.aZ k) (.rw .bp s)by simp[fp,w];omega];rfl
     .rw[G8,show fp (n.aZ k) .po=10+n.aZ k from rfl]
      simp(disch:=((try simp only[cV,bM,cT,eX]);omega)) only[bu,fD]
      rw[cQ jG,hlen];rfl
     .rw[show fp (n.aZ k) (.rw .cl s)=ah τ by simp[fp];omega]
      simp(disch:=((try simp only[cV,bM,cT,eX]);omega)) only[bu,fD]
      exact gZ
     .rw[show fp (n.aZ k) (.rw .ps s)=ah σ by rw[hlen];rfl]
      simp(disch:=((try simp only[cV,bM,cT,eX]);omega)) only[bu,fD]
      rw[J,ec]
     .rw[show fp (n.aZ k) (.rw .bp s)=ah τ+1 by simp[fp,w];omega]
      simp(disch:=((try simp only[cV,bM,cT,eX]);omega)) only[bu]
      rw[FM (m:=0) jG]
     .rw[show fp (n.aZ k) (.pr s)=ah σ+1 by rw[hlen];rfl]
      simp(disch:=((try simp only[cV,bM,cT,eX]);omega)) only[bu,fD]
      rw[E,Wa (s:=s) (by rw[hlen])]
     .rw[show fp (n.aZ k) (.pg s g)=ah σ+2+g by rw[hlen];rfl]
      simp(disch:=((try simp only[cV,bM,cT,eX]);omega)) only[bu,fD]
      exact K g H
     .dsimp only
      rw[cQ jG,zH]
      rfl
     .dsimp only
      rw[aog w];simp only[cV,bM,cT,eX];omega
     .dsimp only
      simp(disch:=((try simp only[cV,bM,cT,eX]);omega)) only[bu,fD]
      rw[d 0 ax];exact y
 .have es:s=k:=by omega
  subst es;rw[zH]at u;have hna:∀b m:Nat,eA (dh b m)=ad:=λb m=>by unfold dh;split<;>rfl
  have C:∀B:aO,aQ (aV σ 0 B) 0=aa B:=λB=>cQ (by rw[hlen];unfold fB;split<;>omega)
  have A1:=λ(ce:CE) (c0 c1 c2 c3 c4 c5 c6 c7 c8 c9:AV)=>pP (ce:=ce) (σ:=aV σ 0 ⟨aa 10,[c0,c1,c2,c3,c4,c5,c6,c7,c8,c9],.live⟩) (n:=0) (C _);simp[-aK,u,y,hna,C,A1];exact⟨zH.symm,x.other λt B o=>bu (Ne.symm (Mz (qU o)).2)⟩
abbrev jz:=Int×Int×ak
def nV (c:jz):AV:=.agg [.int c.1,.int c.2.1,iL c.2.2]
abbrev Oc (l:List jz):AV:=.aX ae (l.map nV)
structure ZV (D:Vd) (cls:ak) (l:List jz):Prop where
 vn:kQ D
 vo:vg D
 k:1<=ah l/\ah l<=128
 kc:ah l*aj D.n.ay<=128
 cl:ah cls=ah D.K
 cr:∀c∈cls,0<=c/\c<(ah l:Int)
 v:∀c∈l,0<=c.2.1/\c.2.1<(ah D.K:Int)
 c:∀c∈l,0<=c.1/\c.1<(ah l:Int)
 nd:(l.map λc=>c.1).Nodup
 s0:D.n.aF<(ah D.plc:Int)
 s1:0<=D.jP/\D.jP<(ah D.n.bQ:Int)
def zJ (l:List jz) (i:Nat):Int:=(ix l (i:Int)).2.1
def yi (l:List jz) (i:Nat):Int:=(ix l (i:Int)).1
def ZW (st cls:ak) (y:Int):Int:=ix st (ix cls y)
def xg (D:Vd) (cls:ak) (l:List jz) (st:ak) (i g r:Nat):Int:=if (aj D.n.ay)=0 then 0 else ZW st cls (D.bk (zJ l (g/aj D.n.ay)) ((g%aj D.n.ay:Nat):Int) (zJ l i) (r:Int))
def FN (D:Vd) (cls:ak) (l:List jz) (st:ak) (i j:Nat):Int:=ZW st cls (D.im (zJ l i) (j:Int))
structure oh (D:Vd) (cls:ak) (l:List jz) (st:ak) (a s J G R:Nat) (A:aS):Prop where
 h1:A.ay=D.n.ay
 h2:A.aG=D.n.aG
 h3:A.aM=D.n.aM
 h4:A.aL=((D.n.aZ (ah l):Nat):Int)
 h5:A.aF=0
 h6:A.call=(D.n.eN (ah l) (ah l)).call
 h7:A.push=(D.n.eN (ah l) (ah l)).push
 la:ah A.az=ah l
 li:ah A.aH=ah l
 rY:∀i,i<ah l->ah (A.dc .bp i)=aj D.n.aG
 lp:ah A.aP=ah l
 oZ:∀i,i<ah l->ah (A.cd i)=D.n.aZ (ah l)
 rZ:∀i g,i<ah l->g<D.n.aZ (ah l)->ah (A.df i g)=aj D.n.aM
 ac:∀i:Nat,i<ah l->ix A.az (i:Int)=if i<a then D.ac D.jP (zJ l i)else ae
 bp:∀i j:Nat,i<ah l->j<aj D.n.aG->ix (A.dc .bp i) (j:Int)=if i<s\/i=s/\j<J then FN D cls l st i j else 0
 aP:∀i g r:Nat,i<ah l->g<D.n.aZ (ah l)->r<aj D.n.aM->ix (A.df i g) (r:Int)=if i<s\/i=s/\(g<G\/g=G/\r<R)then xg D cls l st i g r else 0
variable{cls st:ak}{l:List jz}
def Wc:oh D cls l st 0 0 0 0 0 (D.n.eN (ah l) (ah l)):=by
 refine⟨rfl,rfl,rfl,rfl,rfl,rfl,rfl,by simp[aS.eN],by simp[aS.eN],λi a=>by rw[Mx a];rfl,oY,λi a=>by rw[(l7 a).2.2.2];simp,λi g a b=>by rw[xe a b];simp,λi a=>?_,λi j a d=>?_,λi g r a b e=>?_⟩
 .rw[aC ax];exact lF a
 .rw[aC ax,(l7 a).2.2.1];exact lF d
 .rw[aC ax,xe a b];exact lF e
variable{J R:Nat}{A:aS}
def oh.cv{s G:Nat}(h:oh D cls l st a s J G R A) (hk:ah l ≠ 0) (p:Tn->Nat):A.cv p=[.int D.n.ay,.int D.n.aG,.int D.n.aM,.int ((D.n.aZ (ah l):Nat):Int),.int 0,.sl (p .ac) (ah l) 0 (ah l),.sl (p (.ls .cl)) (ah l) 0 (ah l),.sl (p (.ls .ps)) (ah l) 0 (ah l),.sl (p (.ls .bp)) (ah l) 0 (ah l),.sl (p .po) (ah l) 0 (ah l)]:=by
 have e1:ah A.call=ah l:=by rw[h.h6];exact oX .cl
 have e2:ah A.push=ah l:=by rw[h.h7];exact oX .ps
 unfold aS.cv dh;rw[h.h1,h.h2,h.h3,h.h4,h.h5,h.la,e1,e2,h.li,h.lp,aC hk,aC hk,aC hk,aC hk]
def oh.oT{s G:Nat}(h:oh D cls l st s s J G R A) (hs:s<ah l):oh D cls l st (s+1) s J G R {A with az:=A.az.set s (D.ac D.jP (zJ l s))}:=by
 refine⟨h.h1,h.h2,h.h3,h.h4,h.h5,h.h6,h.h7,by simp[h.la],h.li,h.rY,h.lp,h.oZ,h.rZ,λi hi=>?_,h.bp,h.aP⟩
 show ix (A.az.set s _) (i:Int)=_;rw[jZ (by rw[h.la];exact hs)]
 by_cases e:i=s
 .rw[aD e,aD ax,e]
 .rw[aC e,h.ac i hi]
  by_cases e2:i<s
  .rw[aD e2,aD ax]
  .rw[aC e2,aC ax]
def oh.oU{s G:Nat}(h:oh D cls l st a s J G R A) (hs:s<ah l) (hJ:J<aj D.n.aG):oh D cls l st a s (J+1) G R {A with aH:=A.aH.set s ((A.dc .bp s).set J (FN D cls l st s J))}:=by
 have iD:∀s' : Nat,aS.dc {A with aH:=A.aH.set s ((A.dc .bp s).set J (FN D cls l st s J))} .bp s' = if s' = s then(A.dc .bp s).set J (FN D cls l st s J)else A.dc .bp s' :=λs' =>jZ (by rw[h.li];exact hs) s'
 refine⟨h.h1,h.h2,h.h3,h.h4,h.h5,h.h6,h.h7,h.la,by simp[h.li],λi hi=>?_,h.lp,h.oZ,h.rZ,h.ac,λi j hi hj=>?_,h.aP⟩
 .rw[iD]
  split
  .rw[pF];exact h.rY s hs
  .exact h.rY i hi
 .rw[iD]
  by_cases e:i=s
  .rw[aD e,jZ (by rw[h.rY s hs];exact hJ)]
   by_cases e2:j=J
   .rw[aD e2,aD (.inr ⟨e,ax⟩),e,e2]
   .subst e
    rw[aC e2,h.bp i j hi hj]
    by_cases e3:j<J
    .rw[aD (.inr ⟨rfl,e3⟩),aD (.inr ⟨rfl,ax⟩)]
    .rw[aC ax,aC ax]
  .rw[aC e,h.bp i j hi hj]
   by_cases e3:i<s
   .rw[aD (.inl e3),aD (.inl e3)]
   .rw[aC ax,aC ax]
def oh.oV{s G:Nat}(h:oh D cls l st a s J G R A) (hs:s<ah l) (hG:G<D.n.aZ (ah l)) (hR:R<aj D.n.aM):oh D cls l st a s J G (R+1) {A with aP:=A.aP.set s ((A.cd s).set G ((A.df s G).set R (xg D cls l st s G R)))}:=by
 have iD:∀s' : Nat,aS.cd {A with aP:=A.aP.set s ((A.cd s).set G ((A.df s G).set R (xg D cls l st s G R)))} s' = if s' = s then(A.cd s).set G ((A.df s G).set R (xg D cls l st s G R))else A.cd s' :=λs' =>jZ (by rw[h.lp];exact hs) s'
 have oW:∀s' g' : Nat,aS.df {A with aP:=A.aP.set s ((A.cd s).set G ((A.df s G).set R (xg D cls l st s G R)))} s' g' = if s' = s/\g' = G then(A.df s G).set R (xg D cls l st s G R)else A.df s' g' :=λs' g' =>by
  generalize (A.df s G).set R (xg D cls l st s G R)=w at *;unfold aS.df;rw[iD]
  by_cases e:s' = s
  .rw[aD e,jZ (by rw[h.oZ s hs];exact hG)]
   by_cases e2:g' = G
   .rw[aD e2,aD ⟨e,e2⟩]
   .rw[aC e2,aC λa=>e2 a.2,e]
  .rw[aC e,aC λa=>e a.1]
 refine⟨h.h1,h.h2,h.h3,h.h4,h.h5,h.h6,h.h7,h.la,h.li,h.rY,by simp[h.lp],λi hi=>?_,λi g hi hg=>?_,h.ac,h.bp,λi g r hi hg hr=>?_⟩
 .rw[iD]
  split
  .rw[pF];exact h.oZ s hs
  .exact h.oZ i hi
 .rw[oW]
  split
  .rw[pF];exact h.rZ s G hs hG
  .exact h.rZ i g hi hg
 .rw[oW]
  by_cases e:i=s/\g=G
  .rw[aD e,jZ (by rw[h.rZ s G hs hG];exact hR)]
   by_cases e2:r=R
   .rw[aD e2,aD (.inr ⟨e.1,.inr ⟨e.2,ax⟩⟩),e.1,e.2,e2]
   .have hp:=h.aP s G r hs hG hr
    rw[aC e2,hp,e.1,e.2]
    by_cases e3:r<R
    .rw[aD (.inr ⟨rfl,.inr ⟨rfl,e3⟩⟩),aD (.inr ⟨rfl,.inr ⟨rfl,ax⟩⟩)]
    .rw[aC ax,aC ax]
  .rw[aC e,h.aP i g r hi hg hr]
   by_cases e3:i<s\/i=s/\(g<G\/g=G/\r<R)
   .rw[aD e3,aD ax]
   .rw[aC e3,aC ax]
def oh.CF{s G:Nat}(h:oh D cls l st a s J G (aj D.n.aM) A):oh D cls l st a s J (G+1) 0 A:=by
 refine⟨h.h1,h.h2,h.h3,h.h4,h.h5,h.h6,h.h7,h.la,h.li,h.rY,h.lp,h.oZ,h.rZ,h.ac,h.bp,λi g r hi hg hr=>?_⟩;rw[h.aP i g r hi hg hr]
 by_cases e3:i<s\/i=s/\(g<G\/g=G/\r<aj D.n.aM)
 .rw[aD e3,aD ax]
 .rw[aC e3,aC ax]
def oh.CG{s:Nat}(h:oh D cls l st (s+1) s (aj D.n.aG) (ah l*aj D.n.ay) 0 A):oh D cls l st (s+1) (s+1) 0 0 0 A:=by
 refine⟨h.h1,h.h2,h.h3,h.h4,h.h5,h.h6,h.h7,h.la,h.li,h.rY,h.lp,h.oZ,h.rZ,h.ac,λi j hi hj=>?_,λi g r hi hg hr=>?_⟩
 .rw[h.bp i j hi hj]
  by_cases e3:i<s\/i=s/\j<aj D.n.aG
  .rw[aD e3,aD ax]
  .rw[aC e3,aC ax]
 .rw[h.aP i g r hi hg hr]
  by_cases hc:aj D.n.ay=0
  .have:xg D cls l st i g r=0:=aD hc
   rw[this];simp
  .have fT:D.n.aZ (ah l)=max 1 (ah l*aj D.n.ay):=rfl
   have:1<=ah l*aj D.n.ay:=Nat.mul_pos ax ax
   by_cases e3:i<s\/i=s/\(g<ah l*aj D.n.ay\/g=ah l*aj D.n.ay/\r<0)
   .rw[aD e3,aD ax]
   .rw[aC e3,aC ax]
def vk (D:Vd) (cls:ak) (l:List jz) (st:ak):aS:=⟨D.n.ay,D.n.aG,D.n.aM,((D.n.aZ (ah l):Nat):Int),0,(af (ah l)).map λi=>D.ac D.jP (zJ l i),(D.n.eN (ah l) (ah l)).call,(D.n.eN (ah l) (ah l)).push,(af (ah l)).map λi=>(af (aj D.n.aG)).map λj=>FN D cls l st i j,(af (ah l)).map λi=>(af (D.n.aZ (ah l))).map λg=>(af (aj D.n.aM)).map λr=>xg D cls l st i g r⟩
def pQ{a:Type} [Inhabited a]{l:List a}{f:Nat->a}(b:ah l=k) (h:∀i:Nat,i<k->ix l (i:Int)=f i):l=(af k).map f:=by
 refine gF fS λi d e=>?_
 have:=h i ax
 rw[bt d]at this;simp[this]
def oh.fin(h:oh D cls l st (ah l) (ah l) 0 0 0 A):A=vk D cls l st:=by
 obtain⟨c,i,r,sk,s0,ac,cl,ps,bp,po⟩:=A;have e1:c=D.n.ay:=h.h1;have e2:i=D.n.aG:=h.h2;have e3:r=D.n.aM:=h.h3;have e4:sk=((D.n.aZ (ah l):Nat):Int):=h.h4;have e5:s0=0:=h.h5;have e6:cl=(D.n.eN (ah l) (ah l)).call:=h.h6;have e7:ps=(D.n.eN (ah l) (ah l)).push:=h.h7;have e8:ac=(af (ah l)).map λi=>D.ac D.jP (zJ l i):=pQ h.la λi hi=>by
  have:=h.ac i hi;rw[aD hi]at this;exact this
 have e9:bp=(af (ah l)).map λi=>(af (aj D.n.aG)).map λj=>FN D cls l st i j:=pQ h.li λi hi=>pQ (h.rY i hi) λj hj=>by
  have:=h.bp i j hi hj;rw[aD (.inl hi)]at this;exact this
 have e10:po=(af (ah l)).map λi=>(af (D.n.aZ (ah l))).map λg=>(af (aj D.n.aM)).map λr=>xg D cls l st i g r:=pQ h.lp λi hi=>pQ (h.oZ i hi) λg hg=>pQ (h.rZ i g hi hg) λr hr=>by
  have:=h.aP i g r hi hg hr;rw[aD (.inl hi)]at this;exact this
 rw[e1,e2,e3,e4,e5,e6,e7,e8,e9,e10];rfl
structure sA (D:Vd) (l:List jz) (st:ak) (b:Nat) (A:aS) (σ:aq):Prop where
 m:AS A (λt=>fp (D.n.aZ (ah l)) t+2) σ
 b:aQ σ b=aa ⟨aa 10,[.int D.n.ay,.int D.n.aG,.int D.n.aM,.int ((D.n.aZ (ah l):Nat):Int),.int 0,.sl 3 (ah l) 0 (ah l),.sl (6+D.n.aZ (ah l)+2) (ah l) 0 (ah l),.sl (7+D.n.aZ (ah l)+2) (ah l) 0 (ah l),.sl (9+D.n.aZ (ah l)+2) (ah l) 0 (ah l),.sl (10+D.n.aZ (ah l)+2) (ah l) 0 (ah l)],.live⟩
 s:aQ σ 1=aa (Zb st)
 z:aQ σ 0=aa ⟨aa 10,[.int 0,.int 0,.int 0,.int 0,.int 0,.aJ,.aJ,.aJ,.aJ,.aJ],.live⟩
variable{b:Nat}
def sA.acc(h:sA D l st b A σ) (hb:3<b){w:List Bool}:sA D l st b {A with az:=w} (aV σ 3 ⟨ab,w.map .bool,.live⟩):=
 ⟨h.m.oT,by rw[bu ax];exact h.b,by rw[bu ax];exact h.s,by rw[bu ax];exact h.z⟩
def sA.bp(h:sA D l st b A σ){s:Nat}(hs:s<ah A.aH) (hb:fp (D.n.aZ (ah l)) (.rw .bp s)+2<b){w:ak}(hl:ah w=ah (A.dc .bp s)):sA D l st b {A with aH:=A.aH.set s w} (aV σ (fp (D.n.aZ (ah l)) (.rw .bp s)+2) (Zb w)):=
 ⟨h.m.oU hs hl,by rw[bu ax];exact h.b,by rw[bu ax];exact h.s,by rw[bu ax];exact h.z⟩
def sA.aP(h:sA D l st b A σ){s:Nat}(hs:s<ah A.aP) (hg:g<ah (A.cd s)) (hb:fp (D.n.aZ (ah l)) (.pg s g)+2<b){w:ak}(hl:ah w=ah (A.df s g)):sA D l st b {A with aP:=A.aP.set s ((A.cd s).set g w)} (aV σ (fp (D.n.aZ (ah l)) (.pg s g)+2) (Zb w)):=
 ⟨h.m.oV hs hg hl,by rw[bu ax];exact h.b,by rw[bu ax];exact h.s,by rw[bu ax];exact h.z⟩
def sA.ls{s G:Nat}(h:sA D l st b A σ) (hT:oh D cls l st a s J G R A) (hk:ah l ≠ 0):aQ σ (9+D.n.aZ (ah l)+2)=aa ⟨ab,(af (ah l)).map λi=>jf (fp (D.n.aZ (ah l)) (.rw .bp i)+2) (aj D.n.aG),.live⟩:=by
 have:=h.m.has (.ls .bp) _ (aC λe=>by have:=hT.li;rw[show A.aH=[]from e]at this;exact hk this.symm)
 rw[show aQ σ (9+D.n.aZ (ah l)+2)=_ from this];rw[show(ah (A.tb .bp))=ah l from hT.li]
 congr 2
 exact fm λi hi=>by rw[hT.rY i (cE.1 hi)]
def sA.po{s G:Nat}(h:sA D l st b A σ) (hT:oh D cls l st a s J G R A) (hk:ah l ≠ 0):aQ σ (10+D.n.aZ (ah l)+2)=aa ⟨ab,(af (ah l)).map λi=>jf (fp (D.n.aZ (ah l)) (.pr i)+2) (D.n.aZ (ah l)),.live⟩:=by
 have:=h.m.has .po _ (aC λe=>by have:=hT.lp;rw[e]at this;exact hk this.symm)
 rw[show aQ σ (10+D.n.aZ (ah l)+2)=_ from this];rw[hT.lp]
 congr 2
 exact fm λi hi=>by rw[hT.oZ i (cE.1 hi)]
def sA.pr{s G:Nat}(h:sA D l st b A σ) (hT:oh D cls l st a s J G R A)(hi:i<ah l):aQ σ (fp (D.n.aZ (ah l)) (.pr i)+2)=aa ⟨ab,(af (D.n.aZ (ah l))).map λg=>jf (fp (D.n.aZ (ah l)) (.pg i g)+2) (aj D.n.aM),.live⟩:=by
 have:=h.m.has (.pr i) _ (aD (by rw[hT.lp];exact hi))
 rw[this,hT.oZ i hi]
 congr 2
 exact fm λg hg=>by rw[hT.rZ i g hi (cE.1 hg)]
def aol (D:Vd) (cls:ak) (l:List jz) (h:ZV D cls l) :
  LX L EF [D.vcs.av,iL cls,Oc l] [] (λr τ=>∃st:ak,cK τ ae r=aa (vk D cls l st).av/\ah st=ah l/\∀i:Nat,i<ah l->ix st (yi l i)=i):=by
 refine aj0 rfl ?_;obtain⟨ZL,vF⟩:=h.k;simp[-aK,-List.map_replicate];refine⟨ax,?_⟩
 refine bB (λq:Nat×ak=>[(3,.int q.1)]) (λq=>[⟨aa 10,[.int 0,.int 0,.int 0,.int 0,.int 0,.aJ,.aJ,.aJ,.aJ,.aJ],.live⟩,Zb q.2]) (λq=>q.1<=ah l/\ah q.2=ah l/\∀i:Nat,i<q.1->ix q.2 (yi l i)=i) (λq=>ah l-q.1) (0,ag (ah l) 0) bS ⟨aA,aA,λi hi=>by dsimp only at hi;omega⟩ ?_
 rintro⟨i,st⟩ ⟨i0,J,P⟩;dsimp only at i0 J P ⊢
 by_cases hi:i<ah l
 .have hc:=h.c _ (bh (l:=l) (n:=(i:Int)) ax ax)
  simp[-aK,-List.map_replicate,hi,nV];refine⟨hc,J,ax,ax,a8 (i+1,st.set (aj (ix l (i:Int)).1) i) aA oJ ⟨aR,by simp[J],λj hj=>?_⟩ aR⟩
  dsimp only at hj ⊢;have Od:=h.c _ (bh (l:=l) (n:=(j:Int)) ax ax)
  rw[B8 (show 0<=yi l j from Od.1) (by rw[J];exact Od.2)]
  by_cases e:j=i
  .subst e;rw[aD (by unfold yi;omega)]
  .rw[aC,P j ax]
   intro R;have Oe:j<ah l:=ax
   have h1:(l.map λc=>c.1)[j]'(by simpa using Oe)=(l.map λc=>c.1)[i]' ox:=by
    rw[gq,gq,<-bt Oe,<-bt hi];unfold yi at R;omega
   exact e ((List.getElem_inj h.nd).1 h1)
 .have ei:i=ah l:=by omega
  subst ei;obtain⟨rv,τ,hF,We,hA⟩:=dt (Wb D.n h.vo.ok (ah l) vF h.kc);have G9:=Wc (D:=D) (cls:=cls) (st:=st) (l:=l);rw[G9.cv ax]at We
  subst We;have Wf : L zk [.agg [.int D.n.ay,.int D.n.aG,.int D.n.aM,.int D.n.aL,.int D.n.aF,.aX ae (D.n.az.map .bool),.aX ae (D.n.call.map iL),.aX ae (D.n.push.map iL),.aX ae (D.n.aH.map iL),.aX ae (D.n.aP.map bU)],.int (ah l)] []=aa (.agg [.int D.n.ay,.int D.n.aG,.int D.n.aM,.int ((D.n.aZ (ah l):Nat):Int),.int 0,.sl 1 (ah l) 0 (ah l),.sl (6+D.n.aZ (ah l)) (ah l) 0 (ah l),.sl (7+D.n.aZ (ah l)) (ah l) 0 (ah l),.sl (9+D.n.aZ (ah l)) (ah l) 0 (ah l),.sl (10+D.n.aZ (ah l)) (ah l) 0 (ah l)],τ):=hF;have Mu:=hA.shift [⟨aa 10,[.int 0,.int 0,.int 0,.int 0,.int 0,.aJ,.aJ,.aJ,.aJ,.aJ],.live⟩,Zb st];obtain⟨a,u⟩:∃s,([⟨aa 10,[.int 0,.int 0,.int 0,.int 0,.int 0,.aJ,.aJ,.aJ,.aJ,.aJ],.live⟩,Zb st]:aq)++τ.map (gl 2)=s:=⟨_,rfl⟩;have e1:∀Y:aq,(⟨aa 10,[.int 0,.int 0,.int 0,.int 0,.int 0,.aJ,.aJ,.aJ,.aJ,.aJ],.live⟩:aO)::⟨ab,st.map .int,.live⟩::(τ.map (gl 2)++Y)=a++Y:=λY=>by rw[<-u];rfl
  have R:ah τ+1+1=ah a:=by rw[<-u];simp
  have H:AS (D.n.eN (ah l) (ah l)) (λt=>fp (D.n.aZ (ah l)) t+2) a:=by rw[<-u];exact Mu
  have eb:∀Y:aO,aQ (a ++ [Y]) (ah a)=aa Y:=λY=>gZ;have es:∀Y Z:aO,aV (a ++ [Y]) (ah a) Z=a ++ [Z]:=λY Z=>vj;have G:aQ a 1=aa (Zb st):=by rw[<-u];rfl
  have aom:aQ a 0=aa ⟨aa 10,[.int 0,.int 0,.int 0,.int 0,.int 0,.aJ,.aJ,.aJ,.aJ,.aJ],.live⟩:=by rw[<-u];rfl
  simp[-aK,-List.map_replicate,Wf, iz,lR,e1,R,eb,es];have e3:∀Y Z:aO,(⟨aa 10,[.int 0,.int 0,.int 0,.int 0,.int 0,.aJ,.aJ,.aJ,.aJ,.aJ],.live⟩:aO)::⟨ab,st.map .int,.live⟩::aV (τ.map (gl 2) ++ [Y]) (ah τ) Z=a ++ [Z]:=λY Z=>by
   rw[show aV (τ.map (gl 2) ++ [Y]) (ah τ) Z=τ.map (gl 2) ++ [Z]from by have:=vj (Q:=τ.map (gl 2)) (B:=Y) (C:=Z);rwa [db]at this,e1]
  simp only[e3];clear es eb e1 R e3 Wf hF;have pac:=H.lt (t:=.ac) rfl;have prw:∀s,s<ah l->fp (D.n.aZ (ah l)) (.rw .bp s)+2<ah a:=λs P=>H.lt (t:=.rw .bp s) (aD (by rw[oX];exact P))
  have ppg:∀s g,s<ah l->g<D.n.aZ (ah l)->fp (D.n.aZ (ah l)) (.pg s g)+2<ah a:=λs g P hg=>H.lt (t:=.pg s g) (aD ⟨by rw[oY];exact P,by rw[(l7 P).2.2.2];simpa using hg⟩)
  refine bB (λq:Nat×aS×aq=>[(9,.int q.1)]) (λq=>q.2.2) (λq=>q.1<=ah l/\oh D cls l st q.1 q.1 0 0 0 q.2.1/\sA D l st (ah a) q.2.1 q.2.2) (λq=>ah l-q.1) (0,D.n.eN (ah l) (ah l),a ++ [⟨aa 10,[.int D.n.ay,.int D.n.aG,.int D.n.aM,.int ((D.n.aZ (ah l):Nat):Int),.int 0,.sl 3 (ah l) 0 (ah l),.sl (6+D.n.aZ (ah l)+2) (ah l) 0 (ah l),.sl (7+D.n.aZ (ah l)+2) (ah l) 0 (ah l),.sl (9+D.n.aZ (ah l)+2) (ah l) 0 (ah l),.sl (10+D.n.aZ (ah l)+2) (ah l) 0 (ah l)],.live⟩]) bS ⟨aA,G9,H.other λt B hB=>fD (H.lt hB),gZ,iu G,iu aom⟩ ?_
  rintro⟨s,A,σ⟩ ⟨s0,hT,hM⟩;dsimp only at s0 hT hM ⊢;have Dt:=hM.b;have MA:=hM.z
  by_cases d:s<ah l
  .have hv:=h.v _ (bh (l:=l) (n:=(s:Int)) ax ax)
   have Of:=hM.m.has .ac _ rfl;have hK:=h.vo.st _ (bh (l:=D.K) hv.1 hv.2);have vU:=h.s0;have M:=h.s1;unfold Vd.jP at M;have hn:=h.vo.ok;have hK1:=hK.1 _ (bh (l:=ix D.K (ix l (s:Int)).2.1) M.1 (by rw[hK.2];exact M.2))
   rw[show fp (D.n.aZ (ah l)) .ac+2=3 from rfl]at Of pac;have Wg:=hT.la;simp[-aK,-List.map_replicate,d,nV,Dt,Of,hv,hK,vU,M,hK1,hn.aF,Wg];have jl:=h.vn.inl (aj (ix l (s:Int)).2.1) ax
   rw[show((aj (ix l (s:Int)).2.1:Nat):Int)=(ix l (s:Int)).2.1 by omega]at jl
   have Dj:=h.vn.f.i;have hfb:=h.vn.f.b;have GH:=h.vn.n;have pD:=h.vn.c;have Vx:=h.vn.r;refine⟨ax,?_⟩
   have hT1:=hT.oT d;have hM1:=hM.acc pac (w:=A.az.set s (D.ac D.jP (zJ l s)));rw[List.map_set]at hM1;have S:∀y,0<=y->y<(ah D.K:Int)->0<=ix cls y/\ix cls y<(ah st:Int):=λy y0 y1=>by
    have:=h.cr _ (bh (l:=cls) y0 (by rw[h.cl];exact y1))
    rw[J];exact this
   refine bB (λq:Nat×aS×aq=>[(15,.int q.1)]) (λq=>q.2.2) (λq=>q.1<=aj D.n.aG/\oh D cls l st (s+1) s q.1 0 0 q.2.1/\sA D l st (ah a) q.2.1 q.2.2) (λq=>aj D.n.aG-q.1) (0,_,_) (by simp[fj];rfl) ⟨aA,hT1,hM1⟩ ?_
   rintro⟨j,A2,N8⟩ ⟨j0,x,F⟩;dsimp only at j0 x F ⊢;have aon:=F.b;have R:ix (af (ah l)) (s:Int)=s:=by rw[bt (by simpa using d)];simp
   have e3:ix (af (ah l)) (0+(s:Int)*1)=s:=by rw[<-R];congr 1;omega
   by_cases hj:j<aj D.n.aG
   .have U:=bz (show(j:Int)<((ah (ix D.IN (ix l (s:Int)).2.1):Nat):Int)by omega)
    have V:=jl.2 _ (bh (l:=ix D.IN (ix l (s:Int)).2.1) (n:=(j:Int)) ax ax)
    have I:=S _ V.1 V.2;have MB:=F.ls x ax
    have xZ:=F.m.has (.rw .bp s) _ (aD (by rw[show(ah (A2.tb .bp))=ah l from x.li];exact d))
    have qT:=x.rY s d;have W:=F.s;have X:=h.cl;simp[-aK,-List.map_replicate,U,aon,MB,d,R,e3,xZ,lE,W];refine⟨by rw[X];exact V,⟨I.1,by rw[<-J];exact I.2⟩,J,ax,ax,qT,ax,ax,a8 (j+1,{A2 with aH:=A2.aH.set s ((A2.dc .bp s).set j (FN D cls l st s j))},aV N8 (fp (D.n.aZ (ah l)) (.rw .bp s)+2) (Zb ((A2.dc .bp s).set j (FN D cls l st s j)))) aA ?_ ⟨aR,x.oU d hj,F.bp (by rw[x.li];exact d) (prw s d) aA⟩ aR⟩
    dsimp only;rw[Zb,List.map_set];rfl
   .have U:=eG (show ¬(j:Int)<((ah (ix D.IN (ix l (s:Int)).2.1):Nat):Int)by omega)
    have ej:j=aj D.n.aG:=ax
    rw[ej]at x;simp[-aK,-List.map_replicate,U];refine bB (λq:Nat×aS×aq=>[(20,.int q.1)]) (λq=>q.2.2) (λq=>q.1<=ah l/\oh D cls l st (s+1) s (aj D.n.aG) (q.1*aj D.n.ay) 0 q.2.1/\sA D l st (ah a) q.2.1 q.2.2) (λq=>ah l-q.1) (0,A2,N8) bS ⟨aA,by simpa using x,F⟩ ?_
    rintro⟨p,A3,ZM⟩ ⟨p0,N,Wh⟩;dsimp only at p0 N Wh ⊢
    by_cases hp:p<ah l
    .have hvp:=h.v _ (bh (l:=l) (n:=(p:Int)) ax ax)
     simp[-aK,-List.map_replicate,hp,nV];refine bB (λq:Nat×aS×aq=>[(23,.int q.1)]) (λq=>q.2.2) (λq=>q.1<=aj D.n.ay/\oh D cls l st (s+1) s (aj D.n.aG) (p*aj D.n.ay+q.1) 0 q.2.1/\sA D l st (ah a) q.2.1 q.2.2) (λq=>aj D.n.ay-q.1) (0,A3,ZM) bS ⟨aA,N,Wh⟩ ?_
     rintro⟨c,A4,N9⟩ ⟨c0,O,hM4⟩;dsimp only at c0 O hM4 ⊢
     by_cases hc:c<aj D.n.ay
     .have Ha:=bz (show(c:Int)<D.n.ay by omega)
      have Dp:=h.vn.tF (aj (ix l (p:Int)).2.1) c (aj (ix l (s:Int)).2.1) ax hc ax
      unfold Vd.cv Vd.row at Dp;rw[show((aj (ix l (p:Int)).2.1:Nat):Int)=(ix l (p:Int)).2.1 by omega,show((aj (ix l (s:Int)).2.1:Nat):Int)=(ix l (s:Int)).2.1 by omega]at Dp
      have GC:=h.vn.rl (aj (ix l (p:Int)).2.1) ax
      unfold Vd.row at GC;have NX:=h.vn.f.c (aj (ix l (p:Int)).2.1) c ax hc
      unfold Vd.cv Vd.row at NX;rw[show((aj (ix l (p:Int)).2.1:Nat):Int)=(ix l (p:Int)).2.1 by omega]at GC NX
      have x1:=bz (show(ix l (p:Int)).2.1<(ah D.BL:Int)by omega)
      have x2:=bz (show(c:Int)<(ah (ix D.BL (ix l (p:Int)).2.1):Int)by omega)
      have x3:=bz (show(ix l (s:Int)).2.1<(ah (ix (ix D.BL (ix l (p:Int)).2.1) (c:Int)):Int)by omega)
      have y1:=bz hvp.1;have y2:=bz hv.1;simp[-aK,-List.map_replicate,Ha,x1,x2,x3,y1,y2];refine bB (λq:Nat×aS×aq=>[(27,.int q.1)]) (λq=>q.2.2) (λq=>q.1<=aj D.n.aM/\oh D cls l st (s+1) s (aj D.n.aG) (p*aj D.n.ay+c) q.1 q.2.1/\sA D l st (ah a) q.2.1 q.2.2) (λq=>aj D.n.aM-q.1) (0,A4,N9) bS ⟨aA,O,hM4⟩ ?_
      rintro⟨r,A5,σ5⟩ ⟨r0,o,E⟩;dsimp only at r0 o E ⊢
      by_cases hr:r<aj D.n.aM
      .have Hb:=bz (show(r:Int)<((ah (ix (ix (ix D.BL (ix l (p:Int)).2.1) (c:Int)) (ix l (s:Int)).2.1):Nat):Int)by omega)
       have V:=Dp.2 _ (bh (l:=ix (ix (ix D.BL (ix l (p:Int)).2.1) (c:Int)) (ix l (s:Int)).2.1) (n:=(r:Int)) ax ax)
       have I:=S _ V.1 V.2;have aoo:=E.b;have G5:=E.po o ax
       have FO:=E.pr o d;have W:=E.s;have X:=h.cl;have hG:p*aj D.n.ay+c<D.n.aZ (ah l):=by
        have h1:p*aj D.n.ay+aj D.n.ay<=ah l*aj D.n.ay:=sZ
        show _<max 1 (ah l*aj D.n.ay);omega
       have hGi:(p:Int)*D.n.ay+(c:Int)=((p*aj D.n.ay+c:Nat):Int):=s3
       have zD:D.n.aZ (ah l)<=128:=by have:=h.kc;show max 1 (ah l*aj D.n.ay)<=128;omega
       have ZX:=E.m.has (.pg s (p*aj D.n.ay+c)) _ (aD ⟨by rw[o.lp];exact d,by rw[o.oZ s d];exact hG⟩)
       have xh:=o.rZ s _ d hG;have LV:0<=(p:Int)*D.n.ay/\(p:Int)*D.n.ay<=128:=by
        have:(p:Int)*D.n.ay=((p*aj D.n.ay:Nat):Int):=qt
        omega
       have ZY:xg D cls l st s (p*aj D.n.ay+c) r=ix st (ix cls (ix (ix (ix (ix D.BL (ix l (p:Int)).2.1) (c:Int)) (ix l (s:Int)).2.1) (r:Int))):=by
        unfold xg;rw[aC ax,show(p*aj D.n.ay+c)/aj D.n.ay=p from by rw[mY,Nat.mul_add_div ax,Nat.div_eq_of_lt hc,Nat.add_zero],show(p*aj D.n.ay+c)%aj D.n.ay=c from by rw[mY,Nat.mul_add_mod,Nat.mod_eq_of_lt hc]]
        rfl
       have hTn:=o.oV d hG hr;have hMn:=E.aP (w:=(A5.df s (p*aj D.n.ay+c)).set r (xg D cls l st s (p*aj D.n.ay+c) r)) (by rw[o.lp];exact d) (by rw[o.oZ s d];exact hG) (ppg s _ d hG) aA
       have f2:ix (af (D.n.aZ (ah l))) ((p*aj D.n.ay+c:Nat):Int)=p*aj D.n.ay+c:=by rw[bt (by simpa using hG)];simp
       generalize p*aj D.n.ay+c=g at *;have f3:ix (af (D.n.aZ (ah l))) (0+(g:Int)*1)=g:=by rw[<-f2];congr 1;rw[f2];omega
       simp[-aK,-List.map_replicate,Hb,aoo,G5,d,R,e3,FO,hGi,f2,f3,hG,ZX,W];refine⟨ax,ax,by rw[X];exact V,⟨I.1,by rw[<-J];exact I.2⟩,J,ax,ax,xh,ax,ax,a8 (r+1,_,_) aA ?_ ⟨aR,hTn,hMn⟩ aR⟩
       dsimp only;rw[Zb,List.map_set,ZY]
      .have Hb:=eG (show ¬(r:Int)<((ah (ix (ix (ix D.BL (ix l (p:Int)).2.1) (c:Int)) (ix l (s:Int)).2.1):Nat):Int)by omega)
       have er:r=aj D.n.aM:=ax
       rw[er]at o;simp[-aK,-List.map_replicate,Hb];exact⟨ax,a8 (c+1,A5,σ5) aA rfl ⟨aR,o.CF,E⟩ aR⟩
     .have Ha:=eG (show ¬(c:Int)<D.n.ay by omega)
      have ec:c=aj D.n.ay:=ax
      have epc:p*aj D.n.ay+c=(p+1)*aj D.n.ay:=by rw[ec,fG,Nat.one_mul]
      rw[epc]at O;simp[-aK,-List.map_replicate,Ha];exact⟨ax,a8 (p+1,A4,N9) aA rfl ⟨aR,O,hM4⟩ aR⟩
    .have ep:p=ah l:=by omega
     rw[ep]at N;simp[-aK,-List.map_replicate,hp];exact⟨ax,a8 (s+1,A3,ZM) aA rfl ⟨aR,N.CG,Wh⟩ aR⟩
  .have es:s=ah l:=by omega
   subst es;have G:∀B:aO,aQ (aV σ 0 B) 0=aa B:=λB=>cQ (by have:=cX MA;omega)
   have A1:=λ(ce:CE) (c0 c1 c2 c3 c4 c5 c6 c7 c8 c9:AV)=>pP (ce:=ce) (σ:=aV σ 0 ⟨aa 10,[c0,c1,c2,c3,c4,c5,c6,c7,c8,c9],.live⟩) (n:=0) (G _);have GV:=λB:aO=>(hM.m.other (τ:=aV σ 0 B) λt C hC=>bu ax).view
   rw[hT.fin]at GV;have T:=hT.cv ax (λt=>fp (D.n.aZ (ah l)) t+2)
   rw[hT.fin]at T;rw[T]at GV;simp[-aK,-Bo,Dt,MA,G,A1];exact⟨st,GV _,J,P⟩
def aop (D:Vd) (cls:ak) (l:List jz) (h:ZV D cls l):∃st:ak,PC EF [D.vcs.av,iL cls,Oc l]=aa (vk D cls l st).av/\ah st=ah l/\∀i:Nat,i<ah l->ix st (yi l i)=i:=Cr (g:=λst:ak=>(vk D cls l st).av) (R:=λst=>ah st=ah l/\∀i:Nat,i<ah l->ix st (yi l i)=i) (aol D cls l h)
def FP:AV->Bool
 |.sl ..=>ae
 |.ptr ..=>ae
 |.agg _=>ae
 |.bY _=>ae
 |.func ..=>ae
 |.iface ..=>ae
 |_=>ad
variable{f:Nat}
def MC{x:AV}(h:FP x=ad){acc:List Nat}:reach σ f x acc=acc:=by
 cases f with
 |zero=>rfl
 |succ f=>cases x<;>first|rfl|(simp[FP]at h)
def MD{σ:aq}{f:Nat}:∀(l:ao) (acc:List Nat),(∀x∈l,FP x=ad)->l.foldl (λacc y=>reach σ f y acc) acc=acc
 | [],_,_=>rfl
 |x::l,acc,h=>by
  rw[my,MC (h x aA)]
  exact MD l acc λy a=>h y gf
variable{u:Nat}
def Wj{n:Nat}(a:aQ σ b=aa B){acc:List Nat}(d:b∉acc):reach σ (f+1) (.sl b u o n) acc=B.cells.foldl (λacc y=>reach σ f y acc) (b::acc):=by
 simp only[reach,a];rw[aC (by simpa using d)]
def Wk(a:aQ σ b=aa B){acc:List Nat}(d:b∉acc):reach σ (f+1) (.ptr b u o) acc=B.cells.foldl (λacc y=>reach σ f y acc) (b::acc):=by
 simp only[reach,a];rw[aC (by simpa using d)]
def FQ{n:Nat}(a:aQ σ b=aa B) (h:∀x∈B.cells,FP x=ad){acc:List Nat}:reach σ (f+1) (.sl b u o n) acc=if acc.contains b then acc else b::acc:=by
 simp only[reach,a];rw[MD _ _ h]
def ME{acc:List Nat}:b∈(if acc.contains b then acc else b::acc)/\∀x,(x∈acc->x∈(if acc.contains b then acc else b::acc))/\(x∈(if acc.contains b then acc else b::acc)->x∈acc\/x=b):=by
 by_cases h:acc.contains b=ad
 .rw[aD h]
  exact⟨du,λx=>⟨id,.inl⟩⟩
 .rw[aC h]
  exact⟨aA,λx=>⟨λa=>gf,λa=>by rcases cC.1 a with a|a;exact .inr a;exact .inl a⟩⟩
def MF{b e:Type}{g:Nat->e}{f:b->e->b}{I:Nat->b->Prop}:∀(n:Nat) (a:b),I 0 a->(∀k a,k<n->I k a->I (k+1) (f a (g k)))->I n (((af n).map g).foldl f a)
 |0,a,d,_=>d
 |n+1,a,d,h=>by
  rw[kL,kk,List.foldl_append];exact h n _ ax (MF n a d λk a i=>h k a ax)
def Tg.seen:Tg->Bool
 |.mp=>ae
 |.old _=>ae
 |_=>ad
def Wl{n:Nat}(i:n ≠ 0->aQ σ b=aa B) (h:∀x∈B.cells,FP x=ad){acc:List Nat}:(n ≠ 0->b∈reach σ (f+1) (dh b n) acc)/\∀x,(x∈acc->x∈reach σ (f+1) (dh b n) acc)/\(x∈reach σ (f+1) (dh b n) acc->x∈acc\/n ≠ 0/\x=b):=by
 by_cases d:n=0
 .subst d
  exact⟨λh=>absurd rfl h,λx=>⟨id,.inl⟩⟩
 .rw[show dh b n = .sl b n 0 n from aC d,FQ (i d) h]
  obtain⟨j,g⟩:=ME (b:=b) (acc:=acc);exact⟨λ_=>j,λx=>⟨(g x).1,λa=>((g x).2 a).imp id λe=>⟨d,e⟩⟩⟩
variable{O:Nat->Option aO}
def aoq{p:Tg->Nat}(h:VS D O p σ){n:Nat}(q:x<ah D.BL){acc:List Nat}(m:p (.rw x)∉acc) :
  (p (.rw x)∈reach σ (f+2) (.sl (p (.rw x)) u o n) acc/\∀c,c<ah (D.row x)->D.cv x c ≠ []->p (.cl x c)∈reach σ (f+2) (.sl (p (.rw x)) u o n) acc)/\∀b,(b∈acc->b∈reach σ (f+2) (.sl (p (.rw x)) u o n) acc)/\(b∈reach σ (f+2) (.sl (p (.rw x)) u o n) acc->b∈acc\/b=p (.rw x)\/∃c B,D.cont O p (.cl x c)=aa B/\b=p (.cl x c)):=by
 have d:=h.has (.rw x) _ (aD q);have e:reach σ (f+2) (.sl (p (.rw x)) u o n) acc=((af (ah (D.row x))).map λc=>dh (p (.cl x c)) (ah (D.cv x c))).foldl (λacc y=>reach σ (f+1) y acc) (p (.rw x)::acc):=by
  show reach σ ((f+1)+1) _ _=_;simp only[reach,d];rw[aC (by simpa using m)]
  rfl
 rw[e];have key:=MF (g:=λc=>dh (p (.cl x c)) (ah (D.cv x c))) (f:=λacc y=>reach σ (f+1) y acc) (I:=λk a=>(∀c,c<k->D.cv x c ≠ []->p (.cl x c)∈a)/\∀b,(b∈p (.rw x)::acc->b∈a)/\(b∈a->b∈p (.rw x)::acc\/∃c B,D.cont O p (.cl x c)=aa B/\b=p (.cl x c))) (ah (D.row x)) (p (.rw x)::acc) ⟨λc z=>ax,λb=>⟨id,.inl⟩⟩ λk a w ⟨i1,j⟩=>by
  have r:ah (D.cv x k) ≠ 0->aQ σ (p (.cl x k))=aa ⟨ab,(D.cv x k).map wI,.live⟩:=λi=>h.has (.cl x k) _ (aD ⟨q,w,λe=>i fW⟩)
  obtain⟨A,s⟩:=Wl (σ:=σ) (f:=f) r (λy C=>by obtain⟨l,_,rfl⟩:=cJ.1 C;rfl) (acc:=a)
  refine⟨λc z i=>?_,λb=>⟨λd=>(s b).1 ((j b).1 d),λd=>?_⟩⟩
  .by_cases ec:c=k
   .subst ec;exact A λe=>i (eK e)
   .exact(s _).1 (i1 c ax i)
  .rcases(s b).2 d with d|⟨i,rfl⟩
   .exact(j b).2 d
   .exact .inr ⟨k,_,aD ⟨q,w,λe=>i fW⟩,rfl⟩
 generalize ((af (ah (D.row x))).map λc=>dh (p (.cl x c)) (ah (D.cv x c))).foldl (λacc y=>reach σ (f+1) y acc) (p (.rw x)::acc)=a at *;obtain⟨i1,j⟩:=key;refine⟨⟨(j _).1 aA,i1⟩,λb=>⟨λd=>(j b).1 iU,λd=>?_⟩⟩
 rcases(j b).2 d with d|d
 .rcases cC.1 d with d|d
  .exact .inr (.inl d)
  .exact .inl d
 .exact .inr (.inr d)
def aor{p:Tg->Nat}(h:VS D O p σ):(∀t B,t.seen=ad->D.cont O p t=aa B->p t∈reach σ vd (.ptr (p .v) 16 0) [])/\∀b,b∈reach σ vd (.ptr (p .v) 16 0) []->∃t B,t.seen=ad/\D.cont O p t=aa B/\b=p t:=by
 have hv:=h.has .v _ rfl;have R:=h.has .pl _ rfl;have S:=h.has .ls _ rfl;have e0:reach σ vd (.ptr (p .v) 16 0) []=(D.box p).cells.foldl (λacc y=>reach σ 11 y acc) [p .v]:=by
  exact Wk (f:=11) hv aA
 have e1:(D.box p).cells.foldl (λacc y=>reach σ 11 y acc) [p .v]=reach σ 11 (dh (p .bl) (ah D.BL)) (reach σ 11 (dh (p .bp) (ah D.IN)) (reach σ 11 (.sl (p .ls) (ah D.K) 0 (ah D.K)) (reach σ 11 (.sl (p .pl) (ah D.plc) 0 (ah D.plc)) [p .v]))):=rfl;rw[e0,e1,FQ (f:=10) R (λy H=>by obtain⟨l,_,rfl⟩:=cJ.1 H;rfl),FQ (f:=10) S (λy H=>by obtain⟨l,_,rfl⟩:=cJ.1 H;rfl)]
 obtain⟨a1,X⟩:=ME (b:=p .pl) (acc:=[p .v]);generalize (if[p .v].contains (p .pl)then[p .v]else p .pl :: [p .v])=N at *
 obtain⟨b1,T⟩:=ME (b:=p .ls) (acc:=N);generalize (if N.contains (p .ls)then N else p .ls::N)=Y at *
 have U:ah D.IN ≠ 0->aQ σ (p .bp)=aa ⟨ab,D.IN.map wI,.live⟩:=λj=>h.has .bp _ (aC λe=>j fW)
 obtain⟨Z,P⟩:=Wl (σ:=σ) (f:=10) U (λy H=>by obtain⟨l,_,rfl⟩:=cJ.1 H;rfl) (acc:=Y)
 generalize reach σ 11 (dh (p .bp) (ah D.IN)) Y=w at *;have F:∀b,b∈w->b=p .v\/b=p .pl\/b=p .ls\/(ah D.IN ≠ 0/\b=p .bp):=λb d=>by
  rcases(P b).2 d with d|d
  .rcases(T b).2 d with d|d
   .rcases(X b).2 d with d|d
    .simp at d;exact .inl d
    .exact .inr (.inl d)
   .exact .inr (.inr (.inl d))
  .exact .inr (.inr (.inr d))
 have v3:p .v∈w:=(P _).1 ((T _).1 ((X _).1 aA))
 have J:p .pl∈w:=(P _).1 ((T _).1 a1);have L:p .ls∈w:=(P _).1 b1;have z:ah D.IN ≠ 0->∃B,D.cont O p .bp=aa B:=λj=>⟨_,aC λe=>j fW⟩
 by_cases A:ah D.BL=0
 .rw[show dh (p .bl) (ah D.BL) = .aJ by rw[A];rfl,show reach σ 11 .aJ w=w from rfl]
  have C : D.BL=[]:=eK A;refine⟨λt B M m=>?_,λb d=>?_⟩
  .cases t with
   |v=>exact v3
   |pl=>exact J
   |ls=>exact L
   |bp=>exact Z λe=>by simp[Vd.cont,eK e]at m
   |mp=>simp[Tg.seen]at M
   |old i=>simp[Tg.seen]at M
   |bl=>simp[Vd.cont,C]at m
   |rw x=>simp[Vd.cont,C]at m
   |cl x c=>simp[Vd.cont,C]at m
  .rcases F b d with rfl|rfl|rfl|⟨j,rfl⟩
   .exact⟨.v,_,rfl,rfl,rfl⟩
   .exact⟨.pl,_,rfl,rfl,rfl⟩
   .exact⟨.ls,_,rfl,rfl,rfl⟩
   .obtain⟨B,A⟩:=z j
    exact⟨.bp,B,rfl,A,rfl⟩
 .have C : D.BL ≠ []:=λe=>A fW
  have r:D.cont O p .bl=aa (D.vJ p):=aC C;have V:=h.has .bl _ r;have lH:p .bl∉w:=λd=>by
   rcases F _ d with e|e|e|⟨j,e⟩
   .exact h.ne r (u:=.v) rfl aA e
   .exact h.ne r (u:=.pl) rfl aA e
   .exact h.ne r (u:=.ls) rfl aA e
   .obtain⟨B,A⟩:=z j
    exact h.ne r A aA e
  have e2:reach σ 11 (dh (p .bl) (ah D.BL)) w=((af (ah D.BL)).map λx=>AV.sl (p (.rw x)) (ah (D.row x)) 0 (ah (D.row x))).foldl (λacc y=>reach σ 10 y acc) (p .bl::w):=by
   rw[show dh (p .bl) (ah D.BL) = .sl (p .bl) (ah D.BL) 0 (ah D.BL) from aC A];exact Wj (f:=10) V lH
  rw[e2];have key:=MF (g:=λx=>AV.sl (p (.rw x)) (ah (D.row x)) 0 (ah (D.row x))) (f:=λacc y=>reach σ 10 y acc) (I:=λk a=>(∀x,x<k->p (.rw x)∈a/\∀c,c<ah (D.row x)->D.cv x c ≠ []->p (.cl x c)∈a)/\∀b,(b∈p .bl::w->b∈a)/\(b∈a->b∈p .bl::w\/∃x,x<k/\(b=p (.rw x)\/∃c B,D.cont O p (.cl x c)=aa B/\b=p (.cl x c)))) (ah D.BL) (p .bl::w) ⟨λx E=>ax,λb=>⟨id,.inl⟩⟩ λk a hk ⟨i1,G⟩=>by
   have s:D.cont O p (.rw k)=aa (D.lE p k):=aD hk;have nk:p (.rw k)∉a:=λd=>by
    rcases(G _).2 d with d|⟨x,E,e|⟨c,B,m,e⟩⟩
    .rcases cC.1 d with e|d
     .exact h.ne s r aA e
     .rcases F _ d with e|e|e|⟨j,e⟩
      .exact h.ne s (u:=.v) rfl aA e
      .exact h.ne s (u:=.pl) rfl aA e
      .exact h.ne s (u:=.ls) rfl aA e
      .obtain⟨B,A⟩:=z j
       exact h.ne s A aA e
    .exact h.ne s (u:=.rw x) (aD ax) aT e
    .exact h.ne s m aA e
   obtain⟨⟨r1,r2⟩,Q⟩:=aoq h (f:=8) hk (u:=ah (D.row k)) (o:=0) (n:=ah (D.row k)) nk;refine⟨λx E=>?_,λb=>⟨λd=>(Q b).1 ((G b).1 d),λd=>?_⟩⟩
   .by_cases e:x=k
    .subst e;exact⟨r1,r2⟩
    .obtain⟨q1,q2⟩:=i1 x ax
     exact⟨(Q _).1 q1,λc m j=>(Q _).1 (q2 c m j)⟩
   .rcases(Q b).2 d with d|d
    .rcases(G b).2 d with d|⟨x,E,q⟩
     .exact .inl d
     .exact .inr ⟨x,ax,q⟩
    .exact .inr ⟨k,ax,d⟩
  generalize ((af (ah D.BL)).map λx=>AV.sl (p (.rw x)) (ah (D.row x)) 0 (ah (D.row x))).foldl (λacc y=>reach σ 10 y acc) (p .bl::w)=a at *;obtain⟨i1,G⟩:=key;have up:∀b,b∈w->b∈a:=λb d=>(G b).1 iU
  refine⟨λt B M m=>?_,λb d=>?_⟩
  .cases t with
   |v=>exact up _ v3
   |pl=>exact up _ J
   |ls=>exact up _ L
   |bp=>exact up _ (Z λe=>by simp[Vd.cont,eK e]at m)
   |mp=>simp[Tg.seen]at M
   |old i=>simp[Tg.seen]at M
   |bl=>exact(G _).1 aA
   |rw x=>
    have E:x<ah D.BL:=dP λW=>by simp[Vd.cont,W]at m
    exact(i1 x E).1
   |cl x c=>
    have E:x<ah D.BL/\c<ah (D.row x)/\D.cv x c ≠ []:=dP λW=>by
     have m:(if x<ah D.BL/\c<ah (D.row x)/\D.cv x c ≠ []then aa _ else ab)=aa B:=m
     rw[aC W]at m;simp at m
    exact(i1 x E.1).2 c E.2.1 E.2.2
  .rcases(G b).2 d with d|⟨x,E,rfl|⟨c,B,m,rfl⟩⟩
   .rcases cC.1 d with rfl|d
    .exact⟨.bl,_,rfl,r,rfl⟩
    .rcases F b d with rfl|rfl|rfl|⟨j,rfl⟩
     .exact⟨.v,_,rfl,rfl,rfl⟩
     .exact⟨.pl,_,rfl,rfl,rfl⟩
     .exact⟨.ls,_,rfl,rfl,rfl⟩
     .obtain⟨B,A⟩:=z j
      exact⟨.bp,B,rfl,A,rfl⟩
   .exact⟨.rw x,_,rfl,aD E,rfl⟩
   .exact⟨.cl x c,B,rfl,m,rfl⟩
def VS.Wm{p:Tg->Nat}(h:VS D O p σ) (hb:∀t B,t.seen=ad->D.cont O p t=aa B->aQ τ (p t)=aa B):Ab.view τ ae vd (.ptr (p .v) 16 0)=aa D.vcs.av:=by
 have hv:=hb .v _ rfl rfl;have hu:upto τ (p .v) 16=aa (D.box p):=u9 hv rfl rfl;show Ab.view τ ae (11+1) _=_;unfold Ab.view;simp only[hu];have hp:part (D.box p).cells 0 (D.box p).k=aa (.agg (D.box p).cells):=rfl;rw[aD (by rfl),hp]
 have hm:cu (Ab.view τ ae 10) (D.box p).cells=aa [.int D.n.ay,.int D.n.aG,.int D.n.aM,.int D.n.aL,.int D.n.aF,bL D.n.az,bU D.n.call,bU D.n.push,bU D.n.aH,dw D.n.aP,iL D.n.bQ,iL D.plc,bU D.K,.rF,bU D.IN,pd D.BL]:=by
  unfold Vd.box;refine de rfl (de rfl (de rfl (de rfl (de rfl (de rfl (de rfl (de rfl (de rfl (de rfl (de rfl (de ?_ (de ?_ (de rfl (de ?_ (de ?_ rfl)))))))))))))))
  .exact gY (k:=9) (hb .pl _ rfl rfl) rfl rfl λ_ _=>rfl
  .exact gY (k:=9) (hb .ls _ rfl rfl) rfl rfl λ_ _=>rfl
  .exact rW (k:=9) (λhx=>hb .bp _ rfl (aC hx)) rfl λ_ _=>rfl
  .have e:pd D.BL = .aX ae ((af (ah D.BL)).map λ(x:Nat)=>dw (D.row x)):=by
    unfold Vd.row;rw[rV (f:=dw)]
   rw[e];refine rW (k:=9) (f:=λx=>.sl (p (.rw x)) (ah (D.row x)) 0 (ah (D.row x))) (λhx=>hb .bl _ rfl (aC λe=>hx fW)) aA λx hx=>?_
   have lh :=cE.1 hx;have e:dw (D.row x) = .aX ae ((af (ah (D.row x))).map λ(c:Nat)=>bU (D.cv x c)):=by
    unfold Vd.cv;rw[rV (f:=bU)]
   rw[e];refine gY (k:=8) (f:=λc=>dh (p (.cl x c)) (ah (D.cv x c))) (hb (.rw x) _ rfl (aD lh)) rfl aA λc hc=>?_
   exact rW (k:=7) (λhz=>hb (.cl x c) _ rfl (aD ⟨lh, cE.1 hc,hz⟩)) rfl λ_ _=>rfl
 have ZG:Ab.view τ ae 11 (.agg (D.box p).cells)=aa (.agg [.int D.n.ay,.int D.n.aG,.int D.n.aM,.int D.n.aL,.int D.n.aF,bL D.n.az,bU D.n.call,bU D.n.push,bU D.n.aH,dw D.n.aP,iL D.n.bQ,iL D.plc,bU D.K,.rF,bU D.IN,pd D.BL]):=by
  show Ab.view τ ae (10+1) _=_;unfold Ab.view;simp only[hm]
 simp only[ZG]
variable{vars:ao}{fl:Option (Nat×AV)}
def Wn{p:Tg->Nat}{A:aO}{Q:Ex->St->Prop}(h:VS D O p σ) (i:nth vars k = .ptr (p .v) 16 0) (j:O b=aa A) (l:∀τ,aQ τ b=aa A->Q .fe ⟨eY vars k D.vcs.av,fl,τ⟩):W L (.km k) ⟨vars,fl,σ⟩ Q:=by
 obtain⟨m,n⟩:=aor h;have o:=h.Wm (τ:=bR (λc=>!(reach σ vd (.ptr (p .v) 16 0) []).contains c) 0 σ) λt B a d=>by
  rw[nK,h.has t B d];simp[m t B a d]
 have q:fJ σ (.ptr (p .v) 16 0)=ae:=rfl;have r:aQ (bR (λc=>(reach σ vd (.ptr (p .v) 16 0) []).contains c) 0 σ) b=aa A:=by
  have g:D.cont O p (.old b)=aa A:=j;have:=h.has _ _ g;rw[h.old]at this;rw[nK,this];have:b∉reach σ vd (.ptr (p .v) 16 0) []:=λs=>by
   obtain⟨t,B,a,d,e⟩:=n b s;refine h.ne g d (λu=>?_) (by rw[h.old];exact e)
   rw[<-u]at a;simp[Tg.seen]at a
  simp[this]
 refine⟨0,.fe,_,?_,l _ r⟩;simp only[exec,i,o,q]
 rfl
abbrev T3:=AV×AV×AV
def t3 (t:T3):ao:=[t.1,t.2.1,t.2.2]
def gE (l:List T3):ao:=l.flatMap t3
def mN:∀{l:List T3},ah (gE l)=3*ah l
 | []=>rfl
 |x::l=>by
  have:=mN (l:=l);show(ah (t3 x++gE l))=_;rw[bM,this];show 3+_=_;simp;omega
def aos{l m:List T3}:gE (l++m)=gE l++gE m:=by simp[gE]
def zK{l:List T3}(h:i<ah l):gE l=gE (l.take i)++([l[i].1,l[i].2.1,l[i].2.2]++gE (l.drop (i+1))):=by
 have e:l=l.take i++l[i]::l.drop (i+1):=by
  rw[<-List.drop_eq_getElem_cons h,qw]
 exact(congrArg gE e).trans aos
def FT{l:List T3}(h:i<ah l):ah (gE (l.take i))=i*3:=by rw[mN,pA,ta ax,mY]
def MG{l:List T3}(h:i<ah l){t:T3}:gE (l.set i t)=gE (l.take i)++([t.1,t.2.1,t.2.2]++gE (l.drop (i+1))):=by
 have a : i<ah (l.set i t):=du
 rw[zK a, List.take_set_of_le ax,List.drop_set_of_lt ax]
 simp
def aot{l:List T3}(h:i<ah l):(gE l)[i*3]? = aa l[i].1/\(gE l)[i*3+1]? = aa l[i].2.1/\(gE l)[i*3+2]? = aa l[i].2.2:=by
 have a:=FT h;rw[zK h];refine⟨?_,?_,?_⟩
 .rw[dW ax,a,pG];rfl
 .rw[dW ax,a,Nat.add_sub_cancel_left];rfl
 .rw[dW ax,a,Nat.add_sub_cancel_left];rfl
def aou{l:List T3}(h:i<ah l){t:T3}:mI (gE l) (i*3) [t.1,t.2.1,t.2.2]=gE (l.set i t):=by
 have a:=FT h;rw[<-xU (by rw[mN];simp;omega)]
 unfold putAt;rw[MG h];rw[show(gE l).take (i*3)=gE (l.take i)by rw[zK h,List.take_append_of_le_length ax,gN ax],zK h,List.drop_append,a,kf (l:=gE (l.take i)) aT]
 simp
def aov{l:List T3}(h:i<ah l){x:AV}:mI (gE l) (i*3+1) [x]=gE (l.set i (l[i].1,x,l[i].2.2)):=by
 have a:=FT h;rw[tD,MG h,zK h,qu,aC ax,a,Nat.add_sub_cancel_left]
 rfl
def aow{l:List T3}(h:i<ah l){x:AV}:mI (gE l) (i*3+2) [x]=gE (l.set i (l[i].1,l[i].2.1,x)):=by
 have a:=FT h;rw[tD,MG h,zK h,qu,aC ax,a,Nat.add_sub_cancel_left]
 rfl
def FU:∀{l:List T3},chunk (aa 3) (ah l) (gE l)=l.map λt=>.agg (t3 t)
 | []=>rfl
 |x::xs=>by
  have e:=FU (l:=xs);rw[da,<-e];rfl
def tI (x:jz):List jz->List jz
 | []=>[x]
 |y::r=>if bD x.2.2 y.2.2<=0 then x::y::r else y::tI x r
def dY:List jz->List jz
 | []=>[]
 |x::r=>tI x (dY r)
def MH (x:jz):∀l,(tI x l).Perm (x::l)
 | []=>.refl _
 |y::r=>by
  unfold tI;split
  .exact .refl _
  .exact((MH x r).cons y).trans (.swap x y r)
def r3:∀l,(dY l).Perm l
 | []=>.refl _
 |x::r=>(MH x _).trans ((r3 r).cons x)
def aox (a b:jz):Pt (nV a) (nV b)=decide (bD a.2.2 b.2.2<=0):=by
 show vG bD (iL a.2.2) (iL b.2.2)=_;unfold vG;rw[yJ,yJ]
def Wo (x:jz):∀l:List jz,yL (nV x) (l.map nV)=(tI x l).map nV
 | []=>rfl
 |y::r=>by
  simp only[da,yL,tI,aox]
  by_cases h:bD x.2.2 y.2.2<=0
  .rw[aD du,aD h];rfl
  .rw[aC du,aC h,da,Wo x r]
def Wp:∀l:List jz,lz (l.map nV)=(dY l).map nV
 | []=>rfl
 |x::r=>by simp only[da,lz,dY,Wp r,Wo]
def Wq{x:jz}:∀{l:List jz},l.Pairwise (λa b=>bD a.2.2 b.2.2<0)->(∀y∈l,y.2.2 ≠ x.2.2)->(tI x l).Pairwise λa b=>bD a.2.2 b.2.2<0
 | [],_,_=>by simp[tI]
 |y::r,h,i=>by
  unfold tI;have j:=i y aA
  rw[jV]at h;split
  .rename_i hle
   have g:bD x.2.2 y.2.2<0:=by
    have:bD x.2.2 y.2.2 ≠ 0:=λe=>j (dO.eq _ _ e).symm;omega
   rw[jV,jV];refine⟨λz d=>?_,h.1,h.2⟩;rcases cC.1 d with rfl|d
   .exact g
   .have m:=h.1 z d
    have n:=dO.trans _ _ _ (show bD x.2.2 y.2.2<=0 by omega) (show bD y.2.2 z.2.2<=0 by omega)
    have o:bD x.2.2 z.2.2 ≠ 0:=λe=>by
     have e:=dO.eq _ _ e;rw[<-e]at m;have:=dO.gV y.2.2 x.2.2;omega
    omega
  .rename_i hle
   rw[jV];refine⟨λz d=>?_,Wq h.2 λz d=>i z iU⟩
   rcases cC.1 ((MH x r).mem_iff.1 d)with rfl|d
   .have:=dO.gV y.2.2 z.2.2;omega
   .exact h.1 z d
def MI:∀{l:List jz},(l.map λc=>c.2.2).Nodup->(dY l).Pairwise λa b=>bD a.2.2 b.2.2<0
 | [],_=>by simp[dY]
 |x::r,h=>by
  rw[da,nw]at h;refine Wq (MI h.2) λy d e=>h.1 ?_;rw[cJ];exact⟨y,(r3 r).mem_iff.1 d,e⟩
def qV (c:jz):T3:=(.int c.1,.int c.2.1,iL c.2.2)
def Wr:∀l:List jz,(l.map nV).flatMap AV.cells=gE (l.map qV)
 | []=>rfl
 |x::r=>by
  rw[da,jD,Wr r];rfl
def aoy{p q new:ao}{off:Nat}(a:ah p=off) (b:ah q=ah new):putAt (p++q) off new=p++new:=by
 subst a;unfold putAt;rw[List.take_left' rfl,kf (l:=p++q) aT,List.append_nil]
abbrev rr (l:List T3):aO:=⟨aa 3,gE l,.live⟩
def aoz (p q:jz) (a:(ah p.2.2:Int)<=1000000) (b:(ah q.2.2:Int)<=1000000):PC BK [nV p,nV q]=aa (.int (bD p.2.2 q.2.2)):=by
 refine cB (ajZ rfl ?_);have:=zz p.2.2 q.2.2 ax ax
 simp[nV,this]
def aoA(h:aQ σ b=aa (rr (l.map qV))) (E:k=ah l) (M:ah l<=1000) (F:l ≠ []) (B:∀c∈l,(ah c.2.2:Int)<=1000000) (hd:(l.map λc=>c.2.2).Nodup):L EE [.sl b (3*k) 0 k,.func BK []] σ=aa (.bY [],aV σ b (rr ((dY l).map qV))):=by
 subst E;have H:upto σ b (3*ah l)=aa (rr (l.map qV)):=u9 h (by show(ah (gE (l.map qV)))=_;rw[mN,db]) rfl
 have I:=MI hd;have u:=r3 l;have J:∀(i j:Nat) x y,((dY l).map nV)[i]? = aa x->((dY l).map nV)[j]? = aa y->∃c,j7 (lim Ab.G Q) BK (x::y :: [])=aa (.int c)/\(c<0↔i<j):=by
  intro i j x y o r;rw[gP]at o r;cases d : (dY l)[i]? with
  |none=>rw[d]at o;simp at o
  |some p=>
   cases g : (dY l)[j]? with
   |none=>rw[g]at r;simp at r
   |some q=>
    rw[d]at o;rw[g]at r;simp at o r;subst o r;refine⟨bD p.2.2 q.2.2,?_,?_⟩
    .have:=aoz p q (B p (u.mem_iff.1 (ud d))) (B q (u.mem_iff.1 (ud g)))
     unfold j7;rw[aD (by simp[aY,bC,nV])]
     exact this
    .obtain⟨C,n⟩:=dp.1 d
     obtain⟨D,m⟩:=dp.1 g;have s:=rI.1 I;rcases Nat.lt_trichotomy i j with a|a|a
     .have:=s i j C D a
      rw[n,m]at this;exact⟨λ_=>a,λ_=>this⟩
     .subst a
      rw[n]at m;subst m;have:=dO.refl p.2.2;omega
     .have:=s j i D C a
      rw[n,m]at this;have O:=dO.gV p.2.2 q.2.2;omega
 obtain⟨N,K⟩:=abF pM J;refine ajY (N:=N) ?_;have w:¬ah l=0:=λe=>F (eK e);have z:chunk (aa 3) (ah l) (gE (l.map qV))=l.map nV:=by
  have:=FU (l:=l.map qV);rw[db]at this;rw[this,List.map_map];rfl
 have A:putAt (gE (l.map qV)) 0 (gE ((dY l).map qV))=gE ((dY l).map qV):=by
  have:=aoy (p:=[]) (q:=gE (l.map qV)) (new:=gE ((dY l).map qV)) (off:=0) rfl (by rw[mN,mN,db,db,u.length_eq])
  simpa using this
 simp only[ki,H,mG,z,Wp,Wr,A];rw[aC (by simpa using w),aD]
 simp only[mN,db,bd,fy];refine⟨⟨⟨⟨⟨rfl,rfl⟩,ax⟩,ax⟩,?_⟩,K⟩
 show 3*ah l<=1073741824;omega
def neg (c:jz):Bool:=decide (c.2.1<0)
def aoB (c:jz):PC wP [nV c]=aa (.bool (neg c)):=by
 refine cB (ajX rfl ?_);simp[nV,neg]
def aoC (l:List jz) (n:ah l<=1000):PC KX [Oc l,.func wP []]=aa (.int (idx neg l)):=by
 refine cB (aks rfl ?_);simp[-aK];refine bB (λi:Int=>[(2,.int i)]) (λ_=>[]) (λi=>0<=i/\i<=ah l/\∀j,0<=j->j<i->neg (ix l j)=ae) (λi=>aj (ah l-i)) 0 rfl aT λi ⟨g,o,d⟩=>?_
 by_cases e:i<ah l
 .have m:=aoB (ix l i)
  simp only[nV]at m;simp[-aK,e,g,m,nV];exact⟨λh=>(T2 g e h d).symm,λh=>⟨ax,a8 (i+1) aA rfl ⟨ax,ax,iY h d⟩ ax⟩⟩
 .simp[-aK,e]
  rw[T4 λj a b=>d j a ax]
def aoD (l:List jz) (a:ah l<=1000):LX L KK [Oc l,.func wP []] [] (λr τ=>r = .bool (l.any neg)):=by
 refine ajW rfl ?_;simp[aoC l a];exact T5
def jL (c:jz):T3:=(.int c.1,.int c.2.1,if c.2.1<0 then .aJ else iL c.2.2)
def aoE{n:Nat}(h:aQ σ b=aa (rr (l.map jL))) (j:n=ah l) (d:u=3*n) (m:∀c∈l,c.2.1<0->c.2.2=[]):view σ ae vd (.sl b u 0 n)=aa (Oc l):=by
 subst d j;have d:upto σ b (3*ah l)=aa (rr (l.map jL)):=u9 h (by show(ah (gE (l.map jL)))=_;rw[mN,db]) rfl
 have e:chunk (aa 3) (ah l) (gE (l.map jL))=l.map λc=>.agg (t3 (jL c)):=by
  have:=FU (l:=l.map jL);rw[db]at this;rw[this,List.map_map];rfl
 show view σ ae (11+1) _=_;unfold view;simp only[d,ba,mN,db,mG];rw[aD ax,e,Fe (g:=nV)]
 intro c o;have:=m c o
 by_cases a:c.2.1<0
 .have i:=this a
  obtain⟨x,y,w⟩:=c;dsimp only at a i;subst i;simp[t3,jL,a,nV,cu]
 .obtain⟨x,y,w⟩:=c
  dsimp only at a;simp[t3,jL,a,nV,cu]
def aoF(h:l.any neg=ae):l.map jL=l.map qV:=by
 refine fm λc a=>?_;have:=List.any_eq_false.1 h c a;simp[neg]at this;simp[jL,qV,show ¬c.2.1<0 by omega]
def CH:IC:=(.seq (.seq (.cM TC)
 (.cond 103 (.seq (.cM TD)
 .ret) .skip))
 (.seq (.seq (.cM TE) (.km 6))
 (.seq (.cM TF)
 .ret)))
def aoG{n:Nat}{Q:Ex->St->Prop}(e:aQ σ b=aa (rr (l.map qV))) (q:nth vars k = .sl b (3*n) 0 n) (r:n=ah l) (s:∀τ,(∀c,c ≠ b->aQ τ c=aQ σ c)->Q .fe ⟨eY vars k (.aX ad (l.map nV)),fl,τ⟩):W L (.km k) ⟨vars,fl,σ⟩ Q:=by
 subst r;have i:∀x∈gE (l.map qV),FP x=ad:=λx a=>by
  unfold gE at a;obtain⟨t,w,a⟩:=oF.1 a;obtain⟨c,_,rfl⟩:=cJ.1 w;simp only[t3,qV,cC,List.not_mem_nil,or_false]at a;rcases a with rfl|rfl|rfl<;>rfl
 have y:reach σ vd (.sl b (3*ah l) 0 (ah l)) []=[b]:=by
  have:=FQ (σ:=σ) (f:=11) (u:=3*ah l) (o:=0) (n:=ah l) e i (acc:=[]);rw[show vd=11+1 from rfl,this];rfl
 have j:aQ (bR (λc=>!([b]:List Nat).contains c) 0 σ) b=aa (rr (l.map qV)):=by
  rw[nK,e];simp
 have d:∀τ,aQ τ b=aa (rr (l.map qV))->upto τ b (3*ah l)=aa (rr (l.map qV)):=λτ h=>u9 h (by show(ah (gE (l.map qV)))=_;rw[mN,db]) rfl
 have m:chunk (aa 3) (ah l) (gE (l.map qV))=l.map nV:=by
  have:=FU (l:=l.map qV);rw[db]at this;rw[this,List.map_map];rfl
 have z:view (bR (λc=>!([b]:List Nat).contains c) 0 σ) ae vd (.sl b (3*ah l) 0 (ah l))=aa (Oc l):=by
  have d:=d _ j;generalize bR (λc=>!([b]:List Nat).contains c) 0 σ=τ at *;show view τ ae (11+1) _=_;unfold view;simp only[d,ba,mN,db,mG];rw[aD ax,m,Fe (g:=nV)]
  intro c p
  rfl
 have A:fJ σ (.sl b (3*ah l) 0 (ah l))=ad:=by
  simp only[fJ,d σ e]
 refine⟨0,.fe,_,?_,s (bR (λc=>([b]:List Nat).contains c) 0 σ) λc p=>?_⟩
 .simp only[exec,q,y,z,A];rfl
 .rw[nK]
  cases aQ σ c with
  |none=>rfl
  |some B=>simp[p]
abbrev tJ:ao:=[.int 0,.int 0,.int 0,.int 0,.int 0,.aJ,.aJ,.aJ,.aJ,.aJ]
variable{K:AV->aq->Prop}
def aoH{s u w x:AV}(y:aQ σ 0=aa ⟨aa 10,tJ,.live⟩) (r:aQ σ b=aa (rr (l.map jL))) (g:b ≠ 0) (J:∀c∈l,c.2.1<0->c.2.2=[]) (hl:ah l<=128) (z:l ≠ []) (M:∀c∈l,ah c.2.2<=1024)
  (N:l.any neg=ad->∀τ,K (.bY [.agg tJ,.int 3]) τ)
  (O:l.any neg=ae->(l.map λc=>c.2.2).Nodup/\ZV D cls (dY l)/\∀(st:ak) (τ:aq),ah st=ah l->(∀i:Nat,i<ah l->ix st (yi (dY l) i)=i)->K (.bY [(vk D cls (dY l) st).av,.int 0]) τ) :
  WK L CH [.aW,.aW,.aW,.ptr 0 10 0,D.vcs.av,.aW,.sl b (3*ah l) 0 (ah l),.aW,.aW,.aW,.aW,s,u,w,iL cls,.aW,x,.aW,.aW,.aW] ab σ (iq uV K):=by
 unfold CH;have j:=aoE r rfl rfl J;obtain⟨rc,P,d,rfl⟩:=dt (aoD l ax)
 have m:view σ ae vd (.func wP [])=aa (.func wP []):=rfl;have o:∀(τ:aq) (B:aO),aQ τ 0=aa ⟨aa 10,tJ,.live⟩->aQ (aV τ 0 B) 0=aa B:=λτ B h=>cQ (by have:=cX h;omega)
 have p:=λ(ce:CE) (τ:aq) (h:aQ τ 0=aa ⟨aa 10,tJ,.live⟩) (Q R S T U V W X Y Z:AV)=>pP (ce:=ce) (σ:=aV τ 0 ⟨aa 10,[Q,R,S,T,U,V,W,X,Y,Z],.live⟩) (n:=0) (o τ _ h)
 by_cases e:l.any neg=ad
 .rw[e]at d
  have a:=λce=>p ce σ y;simp[-aK,j,m,d,y,a];exact N e _
 .have e:l.any neg=ae:=by simpa using e
  rw[e]at d;obtain⟨hd,A,hK⟩:=O e;rw[aoF e]at r;have C:=aoA r rfl ax z (λc hc=>by have:=M c hc;omega) hd
  simp[-aK,j,m,d,C];have E:=r3 l;refine aoG (b:=b) (l:=dY l) (cQ (cX r)) rfl E.length_eq.symm λτ F=>?_;have q : aQ τ 0=aa ⟨aa 10,tJ,.live⟩:=by
   rw[F 0 (Ne.symm g),bu g];exact y
  obtain⟨st,G,H,I⟩:=aop D cls (dY l) A;have a:=λce=>p ce τ q;simp[-aK,G,q, a];exact hK st _ (H.trans E.length_eq) λi hi=>I i (by rw[E.length_eq];exact hi)
def Fd.wd (S:Fd) (x:Int):ak:=(ix S.W x).getD []
structure CI (cls:ak) (S:Fd) (k x:Nat) (l:List jz):Prop where
 len:ah l=k
 cl:∀i:Nat,i<k->(ix l (i:Int)).1=i
 no:∀i:Nat,i<k->(ix l (i:Int)).2.1<0->(ix l (i:Int)).2.2=[]/\∀y:Nat,y<x->ix cls (y:Int)=i->ix S.F (y:Int)=ae
 yes:∀i:Nat,i<k->0<=(ix l (i:Int)).2.1->((ix l (i:Int)).2.1<(x:Int)/\ix cls (ix l (i:Int)).2.1=i/\ix S.F (ix l (i:Int)).2.1=ad/\(ix l (i:Int)).2.2=S.wd (ix l (i:Int)).2.1)/\∀y:Nat,y<x->ix cls (y:Int)=i->ix S.F (y:Int)=ad->bD (ix l (i:Int)).2.2 (S.wd y)<=0
def Hc (k:Nat):List jz:=(af k).map λ(i:Nat)=>((i:Int),-1,[])
def Ws:CI cls S k 0 (Hc k):=by
 have e:∀i:Nat,i<k->ix (Hc k) (i:Int)=((i:Int),-1,[]):=λi a=>by
  unfold Hc;rw[bt iQ];simp
 exact⟨by simp[Hc],λi a=>by rw[e i a],λi a _=>by rw[e i a];exact⟨rfl,λy b=>ax⟩,λi a h=>by rw[e i a]at h;simp at h⟩
def CI.skip(h:CI cls S k x l) (hs:ix S.F (x:Int)=ae\/∃i:Nat,i<k/\ix cls (x:Int)=i/\0<=(ix l (i:Int)).2.1/\bD (ix l (i:Int)).2.2 (S.wd x)<=0):CI cls S k (x+1) l:=by
 refine⟨h.len,h.cl,λi hi hn=>?_,λi hi hp=>?_⟩
 .obtain⟨a,b⟩:=h.no i hi hn
  refine⟨a,λy hy hc=>?_⟩
  by_cases e:y=x
  .subst e
   rcases hs with hs|⟨j,hj,Od,hp,_⟩
   .exact hs
   .have:j=i:=by omega
    subst this;omega
  .exact b y ax hc
 .obtain⟨⟨a,a2⟩,b⟩:=h.yes i hi hp
  refine⟨⟨ax,a2⟩,λy hy hc hf=>?_⟩
  by_cases e:y=x
  .subst e
   rcases hs with hs|⟨j,hj,Od,_,hle⟩
   .rw[hs]at hf;simp at hf
   .have:j=i:=by omega
    subst this;exact hle
  .exact b y ax hc hf
def CI.put(h:CI cls S k x l) (hi:i<k) (hc:ix cls (x:Int)=i) (hf:ix S.F (x:Int)=ad) (hs:0<=(ix l (i:Int)).2.1->bD (S.wd x) (ix l (i:Int)).2.2<=0):CI cls S k (x+1) (l.set i ((i:Int),(x:Int),S.wd x)):=by
 have e:∀j:Nat,ix (l.set i ((i:Int),(x:Int),S.wd x)) (j:Int)=if j=i then((i:Int),(x:Int),S.wd x)else ix l (j:Int):=λj=>jZ (by rw[h.len];exact hi) j
 refine⟨by simp[h.len],λj hj=>?_,λj hj hn=>?_,λj hj hp=>?_⟩
 .rw[e];split
  .rename_i q;rw[q]
  .exact h.cl j hj
 .rw[e]at hn ⊢
  by_cases q:j=i
  .rw[if_pos q]at hn;dsimp only at hn;omega
  .rw[aC q]at hn ⊢
   obtain⟨a,b⟩:=h.no j hj hn;refine⟨a,λy hy Og=>?_⟩
   by_cases e2:y=x
   .subst e2;omega
   .exact b y ax Og
 .rw[e]at hp ⊢
  by_cases q:j=i
  .rw[aD q]
   subst q;refine⟨⟨aR,hc,hf,rfl⟩,λy hy Og Wt=>?_⟩
   by_cases e2:y=x
   .subst e2;exact Int.le_of_eq (dO.refl _)
   .by_cases e3:0<=(ix l (j:Int)).2.1
    .exact dO.trans _ _ _ (hs e3) ((h.yes j hj e3).2 y ax Og Wt)
    .have:=(h.no j hj ax).2 y ax Og
     rw[this]at Wt;simp at Wt
  .rw[aC q]at hp ⊢
   obtain⟨⟨a,a2⟩,b⟩:=h.yes j hj hp;refine⟨⟨ax,a2⟩,λy hy Og Wt=>?_⟩
   by_cases e2:y=x
   .subst e2;omega
   .exact b y ax Og Wt
def MJ:IC:=(.seq (.seq (.cM TA)
 (.block 2 (.loop TB))) CH)
def Wu{l:ao}{n:Nat}{x:AV}(h:l[n]? = aa x):lU l n=aa x:=by
 induction l generalizing n with
 |nil=>simp at h
 |cons a l b=>
  cases n with
  |zero=>simpa[lU]using h
  |succ n=>simpa[lU]using b du
def aoI{x7 x8:AV}(sN:ah cls=ah D.K) (Z:∀c∈cls,0<=c/\c<(k:Int)) (hSl:ah S.W=ah D.K) (hSf:ah S.F=ah D.K) (N:∀x:Int,0<=x->x<(ah D.K:Int)->ah (S.wd x)<=1024) (hKl:ah D.K<=512) (hk:k<=128)
  (h0:aQ σ 0=aa ⟨aa 10,tJ,.live⟩) (hb:aQ σ b=aa (rr ((Hc k).map jL))) (O:b ≠ 0)
  (hE:∀l τ x11 x12 x13 x16,CI cls S k (ah D.K) l->aQ τ 0=aa ⟨aa 10,tJ,.live⟩->aQ τ b=aa (rr (l.map jL))->WK L CH [.aW,.aW,.aW,.ptr 0 10 0,D.vcs.av,.aW,.sl b (3*k) 0 k,.aW,.aW,.aW,.aW,x11,x12,x13,iL cls,.aW,x16,.aW,.aW,.aW] ab τ (iq uV K)) :
  WK L MJ [.aW,.aW,.aW,.ptr 0 10 0,D.vcs.av,.aW,.sl b (3*k) 0 k,x7,x8,.aW,bU (S.W.map λo=>o.getD []),.aW,.aW,.aW,iL cls,.aW,bL S.F,.aW,.aW,.aW] ab σ (iq uV K):=by
 unfold MJ;simp[-aK,-List.map_map];refine bB (λq:Nat×List jz×aq=>[(11,.int q.1)]) (λq=>q.2.2) (λq=>q.1<=ah D.K/\CI cls S k q.1 q.2.1/\aQ q.2.2 0=aa ⟨aa 10,tJ,.live⟩/\aQ q.2.2 b=aa (rr (q.2.1.map jL))) (λq=>ah D.K-q.1) (0,Hc k,σ) bS ⟨aA,Ws,h0,hb⟩ ?_
 rintro⟨x,l,τ⟩ ⟨x0,d,m, a⟩;dsimp only at x0 d m a ⊢
 by_cases hx:x<ah D.K
 .have hc:=Z _ (bh (l:=cls) (n:=(x:Int)) ax ax)
  obtain⟨i,A⟩:∃i:Nat,ix cls (x:Int)=i:=⟨aj (ix cls (x:Int)),ax⟩
  rw[A]at hc;have e:i<ah l:=by rw[d.len];omega
  have p:i<ah (l.map jL):=iT
  obtain⟨g0,g1,g2⟩:=aot p;rw[gq,<-bt e]at g0 g1 g2;have V:lU (gE (l.map jL)) (i*3+1)=aa (.int (ix l (i:Int)).2.1):=Wu g1;have xw:=bz (show(x:Int)<(ah S.W:Int)by omega)
  have xf:=bz (show(x:Int)<(ah S.F:Int)by omega)
  have X:=bz (show(x:Int)<(ah cls:Int)by omega)
  have I:=bz (show x<ah S.W by omega)
  have u:=bz (show x<ah S.F by omega)
  have w:=bz (show x<ah cls by omega)
  have g:=bz (show i<k by rw[<-d.len];exact e)
  have j:=bz (show(i:Int)<(k:Int)by rw[<-d.len];omega)
  have y:ah (gE (l.map jL))=3*k:=by rw[mN,db,d.len]
  have Y:ix (S.W.map λo=>o.getD []) (x:Int)=S.wd x:=kv ax ax
  have Mr:=N x ax ax
  have lb:=cX a;have P:gE ((l.map jL).set i ((.int i),(.int x),iL (S.wd x)))=gE ((l.set i ((i:Int),(x:Int),S.wd x)).map jL):=by
   rw[List.map_set]
   congr 2
  have E:mI (gE (l.map jL)) (i*3+1) (AV.int x).cells=gE ((l.map jL).set i ((l.map jL)[i].1,.int x,(l.map jL)[i].2.2)):=aov p;have G:mI (gE ((l.map jL).set i ((l.map jL)[i].1,.int x,(l.map jL)[i].2.2))) (i*3+2) (AV.aX ae ((S.wd x).map .int)).cells=gE ((l.set i ((i:Int),(x:Int),S.wd x)).map jL):=by
   rw[show(AV.aX ae ((S.wd x).map .int)).cells=[iL (S.wd x)]from rfl,aow (by simpa using p),<-P]
   congr 1
   rw[List.set_set,List.getElem_set_self];have:=d.cl i (by rw[<-d.len];exact e)
   rw[bt e]at this;simp only[gq];rw[show(jL l[i]).1 = .int i from by show AV.int l[i].1=_;rw[this]]
  have H:ah (gE ((l.map jL).set i ((l.map jL)[i].1,.int x,(l.map jL)[i].2.2)))=3*k:=by rw[mN,pF,db,d.len]
  generalize (l.map jL).set i ((l.map jL)[i].1,.int x,(l.map jL)[i].2.2)=M at E G H;have C:∀B:aO,aQ (aV τ b B) b=aa B:=λB=>cQ lb;have fin:∀B,aQ (aV (aV τ b B) b (rr ((l.set i ((i:Int),(x:Int),S.wd x)).map jL))) 0=aa ⟨aa 10,tJ,.live⟩/\aQ (aV (aV τ b B) b (rr ((l.set i ((i:Int),(x:Int),S.wd x)).map jL))) b=aa (rr ((l.set i ((i:Int),(x:Int),S.wd x)).map jL)):=λB=>⟨by rw[bu O,bu O];exact m, cQ (by rw[cV];exact lb)⟩
  have r:i<k:=by rw[<-d.len];exact e
  by_cases J:ix S.F (x:Int)=ad
  .by_cases hv:(ix l (i:Int)).2.1<0
   .have z :=bz hv
    simp[-aK,-List.map_map,A,xw,xf,X,I,u,w,a, g,j,y,V,J,z, Y,C,E,G,H];exact⟨ax,ax,ax,a8 (x+1,l.set i ((i:Int),(x:Int),S.wd x),aV (aV τ b ⟨aa 3,gE M,.live⟩) b (rr ((l.set i ((i:Int),(x:Int),S.wd x)).map jL))) aA oJ ⟨aR,d.put r A J (λh=>ax),(fin _).1,(fin _).2⟩ aR⟩
   .have z :=eG hv
    have E2:lU (gE (l.map jL)) (i*3+2)=aa (iL (ix l (i:Int)).2.2):=by
     rw[Wu g2];simp[jL,hv]
    have Q:PC oP [.aX ae ((S.wd x).map .int),.aX ae ((ix l (i:Int)).2.2.map .int)]=aa (.int (bD (S.wd x) (ix l (i:Int)).2.2)):=by
     obtain⟨⟨q1,q2,q3,q4⟩,_⟩:=d.yes i (by rw[<-d.len];exact e) ax
     have R:=N (ix l (i:Int)).2.1 ax ax
     rw[<-q4]at R;exact zz _ _ ax ax
    by_cases T:bD (S.wd x) (ix l (i:Int)).2.2<0
    .have s :=bz T
     simp[-aK,-List.map_map,A,xw,xf,X,I,u,w,a, g,j,y,V,E2,J,z, Y,Q,s, C,E,G,H];exact⟨ax,ax,ax,a8 (x+1,l.set i ((i:Int),(x:Int),S.wd x),aV (aV τ b ⟨aa 3,gE M,.live⟩) b (rr ((l.set i ((i:Int),(x:Int),S.wd x)).map jL))) aA oJ ⟨aR,d.put r A J (λh=>ax),(fin _).1,(fin _).2⟩ aR⟩
    .have s :=eG T
     simp[-aK,-List.map_map,A,xw,xf,X,I,u,w,a, g,j,y,V,E2,J,z, Y,Q,s];refine⟨ax,a8 (x+1,l,τ) aA rfl ⟨aR,d.skip (.inr ⟨i,r,A,ax,?_⟩),m, a⟩ aR⟩
     have:=dO.gV (S.wd x) (ix l (i:Int)).2.2;omega
  .have U : ix S.F (x:Int)=ae:=by simpa using J
   simp[-aK,-List.map_map,A,xw,xf,X,I,u,w,a, g,j,y,V,U, Y];exact⟨ax,a8 (x+1,l,τ) aA rfl ⟨aR,d.skip (.inl U),m, a⟩ aR⟩
 .have ex:x=ah D.K:=by omega
  have xw:=eG (show ¬(x:Int)<(ah S.W:Int)by omega)
  have I:=eG (show ¬x<ah S.W by omega)
  simp[-aK,-List.map_map,xw,I];rw[ex]at d;exact hE l τ _ _ _ _ d m a
def MK:IC:=(.seq (.cM Tv)
 (.seq (.cM Tw)
 (.seq (.seq (.cM Tx)
 (.block 0 (.loop Tz)))
 MJ)))
def vL (k i:Nat):List T3:=(af k).map λ(j:Nat)=>if j<i then(.int j,.int (-1),.aJ)else(.int 0,.int 0,.aJ)
def ML:ah (vL k i)=k:=by simp[vL]
def aoJ(a:i<k):(vL k i).set i (.int i,.int (-1),.aJ)=vL k (i+1):=by
 refine gF (by simp[vL]) λj b d=>?_
 simp only[vL,jm,gq,jn]
 by_cases e:i=j
 .subst e;rw[aD rfl,aD ax]
 .rw[aC e]
  by_cases h:j<i
  .rw[aD h,aD ax]
  .rw[aC h,aC ax]
def Wv:vL k k=(Hc k).map jL:=by
 unfold vL Hc;rw[List.map_map];refine fm λj a=>?_;rw[aD (cE.1 a)]
 rfl
def Wx:gE (vL k 0)=fx k [AV.int 0,.int 0,.aJ]:=by
 have e:vL k 0=ag k (.int 0,.int 0,.aJ):=by
  unfold vL;simp only[Nat.not_lt_zero,fv];rw[List.map_const', lT]
 rw[e];have:∀n:Nat,gE (ag n (.int 0,.int 0,.aJ))=fx n [AV.int 0,.int 0,.aJ]:=by
  intro n
  induction n with
  |zero=>rfl
  |succ n a=>
   rw[sJ];show[AV.int 0,.int 0,.aJ]++gE (ag n (.int 0,.int 0,.aJ))=_;rw[a];rfl
 exact this k
def aoK(z:kQ D) (C:D.n.ay+D.n.aG+D.n.aM<=64)(p:ah cls=ah D.K) (r:∀c∈cls,0<=c/\c<(k:Int)) (E:k<=128) (F:1<=k)
  (A:aQ σ 0=aa ⟨aa 10,tJ,.live⟩)
  (G:∀S l τ b a d e g,Sr D 1025 S->CI cls S k (ah D.K) l->b ≠ 0->aQ τ 0=aa ⟨aa 10,tJ,.live⟩->aQ τ b=aa (rr (l.map jL))->WK L CH [.aW,.aW,.aW,.ptr 0 10 0,D.vcs.av,.aW,.sl b (3*k) 0 k,.aW,.aW,.aW,.aW,a,d,e,iL cls,.aW,g,.aW,.aW,.aW] ab τ (iq uV K)) :
  WK L MK [.aW,.aW,.aW,.ptr 0 10 0,D.vcs.av,.int k,.aW,.aW,.aW,.aW,.aW,.aW,.aW,.aW,iL cls,.aW,.aW,.aW,.aW,.aW] ab σ (iq uV K):=by
 unfold MK;obtain⟨S,H,m⟩:=aoe D z C;have R:=cX A;simp[-aK,-List.map_map,H];simp only[<-Wx,mN,ML];refine⟨ax,?_⟩
 refine bB (λq:Nat×aq=>[(7,.int q.1)]) (λq=>q.2) (λq=>q.1<=k/\aQ q.2 0=aa ⟨aa 10,tJ,.live⟩/\aQ q.2 (ah σ)=aa (rr (vL k q.1))) (λq=>k-q.1) (0,σ ++ [rr (vL k 0)]) bS ⟨aA,iu A,gZ⟩ ?_
 rintro⟨i,τ⟩ ⟨I,j, o⟩;dsimp only at I j o ⊢
 by_cases s:i<k
 .have u:i<ah (vL k i):=by rw[ML];exact s
  have J:ah (gE (vL k i))=3*k:=by rw[mN,ML]
  have B:=aou u (t:=(.int i,.int (-1),.aJ));rw[aoJ s]at B;simp[-aK,-List.map_map,s,o,J];exact⟨ax,ax,a8 (i+1,aV τ (ah σ) (rr (vL k (i+1)))) aA (congrArg (λc=>aV τ (ah σ) (⟨aa 3,c,.live⟩:aO)) B) ⟨aR,by dsimp only;rw[bu ax];exact j, cQ (cX o)⟩ aR⟩
 .have ei:i=k:=by omega
  subst ei;simp[-aK,-List.map_map];rw[Wv]at o;refine aoI p r m.l (by rw[m.w.f];exact m.l) (λx M N=>?_) z.f.k E j o ax λl y a d e g O P Q=>G S l y _ a d e g m O ax P Q
  unfold Fd.wd;cases h:ix S.W x with
  |none=>simp
  |some w=>exact m.w.wl x w M (by rw[m.l];exact N) h
end Ab
