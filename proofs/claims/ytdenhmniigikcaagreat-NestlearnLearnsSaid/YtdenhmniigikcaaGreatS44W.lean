/- The time of words; and what it leans on. Condition: none. -/
import Derived.Test.YtdenhmniigikcaaGreatN44P
import Derived.Test.YtdenhmniigikcaaGreatFrz
import Derived.Test.YtdenhmniigikcaaGreatS44U
import Derived.Test.YtdenhmniigikcaaGreatInts
set_option linter.all false
set_option maxRecDepth 100000
set_option maxHeartbeats 4000000
open Option renaming some->aa,none->ab
open Bool renaming true->ad,false->ae
open List renaming range->af,length->ah
open Int renaming toNat->aj
namespace Ab
structure Ar where
 step:ak
 Yd:Int
 deriving Inhabited
abbrev Ar.av (l:Ar):AV:=.agg [iL l.step,.int l.Yd]
structure Ar.fits (l:Ar):Prop where
 len:(ah l.step:Int)<=9223372036854775807
 st:∀x∈l.step,-9223372036854775808<=x/\x<=9223372036854775807
 rs : -9223372036854775808<=l.Yd/\l.Yd<=9223372036854775807
def Ye (x:Int):Bool:=decide (x<0)||decide (1048576<x)
def Ar.bad (l:Ar):Bool:=Ye l.Yd||l.step.any Ye
def Ar.steps (l:Ar) (w:ak):Int:=w.foldl (λn a=>n+ix l.step a) 0
def Ar.cost (l:Ar) (w:ak):Int×Int:=if(ah l.step:Int)<1\/64<(ah l.step:Int)\/l.bad=ad then(0,2)else if iZ w (ah l.step) ≠ 0 then(0,iZ w (ah l.step))else(l.Yd+l.steps w,0)
def Ar.sum (l:Ar) (ws:al):Int:=ws.foldl (λn w=>n+(l.cost w).1) 0
inductive F2 {α β:Type} (R:α->β->Prop):List α->List β->Prop
 |nil:F2 R [] []
 |cons {a b as bs}:R a b->F2 R as bs->F2 R (a::as) (b::bs)
variable{α β:Type}
def F2.imp{R S:α->β->Prop}(h:∀a b,R a b->S a b){as:List α}{bs:List β}(k:F2 R as bs):F2 S as bs:=by
 induction k with
 |nil=>exact .nil
 |cons h1 _ ih=>exact .cons (h _ _ h1) ih
def F2.snoc{R:α->β->Prop}{as:List α}{bs:List β}{a:α}{b:β}(k:F2 R as bs) (h:R a b):F2 R (as ++ [a]) (bs ++ [b]):=by
 induction k with
 |nil=>exact .cons h .nil
 |cons h1 _ ih=>exact .cons h1 ih
def F2.len{R:α->β->Prop}{as:List α}{bs:List β}(k:F2 R as bs):ah as=ah bs:=by
 induction k with
 |nil=>rfl
 |cons h1 _ ih=>simp[ih]
def F2.cu{α β:Type}{f:α->Option β}{as:List α}{bs:List β}(k:F2 (λa b=>f a=aa b) as bs):Ab.cu f as=aa bs:=by
 induction k with
 |nil=>rfl
 |cons h1 _ ih=>simp only[Ab.cu,h1,ih]
def F2.map{γ:Type}{R:α->β->Prop}{f:β->γ}{as:List α}{bs:List β}(k:F2 R as bs):F2 (λa c=>∃b,R a b/\c=f b) as (bs.map f):=by
 induction k with
 |nil=>exact .nil
 |cons h1 _ ih=>exact .cons ⟨_,h1,rfl⟩ ih
def RW (r:aq) (X:Nat) (c:AV) (w:ak):Prop:=(c = .aX ad []/\w=[])\/(w ≠ []/\∃b,b ≠ X/\c = .sl (b+1) (ah w) 0 (ah w)/\aQ r b=aa ⟨ab,w.map .int,.live⟩)
def RG (r:aq) (X:Nat) (c:AV) (g:al):Prop:=∃b cs,b ≠ X/\c = .sl (b+1) (ah g) 0 (ah g)/\aQ r b=aa ⟨ab,cs,.live⟩/\F2 (RW r X) cs g
variable{r:aq}{b:Nat}{B:aO}
def Yf:aQ r b=aa B->b<ah r:=by
 induction r generalizing b with
 |nil=>intro h;cases b<;>simp[aQ]at h
 |cons x r a=>
  cases b with
  |zero=>intro _;simp
  |succ b=>intro h;have:=a h;simp;omega
def aql{l:aq}:aQ r b=aa B->aQ (r++l) b=aa B:=by
 induction r generalizing b with
 |nil=>intro h;cases b<;>simp[aQ]at h
 |cons x r a=>
  cases b with
  |zero=>exact id
  |succ b=>exact a
variable{r': aq}{X X': Nat}{c:AV}{w:ak}
def RW.mono{r: aq}(h:RW r X c w) (hb:∀b B,b ≠ X->aQ r b=aa B->aQ r' b=aa B) (hx:X' = X\/ah r<=X'):RW r' X' c w:=by
 rcases h with h|⟨h0,b,h1,h2,h3⟩
 .exact .inl h
 .refine .inr ⟨h0,b,?_,h2,hb _ _ h1 h3⟩
  rcases hx with rfl|hx
  .exact h1
  .have:=Yf h3;omega
def RG.mono{r: aq}{g:al}(h:RG r X c g) (hb:∀b B,b ≠ X->aQ r b=aa B->aQ r' b=aa B) (hx:X' = X\/ah r<=X'):RG r' X' c g:=by
 obtain⟨b,cs,h1,h2,h3,h4⟩:=h;refine⟨b,cs,?_,h2,hb _ _ h1 h3,h4.imp λa w k=>k.mono hb hx⟩;rcases hx with rfl|hx
 .exact h1
 .have:=Yf h3;omega
def aqm{σ:aq}{fr:Bool}{k n:Nat}{cs ys:ao}{st:fR}(h:aQ σ b=aa ⟨ab,cs,st⟩) (a:st.gx=ad) (d:n=ah cs) (e:F2 (λc y=>view σ fr k c=aa y) cs ys):view σ fr (k+1) (.sl b n 0 n)=aa (.aX ae ys):=by
 subst d;have g:upto σ b (ah cs)=aa ⟨ab,cs,st⟩:=by
  unfold upto;rw[h];cases st<;>simp at a ⊢
 unfold view;simp only[g,ba,mG,gQ,Nat.mul_one,bG,dM];rw[LN (bG _),e.cu]
theorem RW.seen{X:Nat}(h:RW r X c w) (B:aO){k:Nat}:view (B::r) ae (k+2) c=aa (iL w):=by
 rcases h with⟨rfl,rfl⟩|⟨h0,b,_,rfl,h1⟩
 .rfl
 .exact gY (k:=k+1) (f:=.int) (g:=.int) (st:=.live) (xs:=w) h1 aA rfl λ_ _=>rfl
def F2.get{R:α->β->Prop}{as:List α}{bs:List β}(k:F2 R as bs):∀{i:Nat}{a:α}{b:β},as[i]? = aa a->bs[i]? = aa b->R a b:=by
 induction k with
 |nil=>intro i a b h;simp at h
 |cons h1 _ ih=>
  intro i a b h h';cases i with
  |zero=>simp at h h'; subst h h'; exact h1
  |succ i=>exact ih du (by simpa using h')
def F2.take{R:α->β->Prop}{as:List α}{bs:List β}(k:F2 R as bs):∀(n:Nat),F2 R (as.take n) (bs.take n):=by
 induction k with
 |nil=>intro n;simp;exact .nil
 |cons h1 _ ih=>
  intro n;cases n with
  |zero=>exact .nil
  |succ n=>exact .cons h1 (ih n)
def F2.drop{R:α->β->Prop}{as:List α}{bs:List β}(k:F2 R as bs):∀(n:Nat),F2 R (as.drop n) (bs.drop n):=by
 induction k with
 |nil=>intro n;simp;exact .nil
 |cons h1 h2 ih=>
  intro n;cases n with
  |zero=>exact .cons h1 h2
  |succ n=>exact ih n
def F2.app{R:α->β->Prop}{as cs:List α}{bs ds:List β}(k:F2 R as bs) (h:F2 R cs ds):F2 R (as++cs) (bs++ds):=by
 induction k with
 |nil=>exact h
 |cons h1 _ ih=>exact .cons h1 ih
def SL (r:aq) (cells:ao) (l:al):Prop:=F2 (RW r (ah r)) cells l
variable{cells:ao}{l:al}
def SL.seen(h:SL r cells l):view (⟨ab,cells,.live⟩::r) ae vd (.sl 0 (ah cells) 0 (ah cells))=aa (bU l):=by
 refine aqm (k:=11) (st:=.live) rfl aA rfl ?_
 exact h.map.imp λc y ⟨w,k1,k2⟩=>by subst k2;exact k1.seen _
def SL.more{l2:aq}(h:SL r cells l):SL (r++l2) cells l:=F2.imp (λa b k=>k.mono (λb B _=>aql) (.inr aA)) h
structure Tr where
 Ov:ak
 out:ak
 deriving Inhabited
abbrev Tr.av (t:Tr):AV:=.agg [iL t.Ov,iL t.out]
def okT (t:Tr):Prop:=ZE t.Ov/\ZE t.out
structure As where
 cW:Int
 traces:List Tr
 deriving Inhabited
abbrev As.av (o:As):AV:=.agg [.int o.cW,.aX ae (o.traces.map Tr.av)]
structure As.fits (o:As):Prop where
 cW:lA o.cW=ad
 len:(ah o.traces:Int)<=9223372036854775807
 tr:∀t∈o.traces,okT t
structure As.Ok (o:As):Prop where
 len:(ah o.traces:Int)<=1000000
 Ov:∀t∈o.traces,(ah t.Ov:Int)<=1000000
 out:∀t∈o.traces,ah t.out=ah t.Ov
def As.at (o:As) (w:ak):Int:=idx (λt:Tr=>decide (w <+: t.Ov)) o.traces
def As.ans (o:As) (w:ak):ak×Bool:=if w=[]then([],ad)else if o.at w<0 then([],ae)else((ix o.traces (o.at w)).out.take (ah w),ad)
def As.open (o:As) (qs:al):al:=qs.filter λw=>!(o.ans w).2
def zX{ce:CE}{a:AV}:ev ce (⟨aa 2,[a,c],.live⟩::r) 0 [] (λ_=>.ptr 0 (ba (aa 2)) 0) (.ld (.v 0) (aa 2))=aa (.agg [a,c],ab):=(rfl)
def xw (f:Bool) (o:Option ak):AV:=match o with
 |none=>if f=ad then .aJ else iL []
 |some w=>wB (f,w)
def cw2 (f:Bool) (o:Option ak):ao:=[.bool o.isSome,xw f o]
def dc (N:Nat) (T:TO) (s:Nat):ao:=(af N).flatMap λ(t:Nat)=>cw2 ad (T (s:Int) (t:Int))
section
variable{N s t:Nat}{T:TO}
end
structure Hj (n:aS) (T:TO) (s t:Int) (o:Option ak) (ws:al) (Q:ak->Prop):Prop where
 e:o=CJ (T s t) ws
 c:∀w∈ws,Oh n.bZ T s t w
 a:∀w,Q w->w∈ws
variable{Q': ak->Prop}
def Hj.add{n:aS}{T:TO}{s t:Int}{o:Option ak}{ws:al}{Q:ak->Prop}(h:Hj n T s t o ws Q){w:ak}(hw:Oh n.bZ T s t w)(hq:∀v,Q' v->Q v\/v=w):Hj n T s t (Oi o w) (ws ++ [w]) Q' :=by
 refine⟨by rw[aoM,<-h.e],λv hv=>?_,λv hv=>?_⟩
 .rcases dI.1 hv with hv|hv
  .exact h.c v hv
  .simp at hv;rw[hv];exact hw
 .rcases hq v hv with hv|hv
  .exact dI.2 (.inl (h.a v hv))
  .rw[hv];simp
def Hj.imp{n:aS}{T:TO}{s t:Int}{o:Option ak}{ws:al}{Q:ak->Prop}(h:Hj n T s t o ws Q)(hq:∀v,Q' v->Q v):Hj n T s t o ws Q' :=⟨h.e,h.c,λv hv=>h.a v (hq v hv)⟩
def Hj.len{n:aS}{T:TO}(hT:Wy n.bZ T){s t:Int}(hs:cy n.bZ s) (ht:cy n.bZ t){o:Option ak}{ws:al}{Q:ak->Prop}(h:Hj n T s t o ws Q){x:ak}(hx:o=aa x):ah x<=1024:=by
 rw[h.e]at hx;rcases Wz hx with hx|⟨_,hx⟩
 .exact(hT s t x hs ht hx).2
 .exact hx
def Yg (k N:Nat):ao:=(af k).map λs=>.sl (2+s) (2*N) 0 N
def stK (k:Nat):fR:=if k=0 then .jN else .live
def lm (n:aS) (T:TO) (k:Nat) (Cv:aq):aq:=⟨aa 10,n.cs,.live⟩::⟨ab,Yg k (ah n.az),stK k⟩::((af k).map (λs=>(⟨aa 2,dc (ah n.az) T s,.live⟩:aO))++Cv)
section
variable{n:aS}{T:TO}{k:Nat}{Cv:aq}
end
section
variable{n:aS}{s:Nat}{D:ao}
end
def msE:Nat:=1026
def ms (o:Option ak):Nat:=match o with
 |none=>65^msE
 |some w=>dU w
def S1 (N:Nat) (f:Nat->Nat):Nat:=((af N).map f).sum
def Yh (N:Nat) (T:TO):Nat:=S1 N λs=>S1 N λt=>ms (T (s:Int) (t:Int))
structure TI (n:aS) (T:TO):Prop where
 ok:Wy n.bZ T
 d:∀s,cy n.bZ s->T s s=aa []
structure Gt (n:aS) (T0 T:TO) (ch:Bool):Prop where
 ti:TI n T
 no:ch=ae->T=T0
 yes:ch=ad->Yh (ah n.az) T<Yh (ah n.az) T0
section
variable{n:aS}{T:TO}{s t:Int}{o:Option ak}{ws:al}
def Wy.sy (hn:n.Ok) (hT:Wy n.bZ T) (hs:cy n.bZ s) (ht:cy n.bZ t){w:ak}(h:T s t=aa w):Ab.sy w:=(hT s t w hs ht h).1.sy (XY hn)
end
structure BfD (n:aS) (t:Nat) (o:Option ak):Prop where
 so:∀w,o=aa w->∃u,cy n.bZ u/\ix n.az u=ad/\n.bZ.lk n.aF u=aa w
 le:∀u:Nat,u<t->ix n.az (u:Int)=ad->∀v,n.bZ.lk n.aF (u:Int)=aa v->∃w,o=aa w/\dU w<=dU v
variable{a b:aS}
def aqn(h:¬a.bT=b.bT):∃w,¬(a.bT w↔b.bT w):=dP λd=>h (funext λw=>propext (dP λe=>d ⟨w,e⟩))
variable{w:ak}
def CX{n:aS}(e:n.Ok){t:Int}(d:Wd n.bZ n.aF t w):n.bT w↔ix n.az t=ad:=⟨λ⟨g, a, b⟩=>by rw[d.rq e.m0 a];exact b, λh=>⟨t,d,h⟩⟩
def aqo(d:fQ a b) (w:ak):gdW (dz a b).bZ (dz a b).aF (ix (dz a b).az) w↔¬(a.bT w↔b.bT w):=by
 constructor
 .rintro⟨t,y,x,t3⟩
  obtain⟨e, g, i,kx,l⟩:=MP d t3 a.aF b.aF d.oa.aF d.ob.aF rfl;have j:0<=e /\e < (ah a.az:Int):=kx.range (rR d.oa) d.oa.aF;have q:0<=g /\g < (ah b.az:Int):=l.range (rR d.ob) d.ob.aF;rw[i,X7 d j q]at x;rw[CX d.oa kx,CX d.ob l];cases m:ix a.az e <;>cases n:ix b.az g <;>simp_all
 .intro o
  have j:∃e g, ((0<=e /\e < (ah a.az:Int))/\Wd a.bZ a.aF e w)/\((0<=g /\g < (ah b.az:Int))/\Wd b.bZ b.aF g w):=by
   by_cases u:a.bT w
   .obtain⟨t,i,_⟩:=u
    obtain⟨g, m,n⟩:=aqf d d.ob.aF i;exact⟨t,g, ⟨i.range (rR d.oa) d.oa.aF,i⟩,m,n⟩
   .have r:b.bT w:=dP λh=>o ⟨λs =>absurd s u,λs =>absurd s h⟩
    obtain⟨t,i,_⟩:=r;obtain⟨e, m,n⟩:=aqg d d.oa.aF i;exact⟨e, t,⟨m,n⟩,i.range (rR d.ob) d.ob.aF,i⟩
  obtain⟨e, g, ⟨j,kx⟩,q,l⟩:=j;have p:=vm d j q;refine⟨pr b e g, ⟨p.1,?_⟩,?_,aoW d d.oa.aF d.ob.aF kx l⟩
  .show _<((ah (dz a b).az:Nat):Int)
   rw[CK];exact p.2
  .rw[X7 d j q]
   rw[CX d.oa kx,CX d.ob l]at o;cases m:ix a.az e <;>cases n:ix b.az g <;>simp_all
def dZ:aS:=⟨2,0,2,2,0,[ad,ae],[[0,0],[1,1]],[[0,1],[0,0]],[[],[]],[[[0,1],[1,0]],[[1,1],[1,1]]]⟩
def tR:aS:=⟨2,0,2,4,0,[ad,ae],[[0,0],[0,0]],[[0,1],[2,3]],[[],[]],[[[0,1],[1,0],[1,1],[1,1]],[[1,1],[1,1],[1,1],[1,1]]]⟩
def Hk:dZ.bI=0:=cp
def Yi:tR.bI=0:=cp
def xt:dZ.Ok:=oR Hk
def Yj:tR.Ok:=oR Yi
def Au (t c s r:Int):Int:=if t=1 then 1 else if s=1 then 1 else if c=r then 0 else 1
def yq{x:Int}(a:0<=x) (b:x<2):x=0\/x=1:=ax
variable{c r:Int}{u:ak}
def Nl{t s:Int}(m:t=0\/t=1) (b:s=0\/s=1) (d:0<=c) (g:c<2) (i:0<=r) (j:r<2) (h:Wd dZ.bZ 0 s u) (n:Wd dZ.bZ 1 1 u):Wd dZ.bZ t (Au t c s r) (c::(u ++ [2+0+r])):=by
 have a:=yq d g;have l:=yq i j;have key:∀p,Wd dZ.bZ (dZ.bZ.call t c).1 p u->dZ.bZ.aP p (dZ.bZ.call t c).2 r=Au t c s r->Wd dZ.bZ t (Au t c s r) (c::(u ++ [2+0+r])):=λp o e=>by
  have:=Wd.call (M:=dZ.bZ) t c p r (Au t c s r) u [] d g i j o (by rw[e];exact .nil _)
  exact this
 rcases m with rfl|rfl
 .refine key s ?_ ?_
  .rcases a with rfl|rfl<;>exact h
  .rcases a with rfl|rfl<;>rcases l with rfl|rfl<;>rcases b with rfl|rfl<;>rfl
 .refine key 1 ?_ ?_
  .rcases a with rfl|rfl<;>exact n
  .rcases a with rfl|rfl<;>rcases l with rfl|rfl<;>rcases b with rfl|rfl<;>rfl
def r8(h:Ww dZ.dB w):∃t:Int,(t=0\/t=1)/\Wd dZ.bZ 0 t w/\Wd dZ.bZ 1 1 w:=by
 induction h with
 |nil=>exact⟨0,.inl rfl,.nil _,.nil _⟩
 |bp w i x i1 _ _=>have i1:i<0:=i1;omega
 |aQ w u c r g j l m _ _ b d=>
  obtain⟨t,p,q,e⟩:=b;obtain⟨s,n,o,a⟩:=d;refine⟨Au t c s r,?_,q.app (Nl p n g j l m o a),?_⟩
  .unfold Au;split
   .exact .inr rfl
   .split
    .exact .inr rfl
    .split
     .exact .inl rfl
     .exact .inr rfl
  .have:=e.app (Nl (t:=1) (.inr rfl) n g j l m o a)
   exact this
def vw{s t:Int}(h:Wd dZ.bZ 0 s w) (g:Wd dZ.bZ 0 t w):s=t:=h.rq xt.m0 g
def xu{t s:Int}(e:Wd dZ.bZ 0 t w) (g:Wd dZ.bZ 0 s u) (h:0<=c) (i:c<2) (j:0<=r) (l:r<2):Wd dZ.bZ 0 (Au t c s r) (w++c::(u ++ [2+0+r])):=by
 obtain⟨o, m,a, _⟩:=r8 e.ww;obtain⟨p, n,b, d⟩:=r8 g.ww;rw[vw e a, vw g b];exact a.app (Nl m n h i j l b d)
def zY{t:Int}(h:Wd dZ.bZ 0 t w):dZ.bT w↔t=0:=by
 have:=CX xt (n:=dZ) (w:=w) (t:=t) h;rw[this];obtain⟨d, b,a, _⟩:=r8 h.ww;rw[vw h a];rcases b with rfl|rfl<;>decide
def CY{v:ak}{s t:Int}(a:Wd dZ.bZ 0 s u) (b:Wd dZ.bZ 0 t v):kU dZ.dB dZ.bT u v↔s=t:=by
 constructor
 .intro h
  have:=h.acc;rw[zY a,zY b]at this;obtain⟨z, n,o, _⟩:=r8 a.ww;obtain⟨A, B,p, _⟩:=r8 b.ww;have C:=vw a o;have D:=vw b p;omega
 .intro e n
  have back:∀{u v:ak},Sep dZ.dB dZ.bT u v->∀s t,Wd dZ.bZ 0 s u->Wd dZ.bZ 0 t v->s ≠ t:=by
   intro u v n
   induction n with
   |acc u v h=>
    intro s t a b e;subst e;exact h (by rw[zY a,zY b])
   |bp u v i E i1 _ _=>have i1:i<0:=i1;omega
   |bl u v y c r d g j l q _ w=>
    intro s t a b e;subst e;obtain⟨x,_,m,_⟩:=r8 q;exact w _ _ (xu a m d g j l) (xu b m d g j l) rfl
   |br u v y c r d g j l q _ w=>
    intro s t a b e;subst e;obtain⟨x,_,m,_⟩:=r8 q;exact w _ _ (xu m a d g j l) (xu m b d g j l) rfl
  exact back n _ _ a b e
def sF:Wd dZ.bZ 0 1 [0,3]:=xu (w:=[]) (u:=[]) (t:=0) (s:=0) (c:=0) (r:=1) (.nil _) (.nil _) ax ax ax ax
def Gi:js dZ.dB dZ.bT [[],[0,3]]:=by
 refine⟨?_,λw d=>?_,λw d v e p=>?_,λv e=>?_⟩
 .simp;decide
 .rcases cC.1 d with rfl|d
  .exact .nil
  .simp at d;subst d;exact sF.ww
 .rcases cC.1 d with rfl|d
  .unfold bD
   split
   .omega
   .split
    .rename_i h;simp at h
    .cases v with
     |nil=>decide
     |cons a v=>rename_i h _;simp at h
  .simp at d
   subst d;obtain⟨t,l,b,_⟩:=r8 e;have:=(CY sF b).1 p;subst this;cases e with
   |nil=>have:=vw b (.nil 0);omega
   |bp w i q i1 _=>have i1:i<0:=i1;omega
   |aQ w u c r m g n j d s=>
    by_cases o:w=[]/\u=[]
    .obtain⟨rfl,rfl⟩:=o
     have:=vw b (xu (.nil 0) (.nil 0) m g n j);have g:c<2:=g;have j:r<2:=j;rcases yq m g with rfl|rfl<;>rcases yq n j with rfl|rfl
     .simp[Au]at this
     .decide
     .decide
     .simp[Au]at this
    .have hlen:2<ah (w++c::(u ++ [dZ.dB.c+dZ.dB.i+r])):=by
      simp only[bM,cT,eX];cases w with
      |nil=>cases u with
       |nil=>exact absurd ⟨rfl,rfl⟩ o
       |cons a u=>simp<;>omega
      |cons a w=>simp<;>omega
     unfold bD;rw[aD (by simpa using hlen)];omega
 .obtain⟨t,l,b,_⟩:=r8 e
  rcases l with rfl|rfl
  .exact⟨[],aA,(CY b (.nil 0)).2 rfl⟩
  .exact⟨[0,3],aA,(CY b sF).2 rfl⟩
def aqp{t:Int}(h:Wd dZ.bZ 0 t w):iO dZ.dB dZ.bT [[],[0,3]] w=t:=by
 obtain⟨d, b,a, _⟩:=r8 h.ww;have e:=vw h a;subst e;rcases b with rfl|rfl
 .exact zP Gi h.ww ax aA ((CY h (.nil 0)).2 rfl)
 .exact zP Gi h.ww ax aA ((CY h sF).2 rfl)
def Nn:cO dZ.dB dZ.bT [[],[0,3]]=tR:=by
 have b:Wd dZ.bZ 0 0 []:=.nil 0;have R:∀{w u:ak} {t s:Int},Wd dZ.bZ 0 t w->Wd dZ.bZ 0 s u->∀c r:Int,0<=c->c<2->0<=r->r<2->iO dZ.dB dZ.bT [[],[0,3]] (w++c::(u ++ [2+0+r]))=Au t c s r:=λj l c r m n o p=>aqp (xu j l m n o p);have q:dZ.bT []:=(zY b).2 rfl;have x:¬dZ.bT [0,3]:=λh=>by have:=(zY sF).1 h;omega
 have y:ix ([[],[0,3]]:al) 0=[]:=rfl;have z:ix ([[],[0,3]]:al) 1=[0,3]:=rfl;refine aS.ext' rfl rfl rfl rfl rfl ?_ rfl rfl rfl ?_
 .show[@decide (dZ.bT []) (Classical.propDecidable _),@decide (dZ.bT [0,3]) (Classical.propDecidable _)]=[ad,ae]
  rw[@decide_eq_true _ (Classical.propDecidable _) q,@decide_eq_false _ (Classical.propDecidable _) x]
 .have P:∀(i g r:Nat),i<2->g<4->r<2->(if (aj dZ.dB.c)=0 then(0:Int)else iO dZ.dB dZ.bT [[],[0,3]] (ix ([[],[0,3]]:al) ((g/aj dZ.dB.c:Nat):Int)++((g%aj dZ.dB.c:Nat):Int)::(ix ([[],[0,3]]:al) (i:Int) ++ [dZ.dB.c+dZ.dB.i+(r:Int)])))=Au ((g/2:Nat):Int) ((g%2:Nat):Int) (i:Int) (r:Int):=λi g r a d e=>by
   have W:∀k:Nat,k<2->Wd dZ.bZ 0 (k:Int) (ix ([[],[0,3]]:al) (k:Int)):=λk A=>by
    have:k=0\/k=1:=ax
    rcases this with rfl|rfl
    .exact b
    .exact sF
   rw[aC cp]
   show iO dZ.dB dZ.bT [[],[0,3]] (ix ([[],[0,3]]:al) ((g/2:Nat):Int)++((g%2:Nat):Int)::(ix ([[],[0,3]]:al) (i:Int) ++ [2+0+(r:Int)]))=_;exact R (W (g/2) ax) (W i a) _ _ ax ax ax ax
  show(af 2).map (λ(i:Nat)=>(af 4).map λ(g:Nat)=>(af 2).map λ(r:Nat)=>if (aj dZ.dB.c)=0 then(0:Int)else iO dZ.dB dZ.bT [[],[0,3]] (ix ([[],[0,3]]:al) ((g/aj dZ.dB.c:Nat):Int)++((g%aj dZ.dB.c:Nat):Int)::(ix ([[],[0,3]]:al) (i:Int) ++ [dZ.dB.c+dZ.dB.i+(r:Int)])))=_
  rw[fm (g:=λ(i:Nat)=>(af 4).map λ(g:Nat)=>(af 2).map λ(r:Nat)=>Au ((g/2:Nat):Int) ((g%2:Nat):Int) (i:Int) (r:Int)) λi a=>fm λg d=>fm λr e=>P i g r (cE.1 a) (cE.1 d) (cE.1 e)]
  decide
def Yk:j6 dZ [[],[0,3]]:=⟨xt,Gi,cp,cp⟩
def aqq:tR.bT=dZ.bT:=by rw[<-Nn];exact Yk.bT
end Ab
