/- The time of words; and what it leans on. Condition: none. -/
import Derived.Test.YtdenhmniigikcaaGreatN44N
import Derived.Test.YtdenhmniigikcaaGreatFrz
import Derived.Test.YtdenhmniigikcaaGreatS44U
import Derived.Test.YtdenhmniigikcaaGreatInts
set_option linter.all false
set_option maxRecDepth 100000
set_option maxHeartbeats 4000000
namespace Ab
structure xZ where
 step:List Int
 V1:Int
 deriving Inhabited
abbrev xZ.av (l:xZ):AV:=.agg [iL l.step,.int l.V1]
structure xZ.fits (l:xZ):Prop where
 len:(l.step.length:Int)<=9223372036854775807
 st:∀x∈l.step,-9223372036854775808<=x/\x<=9223372036854775807
 rs : -9223372036854775808<=l.V1/\l.V1<=9223372036854775807
def V2 (x:Int):Bool:=decide (x<0)||decide (1048576<x)
def xZ.bad (l:xZ):Bool:=V2 l.V1||l.step.any V2
def xZ.steps (l:xZ) (w:List Int):Int:=w.foldl (λn a=>n+ix l.step a) 0
def xZ.cost (l:xZ) (w:List Int):Int×Int:=if(l.step.length:Int)<1\/64<(l.step.length:Int)\/l.bad=true then(0,2)else if eD w l.step.length ≠ 0 then(0,eD w l.step.length)else(l.V1+l.steps w,0)
def xZ.sum (l:xZ) (ws:List (List Int)):Int:=ws.foldl (λn w=>n+(l.cost w).1) 0
inductive F2 {α β:Type} (R:α->β->Prop):List α->List β->Prop
 |nil:F2 R [] []
 |cons {a b as bs}:R a b->F2 R as bs->F2 R (a::as) (b::bs)
theorem F2.imp{α β:Type}{R S:α->β->Prop}(h:∀a b,R a b->S a b){as:List α}{bs:List β}(k:F2 R as bs):F2 S as bs:=by
 induction k with
 |nil=>exact .nil
 |cons h1 _ ih=>exact .cons (h _ _ h1) ih
theorem F2.len{α β:Type}{R:α->β->Prop}{as:List α}{bs:List β}(k:F2 R as bs):as.length=bs.length:=by
 induction k with
 |nil=>rfl
 |cons h1 _ ih=>simp[ih]
theorem F2.bZ{α β:Type}{f:α->Option β}{as:List α}{bs:List β}(k:F2 (λa b=>f a=some b) as bs):Ab.bZ f as=some bs:=by
 induction k with
 |nil=>rfl
 |cons h1 _ ih=>simp only[Ab.bZ,h1,ih]
theorem F2.map{α β γ:Type}{R:α->β->Prop}{f:β->γ}{as:List α}{bs:List β}(k:F2 R as bs):F2 (λa c=>∃b,R a b/\c=f b) as (bs.map f):=by
 induction k with
 |nil=>exact .nil
 |cons h1 _ ih=>exact .cons ⟨_,h1,rfl⟩ ih
def RW (r:List ag) (X:Nat) (c:AV) (w:List Int):Prop:=(c = .aE true []/\w=[])\/(w ≠ []/\∃b,b ≠ X/\c = .sl (b+1) w.length 0 w.length/\al r b=some ⟨none,w.map .int,.live⟩)
def RG (r:List ag) (X:Nat) (c:AV) (g:List (List Int)):Prop:=∃b cs,b ≠ X/\c = .sl (b+1) g.length 0 g.length/\al r b=some ⟨none,cs,.live⟩/\F2 (RW r X) cs g
theorem V3{r:List ag}{b:Nat}{B:ag}:al r b=some B->b<r.length:=by
 induction r generalizing b with
 |nil=>intro h;cases b<;>simp[al]at h
 |cons x r ih=>
  cases b with
  |zero=>intro _;simp
  |succ b=>intro h;have:=ih h;simp;omega
theorem aoz{r l:List ag}{b:Nat}{B:ag}:al r b=some B->al (r++l) b=some B:=by
 induction r generalizing b with
 |nil=>intro h;cases b<;>simp[al]at h
 |cons x r ih=>
  cases b with
  |zero=>exact id
  |succ b=>exact ih
theorem RW.mono{r r' : List ag}{X X' : Nat}{c:AV}{w:List Int}(h:RW r X c w) (hb:∀b B,b ≠ X->al r b=some B->al r' b=some B) (hx:X' = X\/r.length<=X'):RW r' X' c w:=by
 rcases h with h|⟨h0,b,h1,h2,h3⟩
 ·exact .inl h
 ·refine .inr ⟨h0,b,?_,h2,hb _ _ h1 h3⟩
  rcases hx with rfl|hx
  ·exact h1
  ·have:=V3 h3;omega
theorem RG.mono{r r' : List ag}{X X' : Nat}{c:AV}{g:List (List Int)}(h:RG r X c g) (hb:∀b B,b ≠ X->al r b=some B->al r' b=some B) (hx:X' = X\/r.length<=X'):RG r' X' c g:=by
 obtain⟨b,cs,h1,h2,h3,h4⟩:=h;refine⟨b,cs,?_,h2,hb _ _ h1 h3,h4.imp λa w k=>k.mono hb hx⟩;rcases hx with rfl|hx
 ·exact h1
 ·have:=V3 h3;omega
theorem aoA{σ:List ag}{fr:Bool}{b k n:Nat}{cs ys:List AV}{st:eo}(h:al σ b=some ⟨none,cs,st⟩) (hs:st.gz=true) (hn:n=cs.length) (hf:F2 (λc y=>view σ fr k c=some y) cs ys):view σ fr (k+1) (.sl b n 0 n)=some (.aE false ys):=by
 subst hn;have hu:upto σ b cs.length=some ⟨none,cs,st⟩:=by
  unfold upto;rw[h];cases st<;>simp at hs ⊢
 unfold view;simp only[hu,aC,nP,jj,Nat.mul_one,bA,dA];rw[JP (bA _),hf.bZ]
theorem RW.seen{r:List ag}{X:Nat}{c:AV}{w:List Int}(h:RW r X c w) (B:ag){k:Nat}:view (B::r) false (k+2) c=some (iL w):=by
 rcases h with⟨rfl,rfl⟩|⟨h0,b,_,rfl,h1⟩
 ·rfl
 ·exact gx (k:=k+1) (f:=.int) (g:=.int) (st:=.live) (xs:=w) h1 (by simp) rfl λ_ _=>rfl
theorem F2.get{α β:Type}{R:α->β->Prop}{as:List α}{bs:List β}(k:F2 R as bs):∀{i:Nat}{a:α}{b:β},as[i]? = some a->bs[i]? = some b->R a b:=by
 induction k with
 |nil=>intro i a b h;simp at h
 |cons h1 _ ih=>
  intro i a b h h';cases i with
  |zero=>simp at h h'; subst h h'; exact h1
  |succ i=>exact ih (by simpa using h) (by simpa using h')
theorem F2.take{α β:Type}{R:α->β->Prop}{as:List α}{bs:List β}(k:F2 R as bs):∀(n:Nat),F2 R (as.take n) (bs.take n):=by
 induction k with
 |nil=>intro n;simp;exact .nil
 |cons h1 _ ih=>
  intro n;cases n with
  |zero=>exact .nil
  |succ n=>exact .cons h1 (ih n)
theorem F2.drop{α β:Type}{R:α->β->Prop}{as:List α}{bs:List β}(k:F2 R as bs):∀(n:Nat),F2 R (as.drop n) (bs.drop n):=by
 induction k with
 |nil=>intro n;simp;exact .nil
 |cons h1 h2 ih=>
  intro n;cases n with
  |zero=>exact .cons h1 h2
  |succ n=>exact ih n
theorem F2.app{α β:Type}{R:α->β->Prop}{as cs:List α}{bs ds:List β}(k:F2 R as bs) (h:F2 R cs ds):F2 R (as++cs) (bs++ds):=by
 induction k with
 |nil=>exact h
 |cons h1 _ ih=>exact .cons h1 ih
def SL (r:List ag) (cells:List AV) (l:List (List Int)):Prop:=F2 (RW r r.length) cells l
theorem SL.seen{r:List ag}{cells:List AV}{l:List (List Int)}(h:SL r cells l):view (⟨none,cells,.live⟩::r) false vd (.sl 0 cells.length 0 cells.length)=some (cO l):=by
 refine aoA (k:=11) (st:=.live) rfl (by simp) rfl ?_
 exact h.map.imp λc y ⟨w,k1,k2⟩=>by subst k2;exact k1.seen _
theorem SL.more{r l2:List ag}{cells:List AV}{l:List (List Int)}(h:SL r cells l):SL (r++l2) cells l:=F2.imp (λa b k=>k.mono (λb B _=>aoz) (.inr (by simp))) h
structure Tr where
 Mj:List Int
 out:List Int
 deriving Inhabited
abbrev Tr.av (t:Tr):AV:=.agg [iL t.Mj,iL t.out]
def okT (t:Tr):Prop:=W9 t.Mj/\W9 t.out
structure ya where
 cB:Int
 traces:List Tr
 deriving Inhabited
abbrev ya.av (o:ya):AV:=.agg [.int o.cB,.aE false (o.traces.map Tr.av)]
structure ya.fits (o:ya):Prop where
 cB:kv o.cB=true
 len:(o.traces.length:Int)<=9223372036854775807
 tr:∀t∈o.traces,okT t
structure ya.Ok (o:ya):Prop where
 len:(o.traces.length:Int)<=1000000
 Mj:∀t∈o.traces,(t.Mj.length:Int)<=1000000
 out:∀t∈o.traces,t.out.length=t.Mj.length
def ya.at (o:ya) (w:List Int):Int:=idx (λt:Tr=>decide (w <+: t.Mj)) o.traces
def ya.ans (o:ya) (w:List Int):List Int×Bool:=if w=[]then([],true)else if o.at w<0 then([],false)else((ix o.traces (o.at w)).out.take w.length,true)
def ya.open (o:ya) (qs:List (List Int)):List (List Int):=qs.filter λw=>!(o.ans w).2
def xw (f:Bool) (o:Option (List Int)):AV:=match o with
 |none=>if f=true then .ah else iL []
 |some w=>wB (f,w)
def cw2 (f:Bool) (o:Option (List Int)):List AV:=[.bool o.isSome,xw f o]
def cF (N:Nat) (T:TO) (s:Nat):List AV:=(List.range N).flatMap λ(t:Nat)=>cw2 true (T (s:Int) (t:Int))
section
variable{N s t:Nat}{T:TO}
end
structure Hf (n:ak) (T:TO) (s t:Int) (o:Option (List Int)) (ws:List (List Int)) (Q:List Int->Prop):Prop where
 e:o=Ax (T s t) ws
 c:∀w∈ws,Me n.eK T s t w
 a:∀w,Q w->w∈ws
theorem Hf.add{n:ak}{T:TO}{s t:Int}{o:Option (List Int)}{ws:List (List Int)}{Q:List Int->Prop}(h:Hf n T s t o ws Q){w:List Int}(hw:Me n.eK T s t w){Q' : List Int->Prop}(hq:∀v,Q' v->Q v\/v=w):Hf n T s t (Mf o w) (ws ++ [w]) Q' :=by
 refine⟨by rw[anZ,<-h.e],λv hv=>?_,λv hv=>?_⟩
 ·rcases eH.1 hv with hv|hv
  ·exact h.c v hv
  ·simp at hv;rw[hv];exact hw
 ·rcases hq v hv with hv|hv
  ·exact eH.2 (.inl (h.a v hv))
  ·rw[hv];simp
theorem Hf.imp{n:ak}{T:TO}{s t:Int}{o:Option (List Int)}{ws:List (List Int)}{Q:List Int->Prop}(h:Hf n T s t o ws Q){Q' : List Int->Prop}(hq:∀v,Q' v->Q v):Hf n T s t o ws Q' :=⟨h.e,h.c,λv hv=>h.a v (hq v hv)⟩
theorem Hf.len{n:ak}{T:TO}(hT:Vr n.eK T){s t:Int}(hs:dD n.eK s) (ht:dD n.eK t){o:Option (List Int)}{ws:List (List Int)}{Q:List Int->Prop}(h:Hf n T s t o ws Q){x:List Int}(hx:o=some x):x.length<=1024:=by
 rw[h.e]at hx;rcases Vs hx with hx|⟨_,hx⟩
 ·exact(hT s t x hs ht hx).2
 ·exact hx
def V4 (k N:Nat):List AV:=(List.range k).map λs=>.sl (2+s) (2*N) 0 N
def stK (k:Nat):eo:=if k=0 then .jP else .live
def lm (n:ak) (T:TO) (k:Nat) (Ai:List ag):List ag:=⟨some 10,n.cs,.live⟩::⟨none,V4 k n.accept.length,stK k⟩::((List.range k).map (λs=>(⟨some 2,cF n.accept.length T s,.live⟩:ag))++Ai)
section
variable{n:ak}{T:TO}{k:Nat}{Ai:List ag}
end
section
variable{n:ak}{s:Nat}{D:List AV}
end
def msE:Nat:=1026
def ms (o:Option (List Int)):Nat:=match o with
 |none=>65^msE
 |some w=>fA w
def S1 (N:Nat) (f:Nat->Nat):Nat:=((List.range N).map f).sum
def V5 (N:Nat) (T:TO):Nat:=S1 N λs=>S1 N λt=>ms (T (s:Int) (t:Int))
structure TI (n:ak) (T:TO):Prop where
 ok:Vr n.eK T
 d:∀s,dD n.eK s->T s s=some []
structure Gt (n:ak) (T0 T:TO) (ch:Bool):Prop where
 ti:TI n T
 no:ch=false->T=T0
 yes:ch=true->V5 n.accept.length T<V5 n.accept.length T0
section
variable{n:ak}{T:TO}{s t:Int}{o:Option (List Int)}{ws:List (List Int)}
theorem Vr.sy (hn:n.Ok) (hT:Vr n.eK T) (hs:dD n.eK s) (ht:dD n.eK t){w:List Int}(h:T s t=some w):Ab.sy w:=(hT s t w hs ht h).1.sy (aos hn)
end
structure BfD (n:ak) (t:Nat) (o:Option (List Int)):Prop where
 so:∀w,o=some w->∃u,dD n.eK u/\ix n.accept u=true/\n.eK.lk n.start u=some w
 le:∀u:Nat,u<t->ix n.accept (u:Int)=true->∀v,n.eK.lk n.start (u:Int)=some v->∃w,o=some w/\fA w<=fA v
theorem aoB (aw:PC wP []=some (.bool true)) (n:ak) (h:n.fits) (w:List Int) (hw:(w.length:Int)<=9223372036854775807):PC QT [n.av,iL w]=some (.bool true):=by
 refine cu (aif rfl ?_);have hS:=aol n h;cases hs:n.mW with
 |false=>rw[hs]at hS;simp[hS,aw]
 |true=>
  rw[hs]at hS
  by_cases hl:60<(w.length:Int)
  ·simp[hS,hl,aw]
  obtain⟨⟨x,e⟩,hq,q1,q2⟩:=VY n h λhv=>aov hs hv
  by_cases hv:n.bC=0
  case neg=>
   have:=q1 hv;injection this with ex ee
   subst ex ee;simp[hS,hl,hq,hv,zN,aw]
  obtain⟨ws,hR,F5⟩:=q2 hv
  by_cases he:e=0
  case neg=>
   have:x=zN:=by
    have:=aox (A:=n.eQ) (L:=n.cj) (ws:=ws) (by rw[<-F5];exact he)
    rw[<-F5]at this;exact this
   subst this;simp[hS,hl,hq,he,zN,aw]
  subst he;have hx:=aow (A:=n.eQ) (L:=n.cj) (ws:=ws) (by rw[<-F5])
  rw[<-F5]at hx;obtain⟨hx,h1,h2,h3⟩:=hx;have hx:x=cR n.eQ n.cj ws:=hx;have hA:kT n ws:=⟨qp hv,hR,h1,h2⟩;have hf:=La hA.o (VZ hA.ok.eQ h1 h2).2;have hV:=JG _ hf;have hE:=aop _ hA.o hA.entry;rw[FY hA.o]at hV;have c1:x.calls=n.calls:=by rw[hx];rfl
  have c2:x.aj=n.aj:=by rw[hx];rfl
  have c3:x.aq=n.aq:=by rw[hx];rfl
  have d1:=bH c1;have d2:=bH c2;have d3:=bH c3;rw[<-hx]at hV hE hf;have xj:=aoy (n:=n) (m:=x) hA.ok (by rw[hx];exact hA.o) c1.symm c2.symm c3.symm (by rw[hx];exact hA.cj.symm) w
  have a1:=SR n h w hw;have a2:=SR x hf w hw;rw[<-xj]at a2;simp[hS,hl,hq,hV,hE,d1,d2,d3,a1,a2,aw]
theorem aoC{n:ak}(hn:n.Ok){w:List Int}{t:Int}(ht:Wd n.eK n.start t w):n.cj w↔ix n.accept t=true:=⟨λ⟨t', jf, nI⟩=>by rw[ht.qt hn.m0 jf];exact nI, λh=>⟨t,ht,h⟩⟩
def dw:ak:=⟨2,0,2,2,0,[true,false],[[0,0],[1,1]],[[0,1],[0,0]],[[],[]],[[[0,1],[1,0]],[[1,1],[1,1]]]⟩
def rX:ak:=⟨2,0,2,4,0,[true,false],[[0,0],[0,0]],[[0,1],[2,3]],[[],[]],[[[0,1],[1,0],[1,1],[1,1]],[[1,1],[1,1],[1,1],[1,1]]]⟩
theorem Hg:dw.bC=0:=by decide
theorem V6:rX.bC=0:=by decide
theorem u7:dw.Ok:=qp Hg
theorem V7:rX.Ok:=qp V6
def yb (t c s r:Int):Int:=if t=1 then 1 else if s=1 then 1 else if c=r then 0 else 1
theorem vV{x:Int}(h0:0<=x) (h1:x<2):x=0\/x=1:=by omega
theorem Lk{t c s r:Int}{u:List Int}(ht:t=0\/t=1) (hs:s=0\/s=1) (c0:0<=c) (c1:c<2) (r0:0<=r) (r1:r<2) (h:Wd dw.eK 0 s u) (h1:Wd dw.eK 1 1 u):Wd dw.eK t (yb t c s r) (c::(u ++ [2+0+r])):=by
 have hc:=vV c0 c1;have hr:=vV r0 r1;have key:∀p,Wd dw.eK (dw.eK.call t c).1 p u->dw.eK.pop p (dw.eK.call t c).2 r=yb t c s r->Wd dw.eK t (yb t c s r) (c::(u ++ [2+0+r])):=λp hp e=>by
  have:=Wd.call (M:=dw.eK) t c p r (yb t c s r) u [] c0 c1 r0 r1 hp (by rw[e];exact .nil _)
  exact this
 rcases ht with rfl|rfl
 ·refine key s ?_ ?_
  ·rcases hc with rfl|rfl<;>exact h
  ·rcases hc with rfl|rfl<;>rcases hr with rfl|rfl<;>rcases hs with rfl|rfl<;>rfl
 ·refine key 1 ?_ ?_
  ·rcases hc with rfl|rfl<;>exact h1
  ·rcases hc with rfl|rfl<;>rcases hr with rfl|rfl<;>rcases hs with rfl|rfl<;>rfl
theorem qD{w:List Int}(h:Ww dw.eQ w):∃t:Int,(t=0\/t=1)/\Wd dw.eK 0 t w/\Wd dw.eK 1 1 w:=by
 induction h with
 |nil=>exact⟨0,.inl rfl,.nil _,.nil _⟩
 |aR w i i0 i1 _ _=>have i1:i<0:=i1;omega
 |al w u c r c0 c1 r0 r1 _ _ lZ mM=>
  obtain⟨t,ht,hw,GL⟩:=lZ;obtain⟨s,hs,hu,xG⟩:=mM;refine⟨yb t c s r,?_,hw.app (Lk ht hs c0 c1 r0 r1 hu xG),?_⟩
  ·unfold yb;split
   ·exact .inr rfl
   ·split
    ·exact .inr rfl
    ·split
     ·exact .inl rfl
     ·exact .inr rfl
  ·have:=GL.app (Lk (t:=1) (.inr rfl) hs c0 c1 r0 r1 hu xG)
   exact this
theorem tN{w:List Int}{s t:Int}(h:Wd dw.eK 0 s w) (g:Wd dw.eK 0 t w):s=t:=h.qt u7.m0 g
theorem u9{w u:List Int}{t s c r:Int}(hw:Wd dw.eK 0 t w) (hu:Wd dw.eK 0 s u) (c0:0<=c) (c1:c<2) (r0:0<=r) (r1:r<2):Wd dw.eK 0 (yb t c s r) (w++c::(u ++ [2+0+r])):=by
 obtain⟨t', ht,uo, _⟩:=qD hw.ww;obtain⟨s', hs,se, xG⟩:=qD hu.ww;rw[tN hw uo, tN hu se];exact uo.app (Lk ht hs c0 c1 r0 r1 se xG)
theorem xt{w:List Int}{t:Int}(h:Wd dw.eK 0 t w):dw.cj w↔t=0:=by
 have:=aoC u7 (n:=dw) (w:=w) (t:=t) h;rw[this];obtain⟨t', ht,uo, _⟩:=qD h.ww;rw[tN h uo];rcases ht with rfl|rfl<;>decide
theorem AF{u v:List Int}{s t:Int}(hu:Wd dw.eK 0 s u) (hv:Wd dw.eK 0 t v):jS dw.eQ dw.cj u v↔s=t:=by
 constructor
 ·intro h
  have:=h.acc;rw[xt hu,xt hv]at this;obtain⟨s', hs,se, _⟩:=qD hu.ww;obtain⟨t', ht,Gs, _⟩:=qD hv.ww;have e1:=tN hu se;have e2:=tN hv Gs;omega
 ·intro e hs
  have back:∀{u v:List Int},Sep dw.eQ dw.cj u v->∀s t,Wd dw.eK 0 s u->Wd dw.eK 0 t v->s ≠ t:=by
   intro u v hs
   induction hs with
   |acc u v h=>
    intro s t hu hv e;subst e;exact h (by rw[xt hu,xt hv])
   |aR u v i i0 i1 _ _=>have i1:i<0:=i1;omega
   |bl u v y c r c0 c1 r0 r1 hy _ ih=>
    intro s t hu hv e;subst e;obtain⟨x,_,hx,_⟩:=qD hy;exact ih _ _ (u9 hu hx c0 c1 r0 r1) (u9 hv hx c0 c1 r0 r1) rfl
   |br u v y c r c0 c1 r0 r1 hy _ ih=>
    intro s t hu hv e;subst e;obtain⟨x,_,hx,_⟩:=qD hy;exact ih _ _ (u9 hx hu c0 c1 r0 r1) (u9 hx hv c0 c1 r0 r1) rfl
  exact back hs _ _ hu hv e
theorem qV:Wd dw.eK 0 1 [0,3]:=u9 (w:=[]) (u:=[]) (t:=0) (s:=0) (c:=0) (r:=1) (.nil _) (.nil _) (by omega) (by omega) (by omega) (by omega)
theorem F6:iE dw.eQ dw.cj [[],[0,3]]:=by
 refine⟨?_,λw hw=>?_,λw hw v hv ha=>?_,λv hv=>?_⟩
 ·simp;decide
 ·rcases cD.1 hw with rfl|hw
  ·exact .nil
  ·simp at hw;subst hw;exact qV.ww
 ·rcases cD.1 hw with rfl|hw
  ·unfold aW
   split
   ·omega
   ·split
    ·rename_i h;simp at h
    ·cases v with
     |nil=>decide
     |cons a v=>rename_i h _;simp at h
  ·simp at hw
   subst hw;obtain⟨t,ht,Mk,_⟩:=qD hv;have:=(AF qV Mk).1 ha;subst this;cases hv with
   |nil=>have:=tN Mk (.nil 0);omega
   |aR w i i0 i1 _=>have i1:i<0:=i1;omega
   |al w u c r c0 c1 r0 r1 hw hu=>
    by_cases hl:w=[]/\u=[]
    ·obtain⟨rfl,rfl⟩:=hl
     have:=tN Mk (u9 (.nil 0) (.nil 0) c0 c1 r0 r1);have c1:c<2:=c1;have r1:r<2:=r1;rcases vV c0 c1 with rfl|rfl<;>rcases vV r0 r1 with rfl|rfl
     ·simp[yb]at this
     ·decide
     ·decide
     ·simp[yb]at this
    ·have hlen:2<(w++c::(u ++ [dw.eQ.c+dw.eQ.i+r])).length:=by
      simp only[bz,cy,dF];cases w with
      |nil=>cases u with
       |nil=>exact absurd ⟨rfl,rfl⟩ hl
       |cons a u=>simp<;>omega
      |cons a w=>simp<;>omega
     unfold aW;rw[ae (by simpa using hlen)];omega
 ·obtain⟨t,ht,Mk,_⟩:=qD hv
  rcases ht with rfl|rfl
  ·exact⟨[],by simp,(AF Mk (.nil 0)).2 rfl⟩
  ·exact⟨[0,3],by simp,(AF Mk qV).2 rfl⟩
theorem aoD{w:List Int}{t:Int}(h:Wd dw.eK 0 t w):gS dw.eQ dw.cj [[],[0,3]] w=t:=by
 obtain⟨t', ht,uo, _⟩:=qD h.ww;have e:=tN h uo;subst e;rcases ht with rfl|rfl
 ·exact xp F6 h.ww (by omega) (by simp) ((AF h (.nil 0)).2 rfl)
 ·exact xp F6 h.ww (by omega) (by simp) ((AF h qV).2 rfl)
theorem Ll:cR dw.eQ dw.cj [[],[0,3]]=rX:=by
 have h0:Wd dw.eK 0 0 []:=.nil 0;have R:∀{w u:List Int} {t s:Int},Wd dw.eK 0 t w->Wd dw.eK 0 s u->∀c r:Int,0<=c->c<2->0<=r->r<2->gS dw.eQ dw.cj [[],[0,3]] (w++c::(u ++ [2+0+r]))=yb t c s r:=λhw hu c r c0 c1 r0 r1=>aoD (u9 hw hu c0 c1 r0 r1);have L0:dw.cj []:=(xt h0).2 rfl;have L1:¬dw.cj [0,3]:=λh=>by have:=(xt qV).1 h;omega
 have w0:ix ([[],[0,3]]:List (List Int)) 0=[]:=rfl;have w1:ix ([[],[0,3]]:List (List Int)) 1=[0,3]:=rfl;refine ak.ext' rfl rfl rfl rfl rfl ?_ rfl rfl rfl ?_
 ·show[@decide (dw.cj []) (Classical.propDecidable _),@decide (dw.cj [0,3]) (Classical.propDecidable _)]=[true,false]
  rw[@decide_eq_true _ (Classical.propDecidable _) L0,@decide_eq_false _ (Classical.propDecidable _) L1]
 ·have P:∀(i g r:Nat),i<2->g<4->r<2->(if dw.eQ.c.toNat=0 then(0:Int)else gS dw.eQ dw.cj [[],[0,3]] (ix ([[],[0,3]]:List (List Int)) ((g/dw.eQ.c.toNat:Nat):Int)++((g%dw.eQ.c.toNat:Nat):Int)::(ix ([[],[0,3]]:List (List Int)) (i:Int) ++ [dw.eQ.c+dw.eQ.i+(r:Int)])))=yb ((g/2:Nat):Int) ((g%2:Nat):Int) (i:Int) (r:Int):=λi g r hi hg hr=>by
   have W:∀k:Nat,k<2->Wd dw.eK 0 (k:Int) (ix ([[],[0,3]]:List (List Int)) (k:Int)):=λk hk=>by
    have:k=0\/k=1:=by omega
    rcases this with rfl|rfl
    ·exact h0
    ·exact qV
   rw[ab (by decide)]
   show gS dw.eQ dw.cj [[],[0,3]] (ix ([[],[0,3]]:List (List Int)) ((g/2:Nat):Int)++((g%2:Nat):Int)::(ix ([[],[0,3]]:List (List Int)) (i:Int) ++ [2+0+(r:Int)]))=_;exact R (W (g/2) (by omega)) (W i hi) _ _ (by omega) (by omega) (by omega) (by omega)
  show(List.range 2).map (λ(i:Nat)=>(List.range 4).map λ(g:Nat)=>(List.range 2).map λ(r:Nat)=>if dw.eQ.c.toNat=0 then(0:Int)else gS dw.eQ dw.cj [[],[0,3]] (ix ([[],[0,3]]:List (List Int)) ((g/dw.eQ.c.toNat:Nat):Int)++((g%dw.eQ.c.toNat:Nat):Int)::(ix ([[],[0,3]]:List (List Int)) (i:Int) ++ [dw.eQ.c+dw.eQ.i+(r:Int)])))=_
  rw[gk (g:=λ(i:Nat)=>(List.range 4).map λ(g:Nat)=>(List.range 2).map λ(r:Nat)=>yb ((g/2:Nat):Int) ((g%2:Nat):Int) (i:Int) (r:Int)) λi hi=>gk λg hg=>gk λr hr=>P i g r (cA.1 hi) (cA.1 hg) (cA.1 hr)]
  decide
theorem V8:kT dw [[],[0,3]]:=⟨u7,F6,by decide,by decide⟩
theorem aoE:rX.cj=dw.cj:=by rw[<-Ll];exact V8.cj
end Ab
