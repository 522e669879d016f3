/- The time of words; and what it leans on. Condition: none. -/
import Derived.Test.YtdenhmniigikcaaGreatN44N
import Derived.Test.YtdenhmniigikcaaGreatFrz
import Derived.Test.YtdenhmniigikcaaGreatS44U
import Derived.Test.YtdenhmniigikcaaGreatInts
set_option linter.all false
set_option maxRecDepth 100000
set_option maxHeartbeats 4000000
namespace Ab
structure xQ where
 step:List Int
 Vm:Int
 deriving Inhabited
abbrev xQ.av (l:xQ):AV:=.agg [iL l.step,.int l.Vm]
structure xQ.fits (l:xQ):Prop where
 len:(l.step.length:Int)<=9223372036854775807
 st:∀x∈l.step,-9223372036854775808<=x/\x<=9223372036854775807
 rs : -9223372036854775808<=l.Vm/\l.Vm<=9223372036854775807
def Vn (x:Int):Bool:=decide (x<0)||decide (1048576<x)
def xQ.bad (l:xQ):Bool:=Vn l.Vm||l.step.any Vn
def xQ.steps (l:xQ) (w:List Int):Int:=w.foldl (λn a=>n+ix l.step a) 0
def xQ.cost (l:xQ) (w:List Int):Int×Int:=if(l.step.length:Int)<1\/64<(l.step.length:Int)\/l.bad=true then(0,2)else if kl w l.step.length ≠ 0 then(0,kl w l.step.length)else(l.Vm+l.steps w,0)
def xQ.sum (l:xQ) (ws:List (List Int)):Int:=ws.foldl (λn w=>n+(l.cost w).1) 0
inductive F2 {α β:Type} (R:α->β->Prop):List α->List β->Prop
 |nil:F2 R [] []
 |cons {a b as bs}:R a b->F2 R as bs->F2 R (a::as) (b::bs)
theorem F2.imp{α β:Type}{R S:α->β->Prop}(h:∀a b,R a b->S a b){as:List α}{bs:List β}(k:F2 R as bs):F2 S as bs:=by
 induction k with
 |nil=>exact .nil
 |cons h1 _ ih=>exact .cons (h _ _ h1) ih
theorem F2.len{α β:Type}{R:α->β->Prop}{as:List α}{bs:List β}(k:F2 R as bs):as.length=bs.length:=by
 induction k with
 |nil=>rfl
 |cons h1 _ ih=>simp[ih]
theorem F2.bV{α β:Type}{f:α->Option β}{as:List α}{bs:List β}(k:F2 (λa b=>f a=some b) as bs):Ab.bV f as=some bs:=by
 induction k with
 |nil=>rfl
 |cons h1 _ ih=>simp only[Ab.bV,h1,ih]
theorem F2.map{α β γ:Type}{R:α->β->Prop}{f:β->γ}{as:List α}{bs:List β}(k:F2 R as bs):F2 (λa c=>∃b,R a b/\c=f b) as (bs.map f):=by
 induction k with
 |nil=>exact .nil
 |cons h1 _ ih=>exact .cons ⟨_,h1,rfl⟩ ih
def RW (r:List ag) (X:Nat) (c:AV) (w:List Int):Prop:=(c = .aE true []/\w=[])\/(w ≠ []/\∃b,b ≠ X/\c = .sl (b+1) w.length 0 w.length/\ak r b=some ⟨none,w.map .int,.live⟩)
def RG (r:List ag) (X:Nat) (c:AV) (g:List (List Int)):Prop:=∃b cs,b ≠ X/\c = .sl (b+1) g.length 0 g.length/\ak r b=some ⟨none,cs,.live⟩/\F2 (RW r X) cs g
theorem Vo{r:List ag}{b:Nat}{B:ag}:ak r b=some B->b<r.length:=by
 induction r generalizing b with
 |nil=>intro h;cases b<;>simp[ak]at h
 |cons x r ih=>
  cases b with
  |zero=>intro _;simp
  |succ b=>intro h;have:=ih h;simp;omega
theorem ann{r l:List ag}{b:Nat}{B:ag}:ak r b=some B->ak (r++l) b=some B:=by
 induction r generalizing b with
 |nil=>intro h;cases b<;>simp[ak]at h
 |cons x r ih=>
  cases b with
  |zero=>exact id
  |succ b=>exact ih
theorem RW.mono{r r' : List ag}{X X' : Nat}{c:AV}{w:List Int}(h:RW r X c w) (hb:∀b B,b ≠ X->ak r b=some B->ak r' b=some B) (hx:X' = X\/r.length<=X'):RW r' X' c w:=by
 rcases h with h|⟨h0,b,h1,h2,h3⟩
 ·exact .inl h
 ·refine .inr ⟨h0,b,?_,h2,hb _ _ h1 h3⟩
  rcases hx with rfl|hx
  ·exact h1
  ·have:=Vo h3;omega
theorem RG.mono{r r' : List ag}{X X' : Nat}{c:AV}{g:List (List Int)}(h:RG r X c g) (hb:∀b B,b ≠ X->ak r b=some B->ak r' b=some B) (hx:X' = X\/r.length<=X'):RG r' X' c g:=by
 obtain⟨b,cs,h1,h2,h3,h4⟩:=h;refine⟨b,cs,?_,h2,hb _ _ h1 h3,h4.imp λa w k=>k.mono hb hx⟩;rcases hx with rfl|hx
 ·exact h1
 ·have:=Vo h3;omega
theorem ano{σ:List ag}{fr:Bool}{b k n:Nat}{cs ys:List AV}{st:eo}(h:ak σ b=some ⟨none,cs,st⟩) (hs:st.gw=true) (hn:n=cs.length) (hf:F2 (λc y=>view σ fr k c=some y) cs ys):view σ fr (k+1) (.sl b n 0 n)=some (.aE false ys):=by
 subst hn;have hu:upto σ b cs.length=some ⟨none,cs,st⟩:=by
  unfold upto;rw[h];cases st<;>simp at hs ⊢
 unfold view;simp only[hu,aC,nI,jf,Nat.mul_one,bw,dC];rw[Jg (bw _),hf.bV]
theorem RW.seen{r:List ag}{X:Nat}{c:AV}{w:List Int}(h:RW r X c w) (B:ag){k:Nat}:view (B::r) false (k+2) c=some (iL w):=by
 rcases h with⟨rfl,rfl⟩|⟨h0,b,_,rfl,h1⟩
 ·rfl
 ·exact gu (k:=k+1) (f:=.int) (g:=.int) (st:=.live) (xs:=w) h1 (by simp) rfl λ_ _=>rfl
theorem F2.get{α β:Type}{R:α->β->Prop}{as:List α}{bs:List β}(k:F2 R as bs):∀{i:Nat}{a:α}{b:β},as[i]? = some a->bs[i]? = some b->R a b:=by
 induction k with
 |nil=>intro i a b h;simp at h
 |cons h1 _ ih=>
  intro i a b h h';cases i with
  |zero=>simp at h h'; subst h h'; exact h1
  |succ i=>exact ih (by simpa using h) (by simpa using h')
theorem F2.take{α β:Type}{R:α->β->Prop}{as:List α}{bs:List β}(k:F2 R as bs):∀(n:Nat),F2 R (as.take n) (bs.take n):=by
 induction k with
 |nil=>intro n;simp;exact .nil
 |cons h1 _ ih=>
  intro n;cases n with
  |zero=>exact .nil
  |succ n=>exact .cons h1 (ih n)
theorem F2.drop{α β:Type}{R:α->β->Prop}{as:List α}{bs:List β}(k:F2 R as bs):∀(n:Nat),F2 R (as.drop n) (bs.drop n):=by
 induction k with
 |nil=>intro n;simp;exact .nil
 |cons h1 h2 ih=>
  intro n;cases n with
  |zero=>exact .cons h1 h2
  |succ n=>exact ih n
theorem F2.app{α β:Type}{R:α->β->Prop}{as cs:List α}{bs ds:List β}(k:F2 R as bs) (h:F2 R cs ds):F2 R (as++cs) (bs++ds):=by
 induction k with
 |nil=>exact h
 |cons h1 _ ih=>exact .cons h1 ih
def SL (r:List ag) (cells:List AV) (l:List (List Int)):Prop:=F2 (RW r r.length) cells l
theorem SL.seen{r:List ag}{cells:List AV}{l:List (List Int)}(h:SL r cells l):view (⟨none,cells,.live⟩::r) false vd (.sl 0 cells.length 0 cells.length)=some (cK l):=by
 refine ano (k:=11) (st:=.live) rfl (by simp) rfl ?_
 exact h.map.imp λc y ⟨w,k1,k2⟩=>by subst k2;exact k1.seen _
theorem SL.more{r l2:List ag}{cells:List AV}{l:List (List Int)}(h:SL r cells l):SL (r++l2) cells l:=F2.imp (λa b k=>k.mono (λb B _=>ann) (.inr (by simp))) h
structure Tr where
 Lx:List Int
 out:List Int
 deriving Inhabited
abbrev Tr.av (t:Tr):AV:=.agg [iL t.Lx,iL t.out]
def okT (t:Tr):Prop:=Wu t.Lx/\Wu t.out
structure xR where
 cz:Int
 traces:List Tr
 deriving Inhabited
abbrev xR.av (o:xR):AV:=.agg [.int o.cz,.aE false (o.traces.map Tr.av)]
structure xR.fits (o:xR):Prop where
 cz:kZ o.cz=true
 len:(o.traces.length:Int)<=9223372036854775807
 tr:∀t∈o.traces,okT t
structure xR.Ok (o:xR):Prop where
 len:(o.traces.length:Int)<=1000000
 Lx:∀t∈o.traces,(t.Lx.length:Int)<=1000000
 out:∀t∈o.traces,t.out.length=t.Lx.length
def xR.at (o:xR) (w:List Int):Int:=idx (λt:Tr=>decide (w <+: t.Lx)) o.traces
def xR.ans (o:xR) (w:List Int):List Int×Bool:=if w=[]then([],true)else if o.at w<0 then([],false)else((ix o.traces (o.at w)).out.take w.length,true)
def xR.open (o:xR) (qs:List (List Int)):List (List Int):=qs.filter λw=>!(o.ans w).2
def xw (f:Bool) (o:Option (List Int)):AV:=match o with
 |none=>if f=true then .ah else iL []
 |some w=>wB (f,w)
def cw2 (f:Bool) (o:Option (List Int)):List AV:=[.bool o.isSome,xw f o]
def cC (N:Nat) (T:TO) (s:Nat):List AV:=(List.range N).flatMap λ(t:Nat)=>cw2 true (T (s:Int) (t:Int))
section
variable{N s t:Nat}{T:TO}
end
structure GH (n:ao) (T:TO) (s t:Int) (o:Option (List Int)) (ws:List (List Int)) (Q:List Int->Prop):Prop where
 e:o=Aj (T s t) ws
 c:∀w∈ws,Ls n.eV T s t w
 a:∀w,Q w->w∈ws
theorem GH.add{n:ao}{T:TO}{s t:Int}{o:Option (List Int)}{ws:List (List Int)}{Q:List Int->Prop}(h:GH n T s t o ws Q){w:List Int}(hw:Ls n.eV T s t w){Q' : List Int->Prop}(hq:∀v,Q' v->Q v\/v=w):GH n T s t (Lt o w) (ws ++ [w]) Q' :=by
 refine⟨by rw[amQ,<-h.e],λv hv=>?_,λv hv=>?_⟩
 ·rcases eI.1 hv with hv|hv
  ·exact h.c v hv
  ·simp at hv;rw[hv];exact hw
 ·rcases hq v hv with hv|hv
  ·exact eI.2 (.inl (h.a v hv))
  ·rw[hv];simp
theorem GH.imp{n:ao}{T:TO}{s t:Int}{o:Option (List Int)}{ws:List (List Int)}{Q:List Int->Prop}(h:GH n T s t o ws Q){Q' : List Int->Prop}(hq:∀v,Q' v->Q v):GH n T s t o ws Q' :=⟨h.e,h.c,λv hv=>h.a v (hq v hv)⟩
theorem GH.len{n:ao}{T:TO}(hT:UG n.eV T){s t:Int}(hs:dB n.eV s) (ht:dB n.eV t){o:Option (List Int)}{ws:List (List Int)}{Q:List Int->Prop}(h:GH n T s t o ws Q){x:List Int}(hx:o=some x):x.length<=1024:=by
 rw[h.e]at hx;rcases UH hx with hx|⟨_,hx⟩
 ·exact(hT s t x hs ht hx).2
 ·exact hx
def Vp (k N:Nat):List AV:=(List.range k).map λs=>.sl (2+s) (2*N) 0 N
def stK (k:Nat):eo:=if k=0 then .jN else .live
def lm (n:ao) (T:TO) (k:Nat) (zX:List ag):List ag:=⟨some 10,n.cs,.live⟩::⟨none,Vp k n.accept.length,stK k⟩::((List.range k).map (λs=>(⟨some 2,cC n.accept.length T s,.live⟩:ag))++zX)
section
variable{n:ao}{T:TO}{k:Nat}{zX:List ag}
end
section
variable{n:ao}{s:Nat}{D:List AV}
end
def msE:Nat:=1026
def ms (o:Option (List Int)):Nat:=match o with
 |none=>65^msE
 |some w=>fw w
def S1 (N:Nat) (f:Nat->Nat):Nat:=((List.range N).map f).sum
def Vq (N:Nat) (T:TO):Nat:=S1 N λs=>S1 N λt=>ms (T (s:Int) (t:Int))
structure TI (n:ao) (T:TO):Prop where
 ok:UG n.eV T
 d:∀s,dB n.eV s->T s s=some []
structure Gt (n:ao) (T0 T:TO) (ch:Bool):Prop where
 ti:TI n T
 no:ch=false->T=T0
 yes:ch=true->Vq n.accept.length T<Vq n.accept.length T0
section
variable{n:ao}{T:TO}{s t:Int}{o:Option (List Int)}{ws:List (List Int)}
theorem UG.sy (hn:n.Ok) (hT:UG n.eV T) (hs:dB n.eV s) (ht:dB n.eV t){w:List Int}(h:T s t=some w):Ab.sy w:=(hT s t w hs ht h).1.sy (ani hn)
end
structure BfD (n:ao) (t:Nat) (o:Option (List Int)):Prop where
 so:∀w,o=some w->∃u,dB n.eV u/\ix n.accept u=true/\n.eV.lk n.start u=some w
 le:∀u:Nat,u<t->ix n.accept (u:Int)=true->∀v,n.eV.lk n.start (u:Int)=some v->∃w,o=some w/\fw w<=fw v
theorem anp (aw:PC wK []=some (.bool true)) (n:ao) (h:n.fits):PC Qd [n.av]=some (.bool true):=by
 refine cW (aht rfl ?_);have hS:=anc n h;cases hs:n.mS with
 |false=>rw[hs]at hS;simp[hS,aw]
 |true=>
  rw[hs]at hS;obtain⟨⟨x,e⟩,hq,q1,q2⟩:=Kx n h λhv=>anl hs hv
  by_cases hv:n.bO=0
  case neg=>
   have:=q1 hv;injection this with ex ee
   subst ex ee;simp[hS,hq,hv,aw]
  obtain⟨ws,hR,GI⟩:=q2 hv
  by_cases he:e=0
  case neg=>simp[hS,hq,he,aw]
  by_cases hlen:10<(x.accept.length:Int)
  ·simp[hS,hq,he,hlen,aw]
  have sr : ¬10<x.accept.length:=by omega
  subst he;have hx:=anm (A:=n.eD) (L:=n.cp) (ws:=ws) (by rw[<-GI])
  rw[<-GI]at hx;obtain⟨hx,h1,h2,h3⟩:=hx;have hx:x=cO n.eD n.cp ws:=hx;have hA:kQ n ws:=⟨tm hv,hR,h1,h2⟩;have hf:=Kn hA.o (Ky hA.ok.eD h1 h2).2;have hxo:x.Ok:=by rw[hx];exact hA.o
  have vc:=UU hxo;rw[<-hx]at hf;have Vr:x.bj.length<=1:=by
   refine tq 1 ES λs hs=>?_;rcases rK.1 hs with rfl|⟨r,hr,hsr⟩
   ·rw[hx];exact⟨Int.le_refl _,by show(0:Int)<_;omega⟩
   ·rw[hx]at hr
    have hr:r∈List.replicate ws.length (List.replicate n.calls.toNat (0:Int)):=hr;rw[List.eq_of_mem_replicate hr]at hsr;rw[List.eq_of_mem_replicate hsr];omega
  have anq:x.accept.length^x.bj.length<=512:=by
   have:x.accept.length<=10:=by omega
   have h3:x.accept.length^x.bj.length<=10^x.bj.length:=Nat.pow_le_pow_left this _;have h4:10^x.bj.length<=10^1:=Nat.pow_le_pow_right (by omega) Vr
   omega
  obtain⟨⟨y,f⟩,hqy,_,q2y⟩:=Kx x hf λ_=>anq;obtain⟨vs,hRv,hqv⟩:=q2y vc;have ea:x.eD=n.eD:=by rw[hx];rfl
  have el:x.cp=n.cp:=by rw[hx];exact hA.cp
  rw[ea,el]at hRv hqv;have ev:=hRv.qK hR;rw[ev,<-GI]at hqv;injection hqv with ey ef
  subst ey ef;have hb:y.Vc:=by rw[hx];exact(Ky hA.ok.eD h1 h2).1
  have hN:=Ve y y hb hb;rw[Ku.2 rfl]at hN;simp[hS,hq,hlen,sr, hqy,hN,aw]
theorem anr{n:ao}(hn:n.Ok){w:List Int}{t:Int}(ht:Wd n.eV n.start t w):n.cp w↔ix n.accept t=true:=⟨λ⟨t', ja, ny⟩=>by rw[ht.qK hn.m0 ja];exact ny, λh=>⟨t,ht,h⟩⟩
def du:ao:=⟨2,0,2,2,0,[true,false],[[0,0],[1,1]],[[0,1],[0,0]],[[],[]],[[[0,1],[1,0]],[[1,1],[1,1]]]⟩
def rU:ao:=⟨2,0,2,4,0,[true,false],[[0,0],[0,0]],[[0,1],[2,3]],[[],[]],[[[0,1],[1,0],[1,1],[1,1]],[[1,1],[1,1],[1,1],[1,1]]]⟩
theorem GJ:du.bO=0:=by decide
theorem Vs:rU.bO=0:=by decide
theorem uY:du.Ok:=tm GJ
theorem Vt:rU.Ok:=tm Vs
def xS (t c s r:Int):Int:=if t=1 then 1 else if s=1 then 1 else if c=r then 0 else 1
theorem vR{x:Int}(h0:0<=x) (h1:x<2):x=0\/x=1:=by omega
theorem Kz{t c s r:Int}{u:List Int}(ht:t=0\/t=1) (hs:s=0\/s=1) (c0:0<=c) (c1:c<2) (r0:0<=r) (r1:r<2) (h:Wd du.eV 0 s u) (h1:Wd du.eV 1 1 u):Wd du.eV t (xS t c s r) (c::(u ++ [2+0+r])):=by
 have hc:=vR c0 c1;have hr:=vR r0 r1;have key:∀p,Wd du.eV (du.eV.call t c).1 p u->du.eV.pop p (du.eV.call t c).2 r=xS t c s r->Wd du.eV t (xS t c s r) (c::(u ++ [2+0+r])):=λp hp e=>by
  have:=Wd.call (M:=du.eV) t c p r (xS t c s r) u [] c0 c1 r0 r1 hp (by rw[e];exact .nil _)
  exact this
 rcases ht with rfl|rfl
 ·refine key s ?_ ?_
  ·rcases hc with rfl|rfl<;>exact h
  ·rcases hc with rfl|rfl<;>rcases hr with rfl|rfl<;>rcases hs with rfl|rfl<;>rfl
 ·refine key 1 ?_ ?_
  ·rcases hc with rfl|rfl<;>exact h1
  ·rcases hc with rfl|rfl<;>rcases hr with rfl|rfl<;>rcases hs with rfl|rfl<;>rfl
theorem qz{w:List Int}(h:Ww du.eD w):∃t:Int,(t=0\/t=1)/\Wd du.eV 0 t w/\Wd du.eV 1 1 w:=by
 induction h with
 |nil=>exact⟨0,.inl rfl,.nil _,.nil _⟩
 |aQ w i i0 i1 _ _=>have i1:i<0:=i1;omega
 |ak w u c r c0 c1 r0 r1 _ _ lV mI=>
  obtain⟨t,ht,hw,I6⟩:=lV;obtain⟨s,hs,hu,xx⟩:=mI;refine⟨xS t c s r,?_,hw.app (Kz ht hs c0 c1 r0 r1 hu xx),?_⟩
  ·unfold xS;split
   ·exact .inr rfl
   ·split
    ·exact .inr rfl
    ·split
     ·exact .inl rfl
     ·exact .inr rfl
  ·have:=I6.app (Kz (t:=1) (.inr rfl) hs c0 c1 r0 r1 hu xx)
   exact this
theorem tJ{w:List Int}{s t:Int}(h:Wd du.eV 0 s w) (g:Wd du.eV 0 t w):s=t:=h.qK uY.m0 g
theorem uZ{w u:List Int}{t s c r:Int}(hw:Wd du.eV 0 t w) (hu:Wd du.eV 0 s u) (c0:0<=c) (c1:c<2) (r0:0<=r) (r1:r<2):Wd du.eV 0 (xS t c s r) (w++c::(u ++ [2+0+r])):=by
 obtain⟨t', ht,ui, _⟩:=qz hw.ww;obtain⟨s', hs,r9, xx⟩:=qz hu.ww;rw[tJ hw ui, tJ hu r9];exact ui.app (Kz ht hs c0 c1 r0 r1 r9 xx)
theorem xj{w:List Int}{t:Int}(h:Wd du.eV 0 t w):du.cp w↔t=0:=by
 have:=anr uY (n:=du) (w:=w) (t:=t) h;rw[this];obtain⟨t', ht,ui, _⟩:=qz h.ww;rw[tJ h ui];rcases ht with rfl|rfl<;>decide
theorem Ar{u v:List Int}{s t:Int}(hu:Wd du.eV 0 s u) (hv:Wd du.eV 0 t v):jQ du.eD du.cp u v↔s=t:=by
 constructor
 ·intro h
  have:=h.acc;rw[xj hu,xj hv]at this;obtain⟨s', hs,r9, _⟩:=qz hu.ww;obtain⟨t', ht,FX, _⟩:=qz hv.ww;have e1:=tJ hu r9;have e2:=tJ hv FX;omega
 ·intro e hs
  have back:∀{u v:List Int},Sep du.eD du.cp u v->∀s t,Wd du.eV 0 s u->Wd du.eV 0 t v->s ≠ t:=by
   intro u v hs
   induction hs with
   |acc u v h=>
    intro s t hu hv e;subst e;exact h (by rw[xj hu,xj hv])
   |aQ u v i i0 i1 _ _=>have i1:i<0:=i1;omega
   |bl u v y c r c0 c1 r0 r1 hy _ ih=>
    intro s t hu hv e;subst e;obtain⟨x,_,hx,_⟩:=qz hy;exact ih _ _ (uZ hu hx c0 c1 r0 r1) (uZ hv hx c0 c1 r0 r1) rfl
   |br u v y c r c0 c1 r0 r1 hy _ ih=>
    intro s t hu hv e;subst e;obtain⟨x,_,hx,_⟩:=qz hy;exact ih _ _ (uZ hx hu c0 c1 r0 r1) (uZ hx hv c0 c1 r0 r1) rfl
  exact back hs _ _ hu hv e
theorem qR:Wd du.eV 0 1 [0,3]:=uZ (w:=[]) (u:=[]) (t:=0) (s:=0) (c:=0) (r:=1) (.nil _) (.nil _) (by omega) (by omega) (by omega) (by omega)
theorem FA:iy du.eD du.cp [[],[0,3]]:=by
 refine⟨?_,λw hw=>?_,λw hw v hv ha=>?_,λv hv=>?_⟩
 ·simp;decide
 ·rcases cB.1 hw with rfl|hw
  ·exact .nil
  ·simp at hw;subst hw;exact qR.ww
 ·rcases cB.1 hw with rfl|hw
  ·unfold aV
   split
   ·omega
   ·split
    ·rename_i h;simp at h
    ·cases v with
     |nil=>decide
     |cons a v=>rename_i h _;simp at h
  ·simp at hw
   subst hw;obtain⟨t,ht,Ly,_⟩:=qz hv;have:=(Ar qR Ly).1 ha;subst this;cases hv with
   |nil=>have:=tJ Ly (.nil 0);omega
   |aQ w i i0 i1 _=>have i1:i<0:=i1;omega
   |ak w u c r c0 c1 r0 r1 hw hu=>
    by_cases hl:w=[]/\u=[]
    ·obtain⟨rfl,rfl⟩:=hl
     have:=tJ Ly (uZ (.nil 0) (.nil 0) c0 c1 r0 r1);have c1:c<2:=c1;have r1:r<2:=r1;rcases vR c0 c1 with rfl|rfl<;>rcases vR r0 r1 with rfl|rfl
     ·simp[xS]at this
     ·decide
     ·decide
     ·simp[xS]at this
    ·have hlen:2<(w++c::(u ++ [du.eD.c+du.eD.i+r])).length:=by
      simp only[bu,cw,dD];cases w with
      |nil=>cases u with
       |nil=>exact absurd ⟨rfl,rfl⟩ hl
       |cons a u=>simp<;>omega
      |cons a w=>simp<;>omega
     unfold aV;rw[ab (by simpa using hlen)];omega
 ·obtain⟨t,ht,Ly,_⟩:=qz hv
  rcases ht with rfl|rfl
  ·exact⟨[],by simp,(Ar Ly (.nil 0)).2 rfl⟩
  ·exact⟨[0,3],by simp,(Ar Ly qR).2 rfl⟩
theorem ant{w:List Int}{t:Int}(h:Wd du.eV 0 t w):gN du.eD du.cp [[],[0,3]] w=t:=by
 obtain⟨t', ht,ui, _⟩:=qz h.ww;have e:=tJ h ui;subst e;rcases ht with rfl|rfl
 ·exact xh FA h.ww (by omega) (by simp) ((Ar h (.nil 0)).2 rfl)
 ·exact xh FA h.ww (by omega) (by simp) ((Ar h qR).2 rfl)
theorem KA:cO du.eD du.cp [[],[0,3]]=rU:=by
 have h0:Wd du.eV 0 0 []:=.nil 0;have R:∀{w u:List Int} {t s:Int},Wd du.eV 0 t w->Wd du.eV 0 s u->∀c r:Int,0<=c->c<2->0<=r->r<2->gN du.eD du.cp [[],[0,3]] (w++c::(u ++ [2+0+r]))=xS t c s r:=λhw hu c r c0 c1 r0 r1=>ant (uZ hw hu c0 c1 r0 r1);have L0:du.cp []:=(xj h0).2 rfl;have L1:¬du.cp [0,3]:=λh=>by have:=(xj qR).1 h;omega
 have w0:ix ([[],[0,3]]:List (List Int)) 0=[]:=rfl;have w1:ix ([[],[0,3]]:List (List Int)) 1=[0,3]:=rfl;refine ao.ext' rfl rfl rfl rfl rfl ?_ rfl rfl rfl ?_
 ·show[@decide (du.cp []) (Classical.propDecidable _),@decide (du.cp [0,3]) (Classical.propDecidable _)]=[true,false]
  rw[@decide_eq_true _ (Classical.propDecidable _) L0,@decide_eq_false _ (Classical.propDecidable _) L1]
 ·have P:∀(i g r:Nat),i<2->g<4->r<2->(if du.eD.c.toNat=0 then(0:Int)else gN du.eD du.cp [[],[0,3]] (ix ([[],[0,3]]:List (List Int)) ((g/du.eD.c.toNat:Nat):Int)++((g%du.eD.c.toNat:Nat):Int)::(ix ([[],[0,3]]:List (List Int)) (i:Int) ++ [du.eD.c+du.eD.i+(r:Int)])))=xS ((g/2:Nat):Int) ((g%2:Nat):Int) (i:Int) (r:Int):=λi g r hi hg hr=>by
   have W:∀k:Nat,k<2->Wd du.eV 0 (k:Int) (ix ([[],[0,3]]:List (List Int)) (k:Int)):=λk hk=>by
    have:k=0\/k=1:=by omega
    rcases this with rfl|rfl
    ·exact h0
    ·exact qR
   rw[aa (by decide)]
   show gN du.eD du.cp [[],[0,3]] (ix ([[],[0,3]]:List (List Int)) ((g/2:Nat):Int)++((g%2:Nat):Int)::(ix ([[],[0,3]]:List (List Int)) (i:Int) ++ [2+0+(r:Int)]))=_;exact R (W (g/2) (by omega)) (W i hi) _ _ (by omega) (by omega) (by omega) (by omega)
  show(List.range 2).map (λ(i:Nat)=>(List.range 4).map λ(g:Nat)=>(List.range 2).map λ(r:Nat)=>if du.eD.c.toNat=0 then(0:Int)else gN du.eD du.cp [[],[0,3]] (ix ([[],[0,3]]:List (List Int)) ((g/du.eD.c.toNat:Nat):Int)++((g%du.eD.c.toNat:Nat):Int)::(ix ([[],[0,3]]:List (List Int)) (i:Int) ++ [du.eD.c+du.eD.i+(r:Int)])))=_
  rw[gf (g:=λ(i:Nat)=>(List.range 4).map λ(g:Nat)=>(List.range 2).map λ(r:Nat)=>xS ((g/2:Nat):Int) ((g%2:Nat):Int) (i:Int) (r:Int)) λi hi=>gf λg hg=>gf λr hr=>P i g r (cy.1 hi) (cy.1 hg) (cy.1 hr)]
  decide
theorem Vu:kQ du [[],[0,3]]:=⟨uY,FA,by decide,by decide⟩
theorem anu:rU.cp=du.cp:=by rw[<-KA];exact Vu.cp
end Ab
