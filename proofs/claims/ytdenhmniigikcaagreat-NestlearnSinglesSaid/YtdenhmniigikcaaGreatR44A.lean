/- Sorted words, by the document; and what it leans on. Condition: none. -/
import Derived.Test.YtdenhmniigikcaaGreatS44U
import Derived.Test.YtdenhmniigikcaaGreatInts
set_option linter.all false
set_option maxRecDepth 100000
set_option maxHeartbeats 4000000
namespace Ab
def atP (l:List (List Int)) (w:List Int) (k:Nat):Prop:=k<=l.length/\(∀j:Nat,j<k->aI (ix l (j:Int)) w<0)/\∀j:Nat,k<=j->j<l.length->0<=aI (ix l (j:Int)) w
variable{l:List (List Int)}
def VI(h:pX l){i j:Nat}(a:i<j) (b:j<l.length):aI (ix l (i:Int)) (ix l (j:Int))<0:=by
 rw[pX,Dp,qm]at h;have:=h i j aa b a
 rwa [<-aB aa,<-aB b]at this
variable{w:List Int}
def VJ{u v:List Int}(h:aI u v<0) (k:aI v w<=0):aI u w<0:=by
 have b:=cC.trans u v w aa k
 by_cases e:aI u w=0
 .have a :=cC.eq u w e
  subst a;have:=cC.fL u v;omega
 .omega
def aor(h:pX l){k:Nat}(u:atP l w k) (d:¬(k<l.length/\ix l (k:Int)=w)):pX (l.take k++w::l.drop k):=by
 obtain⟨B,x,p⟩:=u;have q:∀v∈l.take k,aI v w<0:=λv g=>by
  obtain⟨j,m,rfl⟩:=eL.1 g;have n : j<min k l.length:=by simpa using m
  have:=x j aa
  rw[aB aa]at this
  simpa using this
 have r:∀v∈l.drop k,aI w v<0:=λv g=>by
  obtain⟨j,m,rfl⟩:=eL.1 g;have n : j<l.length-k:=by simpa using m
  have y:=p (k+j) aa aa
  have z:¬aI (ix l ((k+j:Nat):Int)) w=0:=λe=>by
   have e:=cC.eq _ _ e
   by_cases A:j=0
   .subst A;exact d ⟨aa,e⟩
   .have:=VI h (i:=k) (j:=k+j) aa aa
    rw[e]at this;have:=p k aa aa
    omega
  have:=cC.fL w (ix l ((k+j:Nat):Int));rw[aB aa]at y z this
  rw[List.getElem_drop];omega
 rw[pX,Dp,List.pairwise_append,ku];refine⟨h.take,⟨r,h.drop⟩,λa s b o=>?_⟩;rcases b5.1 o with rfl|o
 .exact q a s
 .exact VJ (q a s) (by have:=r b o;omega)
structure yg where
 step:List Int
 VK:Int
 deriving Inhabited
abbrev yg.av (l:yg):AV:=.agg [iL l.step,.int l.VK]
structure yg.fits (l:yg):Prop where
 len:(l.step.length:Int)<=9223372036854775807
 st:∀x∈l.step,-9223372036854775808<=x/\x<=9223372036854775807
 rs : -9223372036854775808<=l.VK/\l.VK<=9223372036854775807
def VL (x:Int):Bool:=decide (x<0)||decide (1048576<x)
def yg.bad (l:yg):Bool:=VL l.VK||l.step.any VL
def yg.steps (l:yg) (w:List Int):Int:=w.foldl (λn a=>n+ix l.step a) 0
def yg.cost (l:yg) (w:List Int):Int×Int:=if(l.step.length:Int)<1\/64<(l.step.length:Int)\/l.bad=true then(0,2)else if kD w l.step.length ≠ 0 then(0,kD w l.step.length)else(l.VK+l.steps w,0)
def yg.sum (l:yg) (ws:List (List Int)):Int:=ws.foldl (λn w=>n+(l.cost w).1) 0
inductive F2 {α β:Type} (R:α->β->Prop):List α->List β->Prop
 |nil:F2 R [] []
 |cons {a b as bs}:R a b->F2 R as bs->F2 R (a::as) (b::bs)
variable{α β:Type}
def F2.imp{R S:α->β->Prop}(h:∀a b,R a b->S a b){as:List α}{bs:List β}(k:F2 R as bs):F2 S as bs:=by
 induction k with
 |nil=>exact .nil
 |cons h1 _ ih=>exact .cons (h _ _ h1) ih
def F2.len{R:α->β->Prop}{as:List α}{bs:List β}(k:F2 R as bs):as.length=bs.length:=by
 induction k with
 |nil=>rfl
 |cons h1 _ ih=>simp[ih]
def F2.bJ{α β:Type}{f:α->Option β}{as:List α}{bs:List β}(k:F2 (λa b=>f a=some b) as bs):Ab.bJ f as=some bs:=by
 induction k with
 |nil=>rfl
 |cons h1 _ ih=>simp only[Ab.bJ,h1,ih]
def F2.map{γ:Type}{R:α->β->Prop}{f:β->γ}{as:List α}{bs:List β}(k:F2 R as bs):F2 (λa c=>∃b,R a b/\c=f b) as (bs.map f):=by
 induction k with
 |nil=>exact .nil
 |cons h1 _ ih=>exact .cons ⟨_,h1,rfl⟩ ih
def RW (r:List al) (X:Nat) (c:AV) (w:List Int):Prop:=(c = .aF true []/\w=[])\/(w ≠ []/\∃b,b ≠ X/\c = .sl (b+1) w.length 0 w.length/\aq r b=some ⟨none,w.map .int,.live⟩)
def RG (r:List al) (X:Nat) (c:AV) (g:List (List Int)):Prop:=∃b cs,b ≠ X/\c = .sl (b+1) g.length 0 g.length/\aq r b=some ⟨none,cs,.live⟩/\F2 (RW r X) cs g
variable{r:List al}{b:Nat}{B:al}
def VM:aq r b=some B->b<r.length:=by
 induction r generalizing b with
 |nil=>intro h;cases b<;>simp[aq]at h
 |cons x r a=>
  cases b with
  |zero=>intro _;simp
  |succ b=>intro h;have:=a h;simp;omega
def aos{l:List al}:aq r b=some B->aq (r++l) b=some B:=by
 induction r generalizing b with
 |nil=>intro h;cases b<;>simp[aq]at h
 |cons x r a=>
  cases b with
  |zero=>exact id
  |succ b=>exact a
variable{r': List al}{X X': Nat}{c:AV}
def RW.mono{r: List al}(h:RW r X c w) (hb:∀b B,b ≠ X->aq r b=some B->aq r' b=some B) (hx:X' = X\/r.length<=X'):RW r' X' c w:=by
 rcases h with h|⟨h0,b,h1,h2,h3⟩
 .exact .inl h
 .refine .inr ⟨h0,b,?_,h2,hb _ _ h1 h3⟩
  rcases hx with rfl|hx
  .exact h1
  .have:=VM h3;omega
def RG.mono{r: List al}{g:List (List Int)}(h:RG r X c g) (hb:∀b B,b ≠ X->aq r b=some B->aq r' b=some B) (hx:X' = X\/r.length<=X'):RG r' X' c g:=by
 obtain⟨b,cs,h1,h2,h3,h4⟩:=h;refine⟨b,cs,?_,h2,hb _ _ h1 h3,h4.imp λa w k=>k.mono hb hx⟩;rcases hx with rfl|hx
 .exact h1
 .have:=VM h3;omega
def aot{σ:List al}{fr:Bool}{k n:Nat}{cs ys:List AV}{st:fb}(h:aq σ b=some ⟨none,cs,st⟩) (a:st.fG=true) (d:n=cs.length) (e:F2 (λc y=>view σ fr k c=some y) cs ys):view σ fr (k+1) (.sl b n 0 n)=some (.aF false ys):=by
 subst d;have g:upto σ b cs.length=some ⟨none,cs,st⟩:=by
  unfold upto;rw[h];cases st<;>simp at a ⊢
 unfold view;simp only[g,aM,ow,gX,Nat.mul_one,bd,dD];rw[Ka (bd _),e.bJ]
theorem RW.seen{X:Nat}(h:RW r X c w) (B:al){k:Nat}:view (B::r) false (k+2) c=some (iL w):=by
 rcases h with⟨rfl,rfl⟩|⟨h0,b,_,rfl,h1⟩
 .rfl
 .exact dQ (k:=k+1) (f:=.int) (g:=.int) (st:=.live) (xs:=w) h1 ab rfl λ_ _=>rfl
def F2.get{R:α->β->Prop}{as:List α}{bs:List β}(k:F2 R as bs):∀{i:Nat}{a:α}{b:β},as[i]? = some a->bs[i]? = some b->R a b:=by
 induction k with
 |nil=>intro i a b h;simp at h
 |cons h1 _ ih=>
  intro i a b h h';cases i with
  |zero=>simp at h h'; subst h h'; exact h1
  |succ i=>exact ih cq (by simpa using h')
def F2.take{R:α->β->Prop}{as:List α}{bs:List β}(k:F2 R as bs):∀(n:Nat),F2 R (as.take n) (bs.take n):=by
 induction k with
 |nil=>intro n;simp;exact .nil
 |cons h1 _ ih=>
  intro n;cases n with
  |zero=>exact .nil
  |succ n=>exact .cons h1 (ih n)
def F2.drop{R:α->β->Prop}{as:List α}{bs:List β}(k:F2 R as bs):∀(n:Nat),F2 R (as.drop n) (bs.drop n):=by
 induction k with
 |nil=>intro n;simp;exact .nil
 |cons h1 h2 ih=>
  intro n;cases n with
  |zero=>exact .cons h1 h2
  |succ n=>exact ih n
def F2.app{R:α->β->Prop}{as cs:List α}{bs ds:List β}(k:F2 R as bs) (h:F2 R cs ds):F2 R (as++cs) (bs++ds):=by
 induction k with
 |nil=>exact h
 |cons h1 _ ih=>exact .cons h1 ih
def SL (r:List al) (cells:List AV) (l:List (List Int)):Prop:=F2 (RW r r.length) cells l
variable{cells:List AV}
def SL.seen(h:SL r cells l):view (⟨none,cells,.live⟩::r) false vd (.sl 0 cells.length 0 cells.length)=some (b8 l):=by
 refine aot (k:=11) (st:=.live) rfl ab rfl ?_
 exact h.map.imp λc y ⟨w,k1,k2⟩=>by subst k2;exact k1.seen _
def SL.more{l2:List al}(h:SL r cells l):SL (r++l2) cells l:=F2.imp (λa b k=>k.mono (λb B _=>aos) (.inr ab)) h
structure Tr where
 MN:List Int
 out:List Int
 deriving Inhabited
abbrev Tr.av (t:Tr):AV:=.agg [iL t.MN,iL t.out]
def okT (t:Tr):Prop:=XG t.MN/\XG t.out
structure yh where
 cA:Int
 traces:List Tr
 deriving Inhabited
abbrev yh.av (o:yh):AV:=.agg [.int o.cA,.aF false (o.traces.map Tr.av)]
structure yh.fits (o:yh):Prop where
 cA:kU o.cA=true
 len:(o.traces.length:Int)<=9223372036854775807
 tr:∀t∈o.traces,okT t
structure yh.Ok (o:yh):Prop where
 len:(o.traces.length:Int)<=1000000
 MN:∀t∈o.traces,(t.MN.length:Int)<=1000000
 out:∀t∈o.traces,t.out.length=t.MN.length
def yh.at (o:yh) (w:List Int):Int:=idx (λt:Tr=>decide (w <+: t.MN)) o.traces
def yh.ans (o:yh) (w:List Int):List Int×Bool:=if w=[]then([],true)else if o.at w<0 then([],false)else((ix o.traces (o.at w)).out.take w.length,true)
def yh.open (o:yh) (qs:List (List Int)):List (List Int):=qs.filter λw=>!(o.ans w).2
def VN (ps:List (Bool×List Int)) (s:(ps.length:Int)<=1000000) (h:((ps.map (·.2)).flatten.length:Int)<=1000000):PC xb [.aF false (ps.map wB)]=some (iL (ps.map (·.2)).flatten):=by
 refine bZ (ajK rfl ?_);have hle:∀i:Nat,((ps.map (·.2)).take i).flatten.length<=(ps.map (·.2)).flatten.length:=λi=>by
  have e:((ps.map (·.2)).take i).flatten++((ps.map (·.2)).drop i).flatten=(ps.map (·.2)).flatten:=by rw[<-List.flatten_append,nm]
  rw[<-e];simp
 have n:(ps.map (·.2)).length=ps.length:=ab
 have o:∀i:Nat,i<ps.length->ix (ps.map (·.2)) (i:Int)=(ix ps (i:Int)).2:=λi d=>by rw[aB (by simp;exact d),aB d];simp
 generalize ps.map (·.2)=a at *;simp;refine aK (λi:Nat=>[(1,.int i),(2,.sl 0 ((a.take i).flatten).length 0 ((a.take i).flatten).length)]) (λi=>[bp (a.take i).flatten]) (λi=>i<=ps.length) (λi=>ps.length-i) 0 aX aa ?_
 intro i u
 by_cases d:i<ps.length
 .have l:(a.take (i+1)).flatten=(a.take i).flatten++(ix ps (i:Int)).2:=by
   rw[nh,db aa,<-o i d,aB aa,List.flatten_append];simp
  have q:=hle (i+1);rw[l]at q;generalize (a.take i).flatten=F at *;rw[aU]at q
  by_cases j:(ix ps (i:Int)).2=[]
  .have m:(a.take (i+1)).flatten=F:=by rw[l,j];simp
   rcases xe (ix ps (i:Int))with⟨g,_⟩|g
   .simp[-aj,-List.length_flatten,d,g]
    refine⟨by split<;>simp,aa,aa,aD (i+1) (by rw[m];simp[-List.length_flatten]) (by rw[m]) aa aa⟩
   .rw[j]at g
    simp[-aj,-List.length_flatten,d,g];refine⟨by split<;>simp,aa,aa,aD (i+1) (by rw[m];simp[-List.length_flatten]) (by rw[m]) aa aa⟩
  .have g:wB (ix ps (i:Int))=iL (ix ps (i:Int)).2:=(xe _).resolve_left λh=>j h.2
   simp[-aj,-List.length_flatten,d,j,g];refine⟨by split<;>simp,aa,aa,aD (i+1) (by rw[l];simp[-List.length_flatten]) (by rw[l];simp[-List.length_flatten,j]) aa aa⟩
 .have ei:i=ps.length:=by omega
  subst ei;rw[<-n,List.take_length];have r:=Dc (σ:=[bp a.flatten]) (b:=0) rfl;have p:¬a.length<ps.length:=aa
  simp[-List.length_flatten,r,p]
def xw (f:Bool) (o:Option (List Int)):AV:=match o with
 |none=>if f=true then .ag else iL []
 |some w=>wB (f,w)
def cw2 (f:Bool) (o:Option (List Int)):List AV:=[.bool o.isSome,xw f o]
def cE (N:Nat) (T:TO) (s:Nat):List AV:=(List.range N).flatMap λ(t:Nat)=>cw2 true (T (s:Int) (t:Int))
section
variable{N s t:Nat}{T:TO}
end
structure E6 (n:ao) (T:TO) (s t:Int) (o:Option (List Int)) (ws:List (List Int)) (Q:List Int->Prop):Prop where
 e:o=Av (T s t) ws
 c:∀w∈ws,MI n.eA T s t w
 a:∀w,Q w->w∈ws
variable{Q': List Int->Prop}
def E6.add{n:ao}{T:TO}{s t:Int}{o:Option (List Int)}{ws:List (List Int)}{Q:List Int->Prop}(h:E6 n T s t o ws Q){w:List Int}(hw:MI n.eA T s t w)(hq:∀v,Q' v->Q v\/v=w):E6 n T s t (MJ o w) (ws ++ [w]) Q' :=by
 refine⟨by rw[anU,<-h.e],λv hv=>?_,λv hv=>?_⟩
 .rcases cY.1 hv with hv|hv
  .exact h.c v hv
  .simp at hv;rw[hv];exact hw
 .rcases hq v hv with hv|hv
  .exact cY.2 (.inl (h.a v hv))
  .rw[hv];simp
def E6.imp{n:ao}{T:TO}{s t:Int}{o:Option (List Int)}{ws:List (List Int)}{Q:List Int->Prop}(h:E6 n T s t o ws Q)(hq:∀v,Q' v->Q v):E6 n T s t o ws Q' :=⟨h.e,h.c,λv hv=>h.a v (hq v hv)⟩
def E6.len{n:ao}{T:TO}(hT:Va n.eA T){s t:Int}(hs:dI n.eA s) (ht:dI n.eA t){o:Option (List Int)}{ws:List (List Int)}{Q:List Int->Prop}(h:E6 n T s t o ws Q){x:List Int}(hx:o=some x):x.length<=1024:=by
 rw[h.e]at hx;rcases Vb hx with hx|⟨_,hx⟩
 .exact(hT s t x hs ht hx).2
 .exact hx
def VO (k N:Nat):List AV:=(List.range k).map λs=>.sl (2+s) (2*N) 0 N
def AA (k:Nat):fb:=if k=0 then .gN else .live
def lm (n:ao) (T:TO) (k:Nat) (Ai:List al):List al:=⟨some 10,n.cs,.live⟩::⟨none,VO k n.accept.length,AA k⟩::((List.range k).map (λs=>(⟨some 2,cE n.accept.length T s,.live⟩:al))++Ai)
section
variable{n:ao}{T:TO}{k:Nat}{Ai:List al}
end
section
variable{n:ao}{s:Nat}{D:List AV}
end
def msE:Nat:=1026
def ms (o:Option (List Int)):Nat:=match o with
 |none=>65^msE
 |some w=>dS w
def S1 (N:Nat) (f:Nat->Nat):Nat:=((List.range N).map f).sum
def VP (N:Nat) (T:TO):Nat:=S1 N λs=>S1 N λt=>ms (T (s:Int) (t:Int))
structure TI (n:ao) (T:TO):Prop where
 ok:Va n.eA T
 d:∀s,dI n.eA s->T s s=some []
structure Gt (n:ao) (T0 T:TO) (ch:Bool):Prop where
 ti:TI n T
 no:ch=false->T=T0
 yes:ch=true->VP n.accept.length T<VP n.accept.length T0
section
variable{n:ao}{T:TO}{s t:Int}{o:Option (List Int)}{ws:List (List Int)}
def Va.sy (hn:n.Ok) (hT:Va n.eA T) (hs:dI n.eA s) (ht:dI n.eA t){w:List Int}(h:T s t=some w):Ab.sy w:=(hT s t w hs ht h).1.sy (aol hn)
end
structure BfD (n:ao) (t:Nat) (o:Option (List Int)):Prop where
 so:∀w,o=some w->∃u,dI n.eA u/\ix n.accept u=true/\n.eA.lk n.start u=some w
 le:∀u:Nat,u<t->ix n.accept (u:Int)=true->∀v,n.eA.lk n.start (u:Int)=some v->∃w,o=some w/\dS w<=dS v
def vj (K:Nat) (R:List (List Int)):List al:=⟨none,(List.range R.length).map λi=>.sl (1+i) K 0 K,AA R.length⟩::R.map bp
section
variable{K:Nat}{R:List (List Int)}
def Lz:(vj K R).length=1+R.length:=by simp[vj];omega
theorem AB{l:List al}:aq (vj K R++l) 0=some ⟨none,(List.range R.length).map λi=>.sl (1+i) K 0 K,AA R.length⟩:=rfl
def LA{r:List Int}:ar (vj K R ++ [bp r]) 0 ⟨none,((List.range R.length).map λi=>AV.sl (1+i) K 0 K) ++ [.sl (1+R.length) K 0 K],.live⟩=vj K (R ++ [r]):=by
 unfold vj AA;simp[ar,jh]
end
def D0{α:Type} [BEq α] [LawfulBEq α] [Inhabited α]:∀{l:List α}{x:α}{i:Nat},i<l.length->ix l (i:Int)=x->(∀j:Nat,j<i->ix l (j:Int) ≠ x)->l.idxOf x=i
 | [],_,_,h,_,_=>by simp at h
 |a::l,x,0,h,b,d=>by
  have:a=x:=b;simp[List.idxOf_cons,this]
 |a::l,x,i+1,h,b,d=>by
  have m:a ≠ x:=d 0 aa
  have e:∀j:Nat,j<l.length->ix (a::l) ((j+1:Nat):Int)=ix l (j:Int):=λj g=>by
   rw[aB ax,aB g];rfl
  simp at h;have n:=D0 (l:=l) (x:=x) (i:=i) aa (by rw[<-e i aa];exact b) λj g=>by rw[<-e j aa];exact d (j+1) aa
  have o:(a==x)=false:=by simpa using m
  rw[List.idxOf_cons,o,n];rfl
def VQ{α:Type} [BEq α] [LawfulBEq α] [Inhabited α]{l:List α}{x:α}(b:∀j:Nat,j<l.length->ix l (j:Int) ≠ x):l.idxOf x=l.length:=by
 refine uB λd=>?_;obtain⟨j,a,e⟩:=eL.1 d;exact b j a (by rw[aB a];exact e)
def D1 (l:List Int) (x:Int) (h:(l.length:Int)<=1000000):L w4 [iL l,.int x] []=some (.int ((l.idxOf x:Nat):Int),[]):=by
 refine jP (ajM rfl ?_);simp;refine aK (λi:Nat=>[(2,.int i)]) (λ_=>[]) (λi=>i<=l.length/\∀j:Nat,j<i->ix l (j:Int) ≠ x) (λi=>l.length-i) 0 aX ⟨aa,λj g=>aa⟩ ?_
 rintro i ⟨m,b⟩
 by_cases d:i<l.length
 .by_cases a:ix l (i:Int)=x
  .have:=D0 d a b
   simp[-aj,d,a,this]
  .simp[-aj,d,a]
   exact⟨aa,aD (i+1) ab rfl ⟨aa,λj g=>by by_cases e:j=i;(subst e;exact a);exact b j aa⟩ aa⟩
 .have e:i=l.length:=by omega
  subst e;have:=VQ b;simp[-aj,this]
def LC (l:List (List Int)) (x:List Int) (o:(l.length:Int)<=1000000) (h:∀r∈l,(r.length:Int)<=1000000) (p:(x.length:Int)<=1000000):L zH [b8 l,iL x] []=some (.int ((l.idxOf x:Nat):Int),[]):=by
 refine jP (ajF rfl ?_);simp;refine aK (λi:Nat=>[(2,.int i)]) (λ_=>[]) (λi=>i<=l.length/\∀j:Nat,j<i->ix l (j:Int) ≠ x) (λi=>l.length-i) 0 aX ⟨aa,λj m=>aa⟩ ?_
 rintro i ⟨q,d⟩
 by_cases g:i<l.length
 .have a:=VB (ix l (i:Int)) x (by have:=h _ (aJ (l:=l) (n:=(i:Int)) aa aa);omega) aa
  by_cases b:ix l (i:Int)=x
  .have:=D0 g b d
   rw[mf b]at a;simp[-aj,g,a,this]
  .rw[oq b]at a
   simp[-aj,g,a];exact⟨aa,aD (i+1) ab rfl ⟨aa,λj m=>by by_cases e:j=i;(subst e;exact b);exact d j aa⟩ aa⟩
 .have e:i=l.length:=by omega
  subst e;have:=VQ d;simp[-aj,this]
def AD{f:Nat}{a:List AV}{n:Int}(h:L f a []=some (.int n,[])):PC f a=some (.int n):=by unfold PC rW;rw[h];rfl
def fU (l:List Int) (x:Int):List Int:=if x∈l then l else l ++ [x]
def ao.bz (n:ao):List Int:=n.call.flatten.foldl fU [n.start]
def aou{x:Int}{l:List Int}:(fU l x).length<=l.length+1:=by unfold fU;split<;>simp
def LD:∀{xs l:List Int},(xs.foldl fU l).length<=l.length+xs.length
 | [],l=>by simp
 |x::xs,l=>by
  have:=LD (xs:=xs) (l:=fU l x);have:=aou (x:=x) (l:=l);simp only[jW,cO];omega
def aov (n:ao) (g:n.Ok):PC JG [n.av]=some (iL n.bz):=by
 refine bZ (ajD rfl ?_);have K:=g.lens;have L:=Kg g.zV;have q:=g.calls;obtain⟨C,M⟩:=gM q.1;have y:n.call.length<=128:=by have:=g.eU;omega
 have hle:∀i:Nat,(n.call.take i).flatten.length<=n.call.flatten.length:=λi=>by
  have e:(n.call.take i).flatten++(n.call.drop i).flatten=n.call.flatten:=by rw[<-List.flatten_append,nm]
  rw[<-e];simp
 have u:∀(l:List Int) (k:Nat),k=l.length->view [Zb l] false vd (.sl 0 k 0 k)=some (iL l):=λl k e=>by subst e;exact nU rfl rfl rfl
 simp[-aj];refine aK (λi:Nat=>[(2,.int i),(4,.sl 0 ((n.call.take i).flatten.foldl fU [n.start]).length 0 ((n.call.take i).flatten.foldl fU [n.start]).length)]) (λi=>[Zb ((n.call.take i).flatten.foldl fU [n.start])]) (λi=>i<=n.call.length) (λi=>n.call.length-i) 0 aX aa ?_
 intro i N
 by_cases z:i<n.call.length
 .have d :=az (show(i:Int)<(n.accept.length:Int)by omega)
  have A:=(g.row (i:Int) aa aa).1
  have E:(n.call.take (i+1)).flatten=(n.call.take i).flatten++ix n.call (i:Int):=by rw[gx z];simp
  have f0:=LD (xs:=(n.call.take i).flatten) (l:=[n.start]);have f1:=hle i;generalize F:(n.call.take i).flatten.foldl fU [n.start]=B at *;simp only[List.length_singleton]at f0;have G:B.length<=8193:=aa
  generalize H:ix n.call (i:Int)=R at *;simp[-aj,d];refine aK (λc:Nat=>[(3,.int c),(4,.sl 0 ((R.take c).foldl fU B).length 0 ((R.take c).foldl fU B).length)]) (λc=>[Zb ((R.take c).foldl fU B)]) (λc=>c<=R.length) (λc=>R.length-c) 0 aX aa ?_
  intro c O
  by_cases r:c<R.length
  .have b :=az (show(c:Int)<n.calls by omega)
   have h : ix n.call (i:Int)=R:=H;have I:=LD (xs:=R.take c) (l:=B);have tk:=gx r;have a:(R.take (c+1)).foldl fU B=fU ((R.take c).foldl fU B) (ix R (c:Int)):=by rw[tk,List.foldl_append];rfl
   generalize (R.take c).foldl fU B=D at *;simp only[og]at I;have J:(D.length:Int)<=10000:=aa
   have w:=D1 D (ix R (c:Int)) aa
   have o:=u D D.length rfl;have j:=az (show(i:Int)<(n.call.length:Int)by omega)
   by_cases p:ix R (c:Int)∈D
   .have m:=List.idxOf_lt_length_iff.2 p
    have s:=bX (show ¬((D.idxOf (ix R (c:Int)):Nat):Int)=(D.length:Int)by omega)
    rw[show fU D (ix R (c:Int))=D from ae p]at a;simp[-aj,b, j,h, r,o,w,s];exact⟨aa,aD (c+1) (by rw[a];simp) (by rw[a]) aa aa⟩
   .have m:=uB p
    rw[show fU D (ix R (c:Int))=D ++ [ix R (c:Int)]from ad p]at a;simp[-aj,b, j,h, r,o,w,m];exact⟨aa,aa,aD (c+1) (by rw[a];simp) (by rw[a];simp) aa aa⟩
  .have b :=bX (show ¬(c:Int)<n.calls by omega)
   have e:R.take c=R:=eZ aa
   rw[e];simp[-aj,b];have x:(n.call.take (i+1)).flatten.foldl fU [n.start]=R.foldl fU B:=by rw[E,List.foldl_append,F]
   exact⟨aa,aD (i+1) (by rw[x];simp) (by rw[x]) aa aa⟩
 .have d :=bX (show ¬(i:Int)<(n.accept.length:Int)by omega)
  have e:n.call.take i=n.call:=eZ aa
  rw[e];have o:=u n.bz n.bz.length rfl;simp[-aj,d];show aS (view [Zb n.bz] false vd (.sl 0 n.bz.length 0 n.bz.length)) _;rw[o]
  rfl
end Ab
