/- Lists that grow from nil, and are given away; and what it leans on. Condition: none. -/
import Derived.Test.YtcdccenbhiddcaaGreatGbf
import Derived.Test.YtcdccenbhiddcaaGreatMini
import Derived.Test.YtcdccenbhiddcaaGreatCan
set_option linter.all false
set_option maxRecDepth 100000
set_option maxHeartbeats 4000000
namespace Ab
abbrev cX (out:List (List Int)):aj:=⟨none,out.map iL,if out=[]then .fN else .live⟩
variable{σ:List aj}{b:Nat}
def A7{out:List (List Int)}(h:ay σ b=some (cX out)):view σ false vd (.sl b out.length 0 out.length)=some (aW out):=HJ (fr:=false) h dA rfl
abbrev fE (out:List Int):aj:=⟨none,out.map .int,if out=[]then .fN else .live⟩
def H5{out:List Int}(h:ay σ b=some (fE out)):view σ false vd (.sl b out.length 0 out.length)=some (iL out):=iU h dA rfl
def H6{σ:List aj}:∀(ws:List (List Int)) (acc:List Nat),(ws.map iL).foldl (λacc y=>reach σ 11 y acc) acc=acc
 | [],_=>rfl
 |w::ws,acc=>by simp only[bC,List.foldl_cons];exact H6 ws acc
variable{k:Nat}
def H7{vars:List AV}{fl:Option (Nat×AV)}{ws:List (List Int)}{Q:Ex->St->Prop}(a:nth vars k = .sl 0 ws.length 0 ws.length) (h:Q .c5 ⟨bD vars k (.aA (decide (ws ≠ [])) (ws.map iL)),fl,[⟨none,ws.map iL,.dead⟩]⟩):W L (.mW k) ⟨vars,fl,[cX ws]⟩ Q:=by
 have d:reach [cX ws] vd (.sl 0 ws.length 0 ws.length) []=[0]:=by
  show reach [cX ws] (11+1) (.sl 0 ws.length 0 ws.length) []=[0];unfold reach;simp only[List.contains_nil,cZ,dg,ay];exact H6 ws [0]
 have e:=A7 (σ:=[cX ws]) (b:=0) (out:=ws) rfl;have f:gg [cX ws] (.sl 0 ws.length 0 ws.length)=decide (ws ≠ []):=by
  have:upto [cX ws] 0 ws.length=some (cX ws):=by
   unfold upto
   by_cases h:ws=[]<;>simp[ay,h]
  simp only[gg,this]
  by_cases h:ws=[]<;>simp[h]
 refine⟨0,.c5,_,?_,h⟩;simp only[exec,a,d];have g:cr (λb=>!([0]:List Nat).contains b) 0 [cX ws]=[cX ws]:=by simp[cr]
 rw[g,e];simp only[f]
 by_cases h:ws=[]
 .simp[h,cr];rfl
 .simp[h,cr]
def X9 (m:ak) (d:m.Ok) (x s a:Int) (b:0<=s/\s<(m.next.length:Int)) (e:0<=a/\a<m.inputs):PC yT [.agg [.int m.inputs,.int x,aW m.next,aW m.out],.int s,.int a]=some (.bz [.int (ix (ix m.next s) a),.int (ix (ix m.out s) a)]):=by
 have f:=d.row s b.1 b.2;have g:=d.len;refine ba (WU rfl ?_);simp[b.1,b.2,e.1,e.2,f.1,f.2,show s<(m.out.length:Int)by omega]
def ak.outs (m:ak):Int->List Int->List Int
 |_,[]=>[]
 |s,a::w=>ix (ix m.out s) a::m.outs (ix (ix m.next s) a) w
def eZ{m:ak}:∀{u v:List Int}{s:Int},m.outs s (u++v)=m.outs s u++m.outs (m.run s u) v
 | [],_,_=>rfl
 |a::u,v,s=>by simp only[kU,ak.outs,ak.run,eZ (u:=u)]
def jD{m:ak}(d:m.Ok):∀{w:List Int}{s:Int},(0<=s/\s<(m.next.length:Int))->(∀x∈w,0<=x/\x<m.inputs)->0<=m.run s w/\m.run s w<(m.next.length:Int)
 | [],_,h,_=>h
 |a::w,s,h,b=>jD d (w:=w) (d.nx s a h.1 h.2 (b a ab).1 (b a ab).2) λx e=>b x (by simp[e])
abbrev ak.u9 (m:ak) (x s:Int):aj:=⟨some 5,[.int m.inputs,.int x,aW m.next,aW m.out,.int s],.live⟩
def jR{m:ak}:∀{w:List Int}{s:Int},(m.outs s w).length=w.length
 | [],_=>rfl
 |a::w,s=>by simp only[ak.outs,eO,jR (w:=w)]
def H8 (m:ak) (d:m.Ok) (x s:Int) (h:0<=s/\s<(m.next.length:Int)) (w:List Int) (B:(w.length:Int)<=1000000) (e:∀x∈w,0<=x/\x<m.inputs) :
  LX L yQ [.ptr 0 5 0,iL w] [m.u9 x s] (λv j=>v = .sl 1 w.length 0 w.length/\j=[m.u9 x (m.run s w),fE (m.outs s w)]):=by
 refine WQ rfl ?_;simp;refine a6 (λi:Nat=>[(2,.int i),(7,.sl 1 i 0 i)]) (λi=>[m.u9 x (m.run s (w.take i)),fE (m.outs s (w.take i))]) (λi=>i<=w.length) (λi=>w.length-i) 0 (by simp[b5,ak.run,ak.outs]) aa ?_
 intro i o
 by_cases f:i<w.length
 .have g:=Hw f
  have a:∀x∈w.take i,0<=x/\x<m.inputs:=λx p=>e x (List.mem_of_mem_take p);have q:=jD d h a;have r:=e _ (bt (l:=w) (n:=(i:Int)) aa aa)
  have b:=X9 m d x (m.run s (w.take i)) (ix w (i:Int)) q r;have u:(m.outs s (w.take i)).length=i:=by rw[jR,ji,Nat.min_eq_left aa]
  have y:m.run s (w.take (i+1))=ix (ix m.next (m.run s (w.take i))) (ix w (i:Int)):=by rw[g,iV];rfl
  have z:m.outs s (w.take (i+1))=m.outs s (w.take i) ++ [ix (ix m.out (m.run s (w.take i))) (ix w (i:Int))]:=by rw[g,eZ];rfl
  generalize m.outs s (w.take i)=O at *;generalize m.run s (w.take i)=R at *;simp[-ax,f,b,u];refine⟨dA,aa,aa,aL (i+1) ab (by rw[y,z];simp) aa aa⟩
 .have A:i=w.length:=by omega
  subst A;simp
def ak.from (m:ak) (s:Int) (w:List Int):List Int×Int×Int:=
 if m.ao ≠ 0 then([],0,m.ao)else if s<0\/(m.next.length:Int)<=s then([],0,2)else if cL w m.inputs ≠ 0 then([],0,cL w m.inputs)else(m.outs s w,m.run s w,0)
abbrev H9 (r:List Int×Int×Int):AV:=.bz [iL r.1,.int r.2.1,.int r.2.2]
def Ya (m:ak) (h:m.fits) (s:Int):PC yP [m.av,.int s]=some (.int (if m.ao ≠ 0 then m.ao else if s<0\/(m.next.length:Int)<=s then 2 else 0)):=by
 refine ba (WO rfl ?_)
 by_cases b:m.ao=0
 .by_cases d:s<0
  .simp[fD m h,b,d]
  .by_cases a:(m.next.length:Int)<=s
   .simp[fD m h,b,d,a]
   .simp[fD m h,b,d,a]
 .simp[fD m h,b]
variable{w:List Int}
def Ia{k:Int}(h:cL w k=0):(w.length:Int)<=1024/\∀x∈w,0<=x/\x<k:=by
 unfold cL at h;split at h
 .simp at h
 split at h
 .simp at h
 split at h
 .simp at h
 rename_i a b c;exact⟨aa,sA.1 (by simpa using c)⟩
def Yb (m:ak) (h:m.fits) (s:Int) (w:List Int) (n:(w.length:Int)<=9223372036854775807):PC yK [m.av,.int s,iL w]=some (H9 (m.from s w)):=by
 refine ba (WH rfl ?_);have d:=Ya m h s;have l:=Hv w m.inputs n
 by_cases a:m.ao=0
 .have o:=fQ a
  by_cases f:s<0\/(m.next.length:Int)<=s
  .rw[ae cV,ah f]at d
   have e:m.from s w=([],0,2):=by unfold ak.from;rw[ae cV,ah f]
   rw[e];simp[d]
  .rw[ae cV,ae f]at d
   by_cases g:cL w m.inputs=0
   .have e:m.from s w=(m.outs s w,m.run s w,0):=by unfold ak.from;rw[ae cV,ae f,ae eT]
    rw[e];have j:=Ia g;obtain⟨_,_,p,rfl,rfl⟩:=jz (H8 m o m.start s aa w aa j.2)
    have i:=H5 (σ:=[m.u9 m.start (m.run s w),fE (m.outs s w)]) (b:=1) (out:=m.outs s w) rfl;rw[jR]at i;simp[d,l,g,p,i]
   .have e:m.from s w=([],0,cL w m.inputs):=by unfold ak.from;rw[ae cV,ae f,ah g]
    rw[e];simp[d,l,g]
 .rw[ah a]at d
  have e:m.from s w=([],0,m.ao):=by unfold ak.from;rw[ah a]
  rw[e];simp[d,a]
variable{m:ak}{s:Int}
def Yc(a:m.ao=0)(b:0<=s/\s<(m.next.length:Int)):m.from s w=if cL w m.inputs ≠ 0 then([],0,cL w m.inputs)else(m.outs s w,m.run s w,0):=by
 unfold ak.from;rw[ae cV,ae aa]
def va{k:List Int}:∀{es:List (List Int)}{i n:Nat},kT k i es=some n->i<=n/\n<i+es.length/\es[n-i]? = some k
 | [],_,_,h=>by simp[kT]at h
 |e::es,i,n,h=>by
  unfold kT at h
  by_cases a:k=e
  .rw[ah a]at h
   simp at h;subst h a;simp
  .rw[ae a]at h
   obtain⟨d,f,b⟩:=va h;refine⟨aa,ai,?_⟩
   rw[show n-i=(n-(i+1))+1 by omega,List.getElem?_cons_succ]
   exact b
def A8{k:List Int}:∀{es:List (List Int)}{i:Nat},kT k i es=none->k∉es
 | [],_,_=>by simp
 |e::es,i,h=>by
  unfold kT at h
  by_cases a:k=e
  .rw[ah a]at h;simp at h
  .rw[ae a]at h
   simp[a,A8 h]
def qt{m:ak}{c:List Int}:∀{s:Nat},Can (bF m c s).2 (bF m c s).1.length/\(bF m c s).1.Nodup/\∀t:Nat,t<s->∃n:Nat,ix (bF m c s).2 (t:Int)=n/\(bF m c s).1[n]? = some (cJ m c (t:Int))
 |0=>⟨Can.nil,List.nodup_nil,λt h=>aa⟩
 |s+1=>by
  obtain⟨l,o,p⟩:=qt (m:=m) (c:=c) (s:=s);have q:=lj (m:=m) (c:=c) (s:=s);unfold bF;split
  .rename_i n f
   obtain⟨_,z,u⟩:=va f;refine⟨Can.old (k:=(bF m c s).1.length) l aa aa,o,λt w=>?_⟩
   by_cases e:t=s
   .subst e
    refine⟨n,?_,by simpa using u⟩
    have:((t:Nat):Int)=((bF m c t).2.length:Int):=by rw[q.1]
    rw[this,dH]
   .obtain⟨j,g,d⟩:=p t aa
    exact⟨j,by simp only;rw[a7 aa aa];exact g,d⟩
  .rename_i f
   have i:=A8 f;refine⟨by have:=Can.new l;simpa using this,?_,λt w=>?_⟩
   .rw[List.nodup_append]
    refine⟨o,ab,λa x b r=>?_⟩
    simp at r;subst r;exact λe=>i (e▸x)
   .by_cases e:t=s
    .subst e
     refine⟨(bF m c t).1.length,?_,ab⟩
     have:((t:Nat):Int)=((bF m c t).2.length:Int):=by rw[q.1]
     simp only;rw[this,dH]
    .obtain⟨j,g,d⟩:=p t aa
     refine⟨j,by simp only;rw[a7 aa aa];exact g,?_⟩
     obtain⟨y,A⟩:=cM.1 d;rw[dG y];exact d
variable{c:List Int}{i j:Nat}
def qu{s:Nat}(f:i<s) (g:j<s):ix (bF m c s).2 (i:Int)=ix (bF m c s).2 (j:Int)↔cJ m c (i:Int)=cJ m c (j:Int):=by
 obtain⟨_,h,d⟩:=qt (m:=m) (c:=c) (s:=s);obtain⟨n,l,a⟩:=d i f;obtain⟨k,o,b⟩:=d j g;rw[l,o];constructor
 .intro e
  have:n=k:=aa
  subst this;rw[a]at b;exact Option.some.inj b
 .intro e
  rw[e]at a;obtain⟨p,a⟩:=cM.1 a;obtain⟨q,b⟩:=cM.1 b;have:=(List.getElem_inj h).1 (a.trans b.symm);omega
def sO(a:m.Ok)(f:i<m.next.length) (g:j<m.next.length):cJ m c (i:Int)=cJ m c (j:Int)↔ix m.out (i:Int)=ix m.out (j:Int)/\(ix m.next (i:Int)).map (λt=>ix c t)=(ix m.next (j:Int)).map (λt=>ix c t):=by
 have l:=a.inputs;have n:=a.row (i:Int) aa aa
 have o:=a.row (j:Int) aa aa
 have e:∀s:Nat,s<m.next.length->cJ m c (s:Int)=(ix m.out (s:Int)++List.replicate (64-m.inputs.toNat) 0)++((ix m.next (s:Int)).map (λt=>ix c t)++List.replicate (64-m.inputs.toNat) 0):=λs p=>by
  have r:=a.row (s:Int) aa aa
  unfold cJ qs;rw[hJ aa,hJ aa]
 rw[e i f,e j g];constructor
 .intro h
  obtain⟨b,d⟩:=List.append_inj h ai
  exact⟨(List.append_inj b aa).1,(List.append_inj d ai).1⟩
 .rintro⟨b,d⟩
  rw[b,d]
def Cq (m:ak) (c:List Int):Prop:=∀i j:Nat,i<m.next.length->j<m.next.length->cJ m c (i:Int)=cJ m c (j:Int)->ix c (i:Int)=ix c (j:Int)
def Sep (m:ak) (c:List Int):Prop:=∀i j:Int,0<=i->i<m.next.length->0<=j->j<m.next.length->ix c i ≠ ix c j->∃w,(∀x∈w,0<=x/\x<m.inputs)/\m.outs i w ≠ m.outs j w
def Yd(f:m.Ok){d:List Int}(r:i<m.next.length) (s:j<m.next.length) (h:∀a b:Int,0<=a->a<m.next.length->0<=b->b<m.next.length->ix c a=ix c b->ix d a=ix d b) (e:(ix m.next (i:Int)).map (λt=>ix c t)=(ix m.next (j:Int)).map (λt=>ix c t)):(ix m.next (i:Int)).map (λt=>ix d t)=(ix m.next (j:Int)).map (λt=>ix d t):=by
 have u:=f.row (i:Int) aa aa
 have w:=f.row (j:Int) aa aa
 refine List.ext_getElem ai λn g p=>?_
 simp only[cP]at g p;have q :=List.getElem_of_eq e (i:=n) eT
 simp only[List.getElem_map]at q ⊢;have l:=f.nx (i:Int) (n:Int) aa aa aa aa
 have o:=f.nx (j:Int) (n:Int) aa aa aa aa
 rw[aK g]at l;rw[aK p]at o;exact h _ _ l.1 l.2 o.1 o.2 q
def Cq.step(hm:m.Ok)(h:Cq m c):Cq m (bF m c m.next.length).2:=by
 intro i j hi Y e;rw[qu hi Y];rw[sO hm hi Y]at e ⊢;refine⟨e.1,Yd hm hi Y (λa b a0 a1 b0 b1 hab=>?_) e.2⟩;obtain⟨a,rfl⟩:=dz a0;obtain⟨b,rfl⟩:=dz b0;exact h a b aa aa ((qu aa aa).1 hab)
def Sep.step(hm:m.Ok)(h:Sep m c):Sep m (bF m c m.next.length).2:=by
 intro i j i0 i1 j0 j1 e;obtain⟨i,rfl⟩:=dz i0;obtain⟨j,rfl⟩:=dz j0;have r1:=hm.row (i:Int) aa aa
 have r2:=hm.row (j:Int) aa aa
 rw[Ne,qu aa aa,sO hm aa aa,Classical.not_and_iff_not_or_not]at e
 rcases e with e|e
 .obtain⟨n,hn,Y⟩:∃n:Nat,(n:Int)<m.inputs/\ix (ix m.out (i:Int)) (n:Int) ≠ ix (ix m.out (j:Int)) (n:Int):=by
   refine jT λhc=>e (List.ext_getElem aa λn h1 h2=>?_)
   refine jT λhd=>hc ⟨n,aa,?_⟩
   rw[aK h1,aK h2];exact hd
  refine⟨[(n:Int)],ai,?_⟩
  simp only[ak.outs,ne_eq,List.cons.injEq,and_true];exact Y
 .obtain⟨n,hn,Y⟩:∃n:Nat,(n:Int)<m.inputs/\ix c (ix (ix m.next (i:Int)) (n:Int)) ≠ ix c (ix (ix m.next (j:Int)) (n:Int)):=by
   refine jT λhc=>e (List.ext_getElem ai λn h1 h2=>?_)
   refine jT λhd=>hc ⟨n,by simp at h1;omega,?_⟩
   simp only[cP]at h1 h2;rw[aK h1,aK h2];simpa using hd
  have n1:=hm.nx (i:Int) (n:Int) aa aa aa hn
  have n2:=hm.nx (j:Int) (n:Int) aa aa aa hn
  obtain⟨w,hw,ho⟩:=h _ _ n1.1 n1.2 n2.1 n2.2 Y;refine⟨(n:Int)::w,λx hx=>?_,λe=>ho ?_⟩
  .rcases bR.1 hx with rfl|hx
   .omega
   .exact hw x hx
  .simp only[ak.outs,List.cons.injEq]at e
   exact e.2
structure qP (m:ak) (c:List Int) (k:Nat):Prop where
 len:c.length=m.next.length
 can:Can c k
 sep:Sep m c
 fix:∀i j:Int,0<=i->i<m.next.length->0<=j->j<m.next.length->(ix c i=ix c j↔ix m.out i=ix m.out j/\(ix m.next i).map (λt=>ix c t)=(ix m.next j).map (λt=>ix c t))
def Ib{m:ak}(b:m.Ok):∀{f i:Nat}{c:List Int}{k:Nat},c.length=m.next.length->Can c k->Sep m c->Cq m c->m.next.length<f+k->∃q, qP m (lk m f i c k).1 q
 |0,i,c,k,g,d,_,_,r=>by have:=d.len;omega
 |f+1,i,c,k,g,d,l,n,r=>by
  obtain⟨o,y,z⟩:=qt (m:=m) (c:=c) (s:=m.next.length)
  have u:=lj (m:=m) (c:=c) (s:=m.next.length)
  have a:=o.ref d aa (λi j A B e=>n i j aa aa ((qu aa aa).1 e))
  unfold lk;rw[g]
  by_cases p:((bF m c m.next.length).1.length:Int)=(k:Int)
  .rw[ah p]
   rcases a with⟨e,_⟩|h
   .refine⟨k,g,d,l,λi j w i1 x C=>?_⟩
    obtain⟨i,rfl⟩:=dz w;obtain⟨j,rfl⟩:=dz x;rw[<-sO b aa aa,<-qu (s:=m.next.length) aa aa,e]
   .omega
  .rw[ae p]
   rcases a with⟨_,e⟩|h
   .omega
   .exact Ib b aa o (l.step b) (n.step b) aa
def Ic(b:m.Ok){x:Int}(h:(m.next.length:Int)<=x):∃k,qP m (eY m x).1 k:=by
 have d:=b.states;unfold eY;rw[show(min (max x 0) (m.next.length:Int)).toNat=m.next.length by omega]
 have a:∀i:Int,ix (List.replicate m.next.length (0:Int)) i=0:=λi=>by
  unfold ix;rw[gZ,List.getElem?_replicate];split<;>rfl
 obtain⟨n,f⟩:∃n,m.next.length=n+1:=⟨m.next.length-1,aa⟩
 have g:Can (List.replicate m.next.length 0) 1:=by rw[f];exact Can.sK n
 exact Ib b (k:=1) ab g (λi j _ _ _ _ e=>absurd ((a i).trans (a j).symm) e) (λi j _ _ _=>(a i).trans (a j).symm) aa
def ml (p:Nat->Nat) (v:Nat->Int) (O:List Int):Nat->List Int
 |0=>O
 |n+1=>(ml p v O n).set (p n) (v n)
def sP{p:Nat->Nat}{v:Nat->Int}{O:List Int}:∀{n:Nat},(ml p v O n).length=O.length
 |0=>rfl
 |n+1=>by simp[ml,sP]
def Ie{p:Nat->Nat}{v:Nat->Int}{O:List Int}:∀{n:Nat},(∀i j,i<n->j<n->p i=p j->i=j)->(∀i,i<n->p i<O.length)->∀i,i<n->ix (ml p v O n) (p i:Int)=v i
 |0,_,_,i,h=>by omega
 |n+1,f,b,i,h=>by
  unfold ml
  by_cases e:i=n
  .subst e
   have a:p i<((ml p v O i).set (p i) (v i)).length:=by simp[sP];exact b i h
   rw[aK a,List.getElem_set_self]
  .have g:=Ie (v:=v) (n:=n) (λi j l o=>f i j aa aa) (λi l=>b i aa) i aa
   have d:p n ≠ p i:=λm=>e (f i n h aa m.symm)
   have a:p i<(ml p v O n).length:=by rw[sP];exact b i h
   rw[aK cV,List.getElem_set_ne d,<-aK a]
   exact g
def A9{q:List Pl}(h:Bq m s q)(i1:i<q.length) (a:j<q.length) (e:(ix q (i:Int)).1=(ix q (j:Int)).1):i=j:=by
 have b:(q.map (·.1)).Nodup:=h.nd;rw[aK i1,aK a]at e;exact(List.getElem_inj (h₀:=by simpa using i1) (h₁:=cV) b).1 gX
def lp (P:List Pl) (n k:Nat):List Int:=ml (λi=>(ix P (i:Int)).1.toNat) (λi=>(i:Int)) (List.replicate n 0) k
def ak.num (m:ak):List Int:=lp (m.af m.start) m.next.length (m.af m.start).length
def ak.trim (m:ak):ak:=⟨m.inputs,0,(m.af m.start).map λp=>(ix m.next p.1).map λt=>ix m.num t,(m.af m.start).map λp=>ix m.out p.1⟩
def oJ(g:m.Ok)(l:i<(m.af m.start).length):ix m.num (ix (m.af m.start) (i:Int)).1=(i:Int):=by
 have o:=iW m g m.start g.start;have d:∀j:Nat,j<(m.af m.start).length->0<=(ix (m.af m.start) (j:Int)).1/\(ix (m.af m.start) (j:Int)).1<(m.next.length:Int):=λj r=>o.bq.fS _ (bt aa aa)
 have h:=Ie (p:=λi=>(ix (m.af m.start) (i:Int)).1.toNat) (v:=λi=>(i:Int)) (O:=List.replicate m.next.length 0) (n:=(m.af m.start).length) (λa b f q e=>A9 o.bq f q (by have:=d a f;have:=d b q;omega)) (λa f=>by have:=d a f;simp;omega) i l
 have s:=d i l;rw[show(((ix (m.af m.start) (i:Int)).1.toNat:Nat):Int)=(ix (m.af m.start) (i:Int)).1 by omega]at h
 exact h
def Ye:m.num.length=m.next.length:=by unfold ak.num lp;rw[sP];simp
variable{a:Int}
def Yf(b:m.Ok)(n:i<(m.af m.start).length)(f:0<=a/\a<m.inputs):∃k:Nat,k<(m.af m.start).length/\(ix (m.af m.start) (k:Int)).1=ix (ix m.next (ix (m.af m.start) (i:Int)).1) a:=by
 have d:=iW m b m.start b.start;obtain⟨g,j⟩:=d.run (i:Int) aa aa
 obtain⟨k,o,p,e,_⟩:=d.all ((ix (m.af m.start) (i:Int)).2 ++ [a]) (λx l=>by
  rcases cp.1 l with h|h
  .exact j x h
  .simp at h;rw[h];exact f)
 rw[iV,g]at e;exact⟨k.toNat,aa,by rw[show((k.toNat:Nat):Int)=k by omega];exact e⟩
def Ba{i:Int}(a:0<=i) (b:i<(m.af m.start).length):ix m.trim.next i=(ix m.next (ix (m.af m.start) i).1).map λt=>ix m.num t:=by
 unfold ak.trim;exact gz a b
def vc{i:Int}(a:0<=i) (b:i<(m.af m.start).length):ix m.trim.out i=ix m.out (ix (m.af m.start) i).1:=by
 unfold ak.trim;exact gz a b
def mm:m.trim.next.length=(m.af m.start).length:=by simp[ak.trim]
def Ig:m.trim.out.length=(m.af m.start).length:=by simp[ak.trim]
def Ih(b:m.Ok)(j:i<(m.af m.start).length)(d:0<=a/\a<m.inputs):∃k:Nat,k<(m.af m.start).length/\(ix (m.af m.start) (k:Int)).1=ix (ix m.next (ix (m.af m.start) (i:Int)).1) a/\ix (ix m.trim.next (i:Int)) a=(k:Int):=by
 have o:=iW m b m.start b.start;have f:=o.bq.fS _ (bt (l:=m.af m.start) (n:=(i:Int)) aa aa)
 have g:=b.row _ f.1 f.2;obtain⟨k,h,e⟩:=Yf b j d;refine⟨k,h,e,?_⟩;rw[Ba aa aa,gz d.1 aa,<-e]
 exact oJ b h
def oL(f:m.Ok):m.trim.Ok:=by
 have g:=iW m f m.start f.start;have hle:=g.bq.le;have o:=g.bq.pos;have q:=f.states;have p:=λ(s:Int) d b=>g.bq.fS _ (bt (l:=m.af m.start) (n:=s) d b);refine⟨f.inputs,by rw[mm];omega,by rw[mm];show(0:Int)<=0/\(0:Int)<_;omega,by rw[mm,Ig],?_,?_,?_⟩
 .intro s d b
  rw[mm]at b;rw[Ba d b,vc d b,cP];have:=p s d b;exact f.row _ this.1 this.2
 .intro s a d b h j
  rw[mm]at b ⊢;obtain⟨s,rfl⟩:=dz d;obtain⟨k,r,_,e⟩:=Ih f (i:=s) aa ⟨h,j⟩
  rw[e];omega
 .intro s a d b h j
  rw[mm]at b;rw[vc d b];have:=p s d b;exact f.ot _ a this.1 this.2 h j
def ve{m:ak}(d:m.Ok):∀{w:List Int}{i:Nat},i<(m.af m.start).length->(∀x∈w,0<=x/\x<m.inputs)->(∃k:Nat,k<(m.af m.start).length/\(ix (m.af m.start) (k:Int)).1=m.run (ix (m.af m.start) (i:Int)).1 w/\m.trim.run (i:Int) w=(k:Int))/\m.trim.outs (i:Int) w=m.outs (ix (m.af m.start) (i:Int)).1 w
 | [],i,b,_=>⟨⟨i,b,rfl,rfl⟩,rfl⟩
 |a::w,i,b,e=>by
  obtain⟨k,h,f,g⟩:=Ih d b (e a ab)
  obtain⟨⟨j,l,n,o⟩,p⟩:=ve d (w:=w) h (λx q=>e x (by simp[q]))
  refine⟨⟨j,l,?_,?_⟩,?_⟩
  .rw[n,f];rfl
  .show m.trim.run (ix (ix m.trim.next (i:Int)) a) w=_
   rw[g,o]
  .show ix (ix m.trim.out (i:Int)) a::m.trim.outs (ix (ix m.trim.next (i:Int)) a) w=ix (ix m.out (ix (m.af m.start) (i:Int)).1) a::m.outs (ix (ix m.next (ix (m.af m.start) (i:Int)).1) a) w
   rw[g,p,f,vc aa aa]
def Yg(a:m.Ok)(d:∀x∈w,0<=x/\x<m.inputs):m.trim.outs 0 w=m.outs m.start w:=by
 have b:=iW m a m.start a.start;have h:=(ve a (w:=w) (i:=0) (by have:=b.bq.pos;omega) d).2
 have e:(ix (m.af m.start) ((0:Nat):Int)).1=m.start:=by have:=b.bq.head;simp[this]
 rw[e]at h;exact h
def Yh(b:m.Ok)(h:0<=s) (e:s<m.trim.next.length):∃w,(∀x∈w,0<=x/\x<m.inputs)/\m.trim.run 0 w=s:=by
 rw[mm]at e;have a:=iW m b m.start b.start;obtain⟨l,f⟩:=a.run s h e;obtain⟨⟨k,n,g,o⟩,_⟩:=ve b (w:=(ix (m.af m.start) s).2) (i:=0) (by have:=a.bq.pos;omega) f
 refine⟨_,f,?_⟩;have p:(ix (m.af m.start) ((0:Nat):Int)).1=m.start:=by have:=a.bq.head;simp[this]
 rw[p,l]at g;have q:=A9 a.bq (i:=k) (j:=s.toNat) n aa (by rw[show((s.toNat:Nat):Int)=s by omega];exact g)
 have d : m.trim.run 0 (ix (m.af m.start) s).2=(k:Int):=o;rw[d, q];omega
def bc (t:ak) (c:List Int):Nat->List (List Int)×List (List Int)
 |0=>([],[])
 |s+1=>if ix c (s:Int)<((bc t c s).1.length:Int)then bc t c s else((bc t c s).1 ++ [(ix t.next (s:Int)).map λn=>ix c n],(bc t c s).2 ++ [ix t.out (s:Int)])
def ak.quo (t:ak) (c:List Int):ak:=⟨t.inputs,0,(bc t c c.length).1,(bc t c c.length).2⟩
variable{t:ak}
def Yi{C:List Int}(z:∀i j:Nat,i<C.length->j<C.length->ix C (i:Int)=ix C (j:Int)->ix t.out (i:Int)=ix t.out (j:Int)/\(ix t.next (i:Int)).map (λn=>ix C n)=(ix t.next (j:Int)).map (λn=>ix C n))(h:Can c k):∀{e:List Int},C=c++e->((bc t C c.length).1.length=k/\(bc t C c.length).2.length=k)/\∀i:Nat,i<c.length->ix (bc t C c.length).1 (ix C (i:Int))=(ix t.next (i:Int)).map (λn=>ix C n)/\ix (bc t C c.length).2 (ix C (i:Int))=ix t.out (i:Int):=by
 induction h with
 |nil=>intro e _;exact⟨⟨rfl,rfl⟩,λi g=>by simp at g⟩
 | @old c k v h A w r=>
  intro e a;obtain⟨⟨d,p⟩,q⟩:=r (e:=[v]++e) (by rw[a,fO])
  have f:ix C (c.length:Int)=v:=by
   rw[a,a7 aa ai,dH]
  have es:bc t C (c ++ [v]).length=bc t C c.length:=by
   rw[show(c ++ [v]).length=c.length+1 by simp]
   show(if ix C (c.length:Int)<((bc t C c.length).1.length:Int)then _ else _)=_
   rw[ah (by rw[f,d];exact w)]
  rw[es];refine⟨⟨d,p⟩,λi g=>?_⟩
  by_cases b:i=c.length
  .subst b
   obtain⟨j,x,B⟩:=cd.1 (h.HF v A w);have m:ix C (j:Int)=v:=by rw[a,a7 aa ai,a7 aa aa,aK x,B]
   have o:=z j c.length (by rw[a];simp;omega) (by rw[a];simp) (by rw[m,f])
   have:=q j x;rw[m]at this;rw[f,<-o.1,<-o.2];exact this
  .exact q i (by simp at g;omega)
 | @new c k h r=>
  intro e a;obtain⟨⟨d,p⟩,q⟩:=r (e:=[(k:Int)]++e) (by rw[a,fO])
  have f:ix C (c.length:Int)=(k:Int):=by
   rw[a,a7 aa ai,dH]
  have es:bc t C (c ++ [(k:Int)]).length=((bc t C c.length).1 ++ [(ix t.next (c.length:Int)).map λn=>ix C n],(bc t C c.length).2 ++ [ix t.out (c.length:Int)]):=by
   rw[show(c ++ [(k:Int)]).length=c.length+1 by simp]
   show(if ix C (c.length:Int)<((bc t C c.length).1.length:Int)then _ else _)=_
   rw[ae (by rw[f,d];omega)]
  rw[es];refine⟨⟨cW,by simp[p]⟩,λi g=>?_⟩
  by_cases b:i=c.length
  .subst b
   rw[f];refine⟨?_,?_⟩
   .rw[<-d,dH]
   .rw[<-p,dH]
  .have s : i<c.length:=by simp at g;omega
   have y:=h.fS _ (bt (l:=c) (n:=(i:Int)) aa aa)
   have u:ix C (i:Int)=ix c (i:Int):=by rw[a,a7 aa ai,a7 aa aa]
   have:=q i s;rw[u]at this ⊢;dsimp only;rw[a7 y.1 aa,a7 y.1 aa]
   exact this
def sQ(h:qP t c k):(t.quo c).next.length=k/\(t.quo c).out.length=k/\∀s:Int,0<=s->s<t.next.length->ix (t.quo c).next (ix c s)=(ix t.next s).map (λn=>ix c n)/\ix (t.quo c).out (ix c s)=ix t.out s:=by
 have g:=h.len;obtain⟨⟨a,b⟩,d⟩:=Yi (t:=t) (C:=c) (λi j l m e=>(h.fix (i:Int) (j:Int) aa aa aa aa).1 e) h.can (e:=[]) ab
 refine⟨a,b,λs f o=>?_⟩;obtain⟨s,rfl⟩:=dz f;exact d s aa
def qv(h:qP t c k){v:Int}(a:0<=v) (b:v<k):∃s:Int,0<=s/\s<t.next.length/\ix c s=v:=by
 obtain⟨j,d,e⟩:=cd.1 (h.can.HF v a b);exact⟨j,aa,by have:=h.len;omega,by rw[aK d,e]⟩
def vf(h:qP t c k)(a:0<=s) (s1:s<t.next.length):0<=ix c s/\ix c s<k:=h.can.fS _ (bt a (by have:=h.len;omega))
def Yj(f:t.Ok)(h:qP t c k):(t.quo c).Ok:=by
 obtain⟨g,r,m⟩:=sQ h;have w:=f.states;have y:=h.can.len;have z:=h.len;have A:=vf h (s:=0) aa aa
 refine⟨f.inputs,by rw[g];omega,by rw[g];show(0:Int)<=0/\(0:Int)<_;omega,by rw[g,r],?_,?_,?_⟩
 .intro s i e
  rw[g]at e;obtain⟨u,b,d,rfl⟩:=qv h i e;obtain⟨n,o⟩:=m u b d;rw[n,o,cP];exact f.row u b d
 .intro s a i e j l
  rw[g]at e ⊢;obtain⟨u,b,d,rfl⟩:=qv h i e;obtain⟨n,o⟩:=m u b d;have p:=f.row u b d;have q:=f.nx u a b d j l;have x : a<t.inputs:=l;rw[n,gz j aa]
  exact vf h q.1 q.2
 .intro s a i e j l
  rw[g]at e;obtain⟨u,b,d,rfl⟩:=qv h i e;rw[(m u b d).2];exact f.ot u a b d j l
def sR{t:ak}(b:t.Ok){c:List Int}{k:Nat}(h:qP t c k):∀{w:List Int}{s:Int},0<=s->s<t.next.length->(∀x∈w,0<=x/\x<t.inputs)->(t.quo c).run (ix c s) w=ix c (t.run s w)/\(t.quo c).outs (ix c s) w=t.outs s w
 | [],s,_,_,_=>⟨rfl,rfl⟩
 |a::w,s,d,e,g=>by
  have f:=g a ab
  obtain⟨m,n⟩:=(sQ h).2.2 s d e;have i:=b.row s d e;have j:=b.nx s a d e f.1 f.2;obtain⟨i1,o⟩:=sR b h (w:=w) j.1 j.2 (λx p=>g x (by simp[p]))
  have l:ix (ix (t.quo c).next (ix c s)) a=ix c (ix (ix t.next s) a):=by rw[m,gz f.1 aa]
  refine⟨?_,?_⟩
  .show(t.quo c).run (ix (ix (t.quo c).next (ix c s)) a) w=ix c (t.run (ix (ix t.next s) a) w)
   rw[l,i1]
  .show ix (ix (t.quo c).out (ix c s)) a::(t.quo c).outs (ix (ix (t.quo c).next (ix c s)) a) w=ix (ix t.out s) a::t.outs (ix (ix t.next s) a) w
   rw[l,o,n]
structure gJ (m:ak):Prop where
 ok:m.Ok
 all:∀s,0<=s->s<(m.next.length:Int)->∃w,(∀x∈w,0<=x/\x<m.inputs)/\m.run m.start w=s
 K6:∀s t,0<=s->s<(m.next.length:Int)->0<=t->t<(m.next.length:Int)->(∀w,(∀x∈w,0<=x/\x<m.inputs)->m.outs s w=m.outs t w)->s=t
def ak.aP (m:ak):ak:=m.trim.quo (eY m.trim 128).1
def vg(a:m.Ok):∃k,qP m.trim (eY m.trim 128).1 k:=Ic (oL a) (by have:=(oL a).states;omega)
def oM(i:m.Ok):gJ m.aP:=by
 obtain⟨k,h⟩:=vg i;have b:=oL i;have z:=b.states;obtain⟨j,D,E⟩:=sQ h;have l:ix (eY m.trim 128).1 0=0:=h.can.first (by have:=h.len;intro e;rw[e]at this;simp at this;omega)
 refine⟨Yj b h,λs n o=>?_,λs t n o A B d=>?_⟩
 .have a : s<(k:Int):=by rw[<-j];exact o
  obtain⟨u,f,g,rfl⟩:=qv h n a;obtain⟨w,d,e⟩:=Yh i f g;refine⟨w,d,?_⟩;have:=(sR b h (w:=w) (s:=0) aa aa d).1
  rw[l,e]at this;exact this
 .have a : s<(k:Int):=by rw[<-j];exact o
  have p : t<(k:Int):=by rw[<-j];exact B
  obtain⟨u,f,g,rfl⟩:=qv h n a;obtain⟨v,x,y,rfl⟩:=qv h A p;refine jT λq=>?_;obtain⟨w,r,C⟩:=h.sep u v f g x y q;refine C ?_;have:=d w r;rw[show m.aP=m.trim.quo (eY m.trim 128).1 from rfl,(sR b h f g r).2,(sR b h x y r).2]at this;exact this
def Bb(a:m.Ok)(d:∀x∈w,0<=x/\x<m.inputs):m.aP.outs m.aP.start w=m.outs m.start w:=by
 obtain⟨k,h⟩:=vg a;have f:=oL a;have g:=f.states;have b:ix (eY m.trim 128).1 0=0:=h.can.first (by have:=h.len;intro e;rw[e]at this;simp at this;omega)
 have:=(sR f h (w:=w) (s:=0) aa aa d).2
 rw[b,Yg a d]at this;exact this
variable{f:Int->Int}{q:List Int}
def Yk(h:(q.map f).Nodup){t:Int}(a:s∈q) (b:t∈q) (e:f s=f t):s=t:=by
 obtain⟨i,d,rfl⟩:=cd.1 a;obtain⟨j,g,rfl⟩:=cd.1 b;have:=(List.getElem_inj (h₀:=by simpa using d) (h₁:=eT) h).1 gX
 subst this;rfl
def Bc(h:(q.map f).Nodup):q.Nodup:=by
 rw[pM,kV]at h;rw[pM];exact h.imp λh e=>h (by rw[e])
def Ii{n:Nat}(h:q.Nodup) (b:∀x∈q,0<=x/\x<(n:Int)) (f:q.length=n)(d:0<=s) (s1:s<n):s∈q:=by
 refine jT λe=>?_;have:=lg n (l:=s::q) (List.nodup_cons.2 ⟨e,h⟩) (λx a=>by
  rcases bR.1 a with rfl|a
  .exact⟨d,s1⟩
  .exact b x a)
 simp at this;omega
def Can.own(h:Can c k):k=c.length->∀i:Nat,i<c.length->ix c (i:Int)=(i:Int):=by
 induction h with
 |nil=>intro _ i hi;simp at hi
 |old h v0 v1 Y=>intro e;have:=h.len;simp at e;omega
 | @new c k h Y=>
  intro e i hi;simp at e hi
  by_cases e' : i=c.length
  .subst e'; rw[dH,e]
  .rw[a7 aa aa];exact Y e i aa
def Can.full(h:Can c k):(∀i j:Nat,i<c.length->j<c.length->ix c (i:Int)=ix c (j:Int)->i=j)->k=c.length:=by
 induction h with
 |nil=>intro _;rfl
 | @old c k v h v0 v1 Y=>
  intro hi;obtain⟨j,hj,e⟩:=cd.1 (h.HF v v0 v1);have:=hi j c.length ai ab (by rw[a7 aa aa,dH,aK hj,e])
  omega
 | @new c k h Y=>
  intro hi;have:=Y λi j h1 h2 e=>hi i j ai ai (by rw[a7 aa aa,a7 aa aa];exact e)
  simp[this]
def Ij(f:m.Ok)(h:qP m c k){t:Int}(b:0<=s/\s<(m.next.length:Int)) (d:0<=t/\t<(m.next.length:Int)) (e:ix c s=ix c t)(g:0<=a) (o:a<m.inputs):ix (ix m.out s) a=ix (ix m.out t) a/\ix c (ix (ix m.next s) a)=ix c (ix (ix m.next t) a):=by
 obtain⟨i,j⟩:=(h.fix s t b.1 b.2 d.1 d.2).1 e;have p:=f.row s b.1 b.2;have q:=f.row t d.1 d.2;refine⟨by rw[i],?_⟩
 have l:ix ((ix m.next s).map λt=>ix c t) a=ix c (ix (ix m.next s) a):=gz g aa
 have n:ix ((ix m.next t).map λt=>ix c t) a=ix c (ix (ix m.next t) a):=gz g aa
 rw[<-l,<-n,j]
def Bd{m:ak}(d:m.Ok){c:List Int}{k:Nat}(h:qP m c k):∀{w:List Int}{s t:Int},(0<=s/\s<(m.next.length:Int))->(0<=t/\t<(m.next.length:Int))->ix c s=ix c t->(∀x∈w,0<=x/\x<m.inputs)->m.outs s w=m.outs t w
 | [],_,_,_,_,_,_=>rfl
 |a::w,s,t,f,g,e,i=>by
  have b:=i a ab
  obtain⟨j,l⟩:=Ij d h f g e b.1 b.2;have n:=d.nx s a f.1 f.2 b.1 b.2;have o:=d.nx t a g.1 g.2 b.1 b.2;show ix (ix m.out s) a::m.outs (ix (ix m.next s) a) w=ix (ix m.out t) a::m.outs (ix (ix m.next t) a) w
  rw[j,Bd d h n o l λx p=>i x (by simp[p])]
structure Rcl (m:ak) (c q:List Int):Prop where
 nd:(q.map λs=>ix c s).Nodup
 fS:∀s∈q,0<=s/\s<(m.next.length:Int)
 get:∀s∈q,∃w,(∀x∈w,0<=x/\x<m.inputs)/\m.run m.start w=s
 fst:ix c m.start∈q.map λs=>ix c s
 nxt:∀s∈q,∀a,0<=a->a<m.inputs->ix c (ix (ix m.next s) a)∈q.map λs=>ix c s
def Yl(o:m.Ok)(h:qP m c k) (i:Rcl m c q):q.length=m.next.length↔gJ m:=by
 have H:=o.states;have hle:q.length<=m.next.length:=by
  have:=lg m.next.length (Bc i.nd) i.fS
  exact this
 constructor
 .intro I
  have d:=λ(s:Int) (J:0<=s) (z:s<m.next.length)=>Ii (Bc i.nd) i.fS I J z
  refine⟨o,λs p r=>i.get s (d s p r),λs t p r D E g=>?_⟩;refine jT λf=>?_;have C:ix c s ≠ ix c t:=λe=>f (Yk i.nd (d s p r) (d t D E) e);obtain⟨w,z,K⟩:=h.sep s t p r D E C;exact K (g w z)
 .intro F
  refine Nat.le_antisymm hle ?_;have main:∀n:Nat,∀w:List Int,w.length=n->(∀x∈w,0<=x/\x<m.inputs)->ix c (m.run m.start w)∈q.map λs=>ix c s:=by
   intro n
   induction n with
   |zero=>
    intro w g _;obtain rfl:=fY g;exact i.fst
   |succ n L=>
    intro w g A;have f:w ≠ []:=by intro e;subst e;simp at g
    obtain⟨u,x,rfl⟩:∃u x,w=u ++ [x]:=⟨w.dropLast,w.getLast f,(rn f).symm⟩;have G:∀y∈u,0<=y/\y<m.inputs:=λy M=>A y (by simp[M])
    have j:=A x ab
    obtain⟨s,B,e⟩:=cB.1 (L u eT G)
    have z:=(Ij o h (i.fS s B) (jD o o.start G) e j.1 j.2).2;rw[iV];show ix c (ix (ix m.next (m.run m.start u)) x)∈_
    rw[<-z];exact i.nxt s B x j.1 j.2
  have d:∀s:Int,0<=s->s<m.next.length->ix c s∈q.map λs=>ix c s:=λs p r=>by
   obtain⟨w,g,rfl⟩:=F.all s p r;exact main _ w rfl g
  have:=lg q.length (l:=(List.range m.next.length).map λ(s:Nat)=>(((q.map λs=>ix c s).idxOf (ix c (s:Int)):Nat):Int)) (by
   rw[pM,kV];refine List.Pairwise.imp_of_mem (fun {a b} N O f e=>?_) List.nodup_range;simp only[gw]at N O;have T : (q.map λs=>ix c s).idxOf (ix c (a:Int))=(q.map λs=>ix c s).idxOf (ix c (b:Int)):=aa
   have P:=List.idxOf_lt_length_iff.2 (d (a:Int) aa aa)
   have Q:=List.idxOf_lt_length_iff.2 (d (b:Int) aa aa)
   have R:=List.getElem_idxOf P;have S:=List.getElem_idxOf Q;have C:ix c (a:Int)=ix c (b:Int):=by rw[<-R,<-S];congr 1
   have:=F.K6 (a:Int) (b:Int) aa aa aa aa λw g=>Bd o h ⟨aa,aa⟩ ⟨aa,aa⟩ C g
   exact f aa) (λx A=>by
   obtain⟨s,B,rfl⟩:=cB.1 A;simp only[gw]at B;have:=List.idxOf_lt_length_iff.2 (d (s:Int) aa aa)
   rw[cP]at this;omega)
  simpa using this
def Ym(g:m.Ok):((m.af m.start).length=m.next.length/\m.aP.next.length=m.next.length)↔gJ m:=by
 have f:=iW m g m.start g.start;have U:=oL g;obtain⟨k,d⟩:=vg g;have V:m.aP.next.length=k:=(sQ d).1
 have W:m.trim.next.length=(m.af m.start).length:=mm
 have I:∀p∈(m.af m.start).map (·.1),0<=p/\p<(m.next.length:Int):=λx J=>by
  obtain⟨p,K,rfl⟩:=cB.1 J;exact f.bq.fS p K
 have h:∀i:Nat,i<(m.af m.start).length->∀w,(∀x∈w,0<=x/\x<m.inputs)->m.trim.outs (i:Int) w=m.outs (ix (m.af m.start) (i:Int)).1 w:=λi o w u=>(ve g o u).2;constructor
 .rintro⟨X,h2⟩
  have y:∀s:Int,0<=s->s<m.next.length->∃i:Nat,i<(m.af m.start).length/\(ix (m.af m.start) (i:Int)).1=s:=λs B C=>by
   have:=Ii (q:=(m.af m.start).map (·.1)) f.bq.nd I (by simpa using X) B C
   obtain⟨p,K,e⟩:=cB.1 this;obtain⟨i,o,rfl⟩:=cd.1 K;exact⟨i,o,by rw[aK o];exact e⟩
  refine⟨g,λs B C=>?_,λs t B C Y Z u=>?_⟩
  .obtain⟨i,o,e⟩:=y s B C
   obtain⟨F,G⟩:=f.run (i:Int) aa aa
   exact⟨_,G,by rw[F,e]⟩
  .obtain⟨i,o,e⟩:=y s B C
   obtain⟨j,R,S⟩:=y t Y Z;have r:=d.can.own kn
   refine jT λz=>?_;have hij:i ≠ j:=λhe=>z (by rw[<-e,<-S, he])
   obtain⟨w,L,T⟩:=d.sep (i:Int) (j:Int) aa aa aa aa (by rw[r i kn,r j kn];omega)
   rw[h i o w L,h j R w L,e,S]at T;exact T (u w L)
 .intro H
  have hl:(m.af m.start).length=m.next.length:=by
   refine Nat.le_antisymm f.bq.le ?_;have:=lg (m.af m.start).length (l:=(List.range m.next.length).map λ(s:Nat)=>ix m.num (s:Int)) (by
    rw[pM,kV];refine List.Pairwise.imp_of_mem (fun {a b} ha hb z e=>?_) List.nodup_range;simp only[gw]at ha hb;obtain⟨M,N,O⟩:=H.all (a:Int) aa aa
    obtain⟨wb,vb,eb⟩:=H.all (b:Int) aa aa
    obtain⟨i,P,i1,A,_⟩:=f.all M N;obtain⟨j,j0,j1,Q,_⟩:=f.all wb vb;obtain⟨i,rfl⟩:=dz P;obtain⟨j,rfl⟩:=dz j0;rw[O]at A;rw[eb]at Q;rw[<-A,<-Q,oJ g aa,oJ g aa]at e
    have:i=j:=aa
    subst this;rw[A]at Q;exact z aa) (λx J=>by
    obtain⟨s,hs,rfl⟩:=cB.1 J;simp only[gw]at hs;obtain⟨M,N,O⟩:=H.all (s:Int) aa aa
    obtain⟨i,P,i1,A,_⟩:=f.all M N;obtain⟨i,rfl⟩:=dz P;rw[O]at A;rw[<-A,oJ g aa]
    omega)
   simpa using this
  refine⟨hl,?_⟩;rw[V];have:=d.can.full λi j o R e=>by
   have D : i<(m.af m.start).length:=kn
   have E : j<(m.af m.start).length:=kn
   have F:=f.bq.fS _ (bt (l:=m.af m.start) (n:=(i:Int)) aa aa)
   have G:=f.bq.fS _ (bt (l:=m.af m.start) (n:=(j:Int)) aa aa)
   have:=H.K6 _ _ F.1 F.2 G.1 G.2 λw u=>by
    rw[<-h i D w u,<-h j E w u];exact Bd U d ⟨aa,aa⟩ ⟨aa,aa⟩ e u
   exact A9 f.bq D E this
  have:=d.len;omega
def fL (m:ak):Nat->List Int
 |0=>List.replicate m.next.length 0
 |i+1=>(bF m (fL m i) m.next.length).2
def Ik:∀{i:Nat},(fL m i).length=m.next.length
 |0=>by simp[fL]
 |i+1=>by unfold fL;exact lj.1
def Il{m:ak}{i:Nat}(h:fL m (i+1)=fL m i):∀j,fL m (i+j)=fL m i
 |0=>rfl
 |j+1=>by
  have a:=Il h j;rw[<-Nat.add_assoc];show(bF m (fL m (i+j)) m.next.length).2=_
  rw[a];exact h
def Be{m:ak}(a:m.Ok):∀{i:Nat},Cq m (fL m i)
 |0=>λi j _ _ _=>by
  have b:∀i:Int,ix (List.replicate m.next.length (0:Int)) i=0:=λi=>by
   unfold ix;rw[gZ,List.getElem?_replicate];split<;>rfl
  unfold fL;rw[b,b]
 |i+1=>(Be a (i:=i)).step a
def Im{m:ak}(g:m.Ok):∀{f i k:Nat},Can (fL m i) k->(lk m f i (fL m i) k).1=fL m (i+f)
 |0,i,k,_=>rfl
 |f+1,i,k,l=>by
  obtain⟨h,_,_⟩:=qt (m:=m) (c:=fL m i) (s:=m.next.length)
  have n:=lj (m:=m) (c:=fL m i) (s:=m.next.length)
  have o:=Ik (m:=m) (i:=i);have d:=h.ref l aa (λa b q r e=>Be g a b aa aa ((qu aa aa).1 e))
  unfold lk;rw[o]
  by_cases j:((bF m (fL m i) m.next.length).1.length:Int)=(k:Int)
  .rw[ah j]
   rcases d with⟨e,_⟩|p
   .exact(Il (show fL m (i+1)=fL m i from e) (f+1)).symm
   .omega
  .rw[ae j]
   have:=Im g (f:=f) (i:=i+1) (k:=(bF m (fL m i) m.next.length).1.length) h
   rw[show i+(f+1)=i+1+f by omega]
   exact this
def Yn(a:m.Ok):∃k,qP m (fL m m.next.length) k:=by
 have d:=a.states;obtain⟨k,b⟩:=Ic a (x:=m.next.length) (Int.le_refl _)
 refine⟨k,?_⟩;unfold eY at b;rw[show(min (max (m.next.length:Int) 0) (m.next.length:Int)).toNat=m.next.length by omega]at b
 obtain⟨n,g⟩:∃n,m.next.length=n+1:=⟨m.next.length-1,aa⟩
 have h:Can (fL m 0) 1:=by show Can (List.replicate m.next.length 0) 1;rw[g];exact Can.sK n
 have e:=Im a (f:=m.next.length) (i:=0) h
 rw[eL]at e;rw[<-e];exact b
end Ab
