/- The time of words; and what it leans on. Condition: none. -/
import Derived.Test.YtdenhmniigikcaaGreatS44U
import Derived.Test.YtdenhmniigikcaaGreatInts
set_option linter.all false
set_option maxRecDepth 100000
set_option maxHeartbeats 4000000
namespace Ab
structure wD where
 step:List Int
 S2:Int
 deriving Inhabited
abbrev wD.av (l:wD):AV:=.agg [iL l.step,.int l.S2]
structure wD.fits (l:wD):Prop where
 len:(l.step.length:Int)<=9223372036854775807
 st:∀x∈l.step,-9223372036854775808<=x/\x<=9223372036854775807
 rs : -9223372036854775808<=l.S2/\l.S2<=9223372036854775807
def S3 (x:Int):Bool:=decide (x<0)||decide (1048576<x)
def wD.bad (l:wD):Bool:=S3 l.S2||l.step.any S3
def wD.steps (l:wD) (w:List Int):Int:=w.foldl (λn a=>n+ix l.step a) 0
def wD.cost (l:wD) (w:List Int):Int×Int:=if(l.step.length:Int)<1\/64<(l.step.length:Int)\/l.bad=true then(0,2)else if jO w l.step.length ≠ 0 then(0,jO w l.step.length)else(l.S2+l.steps w,0)
def wD.sum (l:wD) (ws:List (List Int)):Int:=ws.foldl (λn w=>n+(l.cost w).1) 0
inductive F2 {α β:Type} (R:α->β->Prop):List α->List β->Prop
 |nil:F2 R [] []
 |cons {a b as bs}:R a b->F2 R as bs->F2 R (a::as) (b::bs)
variable{α β:Type}
theorem F2.imp{R S:α->β->Prop}(h:∀a b,R a b->S a b){as:List α}{bs:List β}(k:F2 R as bs):F2 S as bs:=by
 induction k with
 |nil=>exact .nil
 |cons h1 _ U=>exact .cons (h _ _ h1) U
theorem F2.len{R:α->β->Prop}{as:List α}{bs:List β}(k:F2 R as bs):as.length=bs.length:=by
 induction k with
 |nil=>rfl
 |cons h1 _ U=>simp[U]
theorem F2.bI{α β:Type}{f:α->Option β}{as:List α}{bs:List β}(k:F2 (λa b=>f a=some b) as bs):Ab.bI f as=some bs:=by
 induction k with
 |nil=>rfl
 |cons h1 _ U=>simp only[Ab.bI,h1,U]
theorem F2.map{U:Type}{R:α->β->Prop}{f:β->U}{as:List α}{bs:List β}(k:F2 R as bs):F2 (λa c=>∃b,R a b/\c=f b) as (bs.map f):=by
 induction k with
 |nil=>exact .nil
 |cons h1 _ V=>exact .cons ⟨_,h1,rfl⟩ V
def RW (r:List ah) (X:Nat) (c:AV) (w:List Int):Prop:=(c = .au true []/\w=[])\/(w ≠ []/\∃b,b ≠ X/\c = .sl (b+1) w.length 0 w.length/\ak r b=some ⟨none,w.map .int,.live⟩)
def RG (r:List ah) (X:Nat) (c:AV) (g:List (List Int)):Prop:=∃b cs,b ≠ X/\c = .sl (b+1) g.length 0 g.length/\ak r b=some ⟨none,cs,.live⟩/\F2 (RW r X) cs g
variable{B:ah}
theorem S4{r:List ah}{b:Nat}:ak r b=some B->b<r.length:=by
 induction r generalizing b with
 |nil=>intro h;cases b<;>simp[ak]at h
 |cons x r a=>
  cases b with
  |zero=>intro _;simp
  |succ b=>intro h;have:=a h;simp;omega
theorem alF{r l:List ah}{b:Nat}:ak r b=some B->ak (r++l) b=some B:=by
 induction r generalizing b with
 |nil=>intro h;cases b<;>simp[ak]at h
 |cons x r a=>
  cases b with
  |zero=>exact id
  |succ b=>exact a
variable{r': List ah}{X': Nat}{c:AV}{w:List Int}
theorem RW.mono{r: List ah}{X: Nat}(h:RW r X c w) (U:∀b B,b ≠ X->ak r b=some B->ak r' b=some B) (hx:X' = X\/r.length<=X'):RW r' X' c w:=by
 rcases h with h|⟨h0,b,h1,h2,h3⟩
 .exact .inl h
 .refine .inr ⟨h0,b,?_,h2,U _ _ h1 h3⟩
  rcases hx with rfl|hx
  .exact h1
  .have:=S4 h3;omega
theorem RG.mono{r: List ah}{X: Nat}{g:List (List Int)}(h:RG r X c g) (U:∀b B,b ≠ X->ak r b=some B->ak r' b=some B) (hx:X' = X\/r.length<=X'):RG r' X' c g:=by
 obtain⟨b,cs,h1,h2,h3,h4⟩:=h;refine⟨b,cs,?_,h2,U _ _ h1 h3,h4.imp λa w k=>k.mono U hx⟩;rcases hx with rfl|hx
 .exact h1
 .have:=S4 h3;omega
theorem alG{σ:List ah}{fr:Bool}{b k n:Nat}{cs ys:List AV}{st:eM}(h:ak σ b=some ⟨none,cs,st⟩) (a:st.eT=true) (d:n=cs.length) (e:F2 (λc y=>view σ fr k c=some y) cs ys):view σ fr (k+1) (.sl b n 0 n)=some (.au false ys):=by
 subst d;have g:upto σ b cs.length=some ⟨none,cs,st⟩:=by
  unfold upto;rw[h];cases st<;>simp at a ⊢
 unfold view;simp only[g,aE,kF,gq,Nat.mul_one,aT,dt];rw[HR (aT _),e.bI]
theorem RW.seen{r:List ah}{X:Nat}(h:RW r X c w) (B:ah){k:Nat}:view (B::r) false (k+2) c=some (iL w):=by
 rcases h with⟨rfl,rfl⟩|⟨h0,b,_,rfl,h1⟩
 .rfl
 .exact fj (k:=k+1) (f:=.int) (g:=.int) (st:=.live) (xs:=w) h1 (by simp) rfl λ_ _=>rfl
theorem F2.get{R:α->β->Prop}{as:List α}{bs:List β}(k:F2 R as bs):∀{i:Nat}{a:α}{b:β},as[i]? = some a->bs[i]? = some b->R a b:=by
 induction k with
 |nil=>intro i a b h;simp at h
 |cons h1 _ V=>
  intro i a b h U;cases i with
  |zero=>simp at h U; subst h U; exact h1
  |succ i=>exact V (by simpa using h) (by simpa using U)
theorem F2.take{R:α->β->Prop}{as:List α}{bs:List β}(k:F2 R as bs):∀(n:Nat),F2 R (as.take n) (bs.take n):=by
 induction k with
 |nil=>intro n;simp;exact .nil
 |cons h1 _ U=>
  intro n;cases n with
  |zero=>exact .nil
  |succ n=>exact .cons h1 (U n)
theorem F2.drop{R:α->β->Prop}{as:List α}{bs:List β}(k:F2 R as bs):∀(n:Nat),F2 R (as.drop n) (bs.drop n):=by
 induction k with
 |nil=>intro n;simp;exact .nil
 |cons h1 h2 U=>
  intro n;cases n with
  |zero=>exact .cons h1 h2
  |succ n=>exact U n
theorem F2.app{R:α->β->Prop}{as cs:List α}{bs ds:List β}(k:F2 R as bs) (h:F2 R cs ds):F2 R (as++cs) (bs++ds):=by
 induction k with
 |nil=>exact h
 |cons h1 _ U=>exact .cons h1 U
def SL (r:List ah) (cells:List AV) (l:List (List Int)):Prop:=F2 (RW r r.length) cells l
variable{cells:List AV}{l:List (List Int)}
theorem SL.seen{r:List ah}(h:SL r cells l):view (⟨none,cells,.live⟩::r) false vd (.sl 0 cells.length 0 cells.length)=some (bN l):=by
 refine alG (k:=11) (st:=.live) rfl (by simp) rfl ?_
 exact h.map.imp λc y ⟨w,U,V⟩=>by subst V;exact U.seen _
theorem SL.more{r U:List ah}(h:SL r cells l):SL (r++U) cells l:=F2.imp (λa b k=>k.mono (λb B _=>alF) (.inr (by simp))) h
structure Tr where
 Kf:List Int
 out:List Int
 deriving Inhabited
abbrev Tr.av (t:Tr):AV:=.agg [iL t.Kf,iL t.out]
def okT (t:Tr):Prop:=UA t.Kf/\UA t.out
structure wE where
 cd:Int
 traces:List Tr
 deriving Inhabited
abbrev wE.av (o:wE):AV:=.agg [.int o.cd,.au false (o.traces.map Tr.av)]
structure wE.fits (o:wE):Prop where
 cd:ka o.cd=true
 len:(o.traces.length:Int)<=9223372036854775807
 tr:∀t∈o.traces,okT t
structure wE.Ok (o:wE):Prop where
 len:(o.traces.length:Int)<=1000000
 Kf:∀t∈o.traces,(t.Kf.length:Int)<=1000000
 out:∀t∈o.traces,t.out.length=t.Kf.length
def wE.at (o:wE) (w:List Int):Int:=idx (λt:Tr=>decide (w <+: t.Kf)) o.traces
def wE.ans (o:wE) (w:List Int):List Int×Bool:=if w=[]then([],true)else if o.at w<0 then([],false)else((ix o.traces (o.at w)).out.take w.length,true)
def wE.open (o:wE) (U:List (List Int)):List (List Int):=U.filter λw=>!(o.ans w).2
theorem yT{ce:CE}{a:AV}{r:List ah}:ev ce (⟨some 2,[a,c],.live⟩::r) 0 [] (λ_=>.ptr 0 (aE (some 2)) 0) (.ld (.v 0) (some 2))=some (.agg [a,c],none):=(rfl)
def bw (o:Option (List Int)):AV:=.agg [.bool o.isSome,iL (o.getD [])]
theorem Jg (o:Option (List Int)) (w:List Int) (i:∀x,o=some x->(x.length:Int)<=9223372036854775807) (j:(w.length:Int)<=9223372036854775807):PC rL [bw o,iL w]=some (bw (lT o w)):=by
 refine bP (agR rfl ?_)
 by_cases b:1024<w.length
 .have a :=aB (show(1024:Int)<(w.length:Int)by omega)
  have e:lT o w=o:=by unfold lT;rw[ab b]
  rw[e];cases o with
  |none=>simp[-ag,a, bw,yT]
  |some x=>simp[-ag,a, bw,yT]
 .have a :=dN (show ¬(1024:Int)<(w.length:Int)by omega)
  cases o with
  |none=>
   have e:lT none w=some w:=by unfold lT;rw[aa b]
   rw[e];simp[-ag,a, bw,yT]
  |some x=>
   have e:lT (some x) w=if aP x w<=0 then some x else some w:=by unfold lT;rw[aa b]
   rw[e];have g:=alA x w (i x rfl) j
   by_cases h:aP x w<=0
   .have d :=aB h
    rw[ab h];simp[-ag,a, bw,g,d, yT]
   .have d :=dN h
    rw[aa h];simp[-ag,a, bw,g,d, yT]
theorem Cg (ps:List (Bool×List Int)) (s:(ps.length:Int)<=1000000) (h:((ps.map (·.2)).flatten.length:Int)<=1000000):PC qv [.au false (ps.map wB)]=some (iL (ps.map (·.2)).flatten):=by
 refine bP (agH rfl ?_);have hle:∀i:Nat,((ps.map (·.2)).take i).flatten.length<=(ps.map (·.2)).flatten.length:=λi=>by
  have e:((ps.map (·.2)).take i).flatten++((ps.map (·.2)).drop i).flatten=(ps.map (·.2)).flatten:=by rw[<-List.flatten_append,mO]
  rw[<-e];simp
 have n:(ps.map (·.2)).length=ps.length:=by simp
 have o:∀i:Nat,i<ps.length->ix (ps.map (·.2)) (i:Int)=(ix ps (i:Int)).2:=λi d=>by rw[aG (by simp;exact d),aG d];simp
 generalize ps.map (·.2)=a at *;simp;refine aM (λi:Nat=>[(1,.int i),(2,.sl 0 ((a.take i).flatten).length 0 ((a.take i).flatten).length)]) (λi=>[bG (a.take i).flatten]) (λi=>i<=ps.length) (λi=>ps.length-i) 0 (by simp[a8]) (by omega) ?_
 intro i u
 by_cases d:i<ps.length
 .have l:(a.take (i+1)).flatten=(a.take i).flatten++(ix ps (i:Int)).2:=by
   rw[k8,cO (by omega),<-o i d,aG (by omega),List.flatten_append];simp
  have q:=hle (i+1);rw[l]at q;generalize (a.take i).flatten=F at *;rw[aY]at q
  by_cases j:(ix ps (i:Int)).2=[]
  .have m:(a.take (i+1)).flatten=F:=by rw[l,j];simp
   rcases ou (ix ps (i:Int))with⟨g,_⟩|g
   .simp[-ag,-List.length_flatten,d,g]
    refine⟨by split<;>simp,by omega,by omega,az (i+1) (by rw[m];simp[-List.length_flatten]) (by rw[m]) (by omega) (by omega)⟩
   .rw[j]at g
    simp[-ag,-List.length_flatten,d,g];refine⟨by split<;>simp,by omega,by omega,az (i+1) (by rw[m];simp[-List.length_flatten]) (by rw[m]) (by omega) (by omega)⟩
  .have g:wB (ix ps (i:Int))=iL (ix ps (i:Int)).2:=(ou _).resolve_left λh=>j h.2
   simp[-ag,-List.length_flatten,d,j,g];refine⟨by split<;>simp,by omega,by omega,az (i+1) (by rw[l];simp[-List.length_flatten]) (by rw[l];simp[-List.length_flatten,j]) (by omega) (by omega)⟩
 .have ei:i=ps.length:=by omega
  subst ei;rw[<-n,List.take_length];have r:=ai9 (σ:=[bG a.flatten]) (b:=0) rfl;have p:¬a.length<ps.length:=by omega
  simp[-List.length_flatten,r,p]
def xw (f:Bool) (o:Option (List Int)):AV:=match o with
 |none=>if f=true then .ae else iL []
 |some w=>wB (f,w)
def De (f:Bool) (o:Option (List Int)):List AV:=[.bool o.isSome,xw f o]
theorem uE{f:Bool}{o:Option (List Int)}:wk (xw f o) = .au false ((o.getD []).map .int):=by
 cases o with
 |none=>cases f<;>rfl
 |some w=>
  show wk (wB (f,w))=_;rcases ou (f,w)with⟨h,e⟩|h
  .rw[h];have e:w=[]:=e;subst e;rfl
  .rw[h];rfl
theorem tS (f:Bool) (o:Option (List Int)):(xw f o = .ae/\o.getD []=[])\/xw f o=iL (o.getD []):=by
 cases o with
 |none=>cases f<;>simp[xw]
 |some w=>
  show(wB (f,w) = .ae/\w=[])\/wB (f,w)=iL w;exact ou (f,w)
def bp (N:Nat) (T:TO) (s:Nat):List AV:=(List.range N).flatMap λ(t:Nat)=>De true (T (s:Int) (t:Int))
theorem Ch{α:Type}{f:α->AV}{g:α->AV}:∀{l:List α}{i:Nat}(h:i<l.length),(l.flatMap λx=>[f x,g x]).drop (i*2)=f l[i]::g l[i]::(l.flatMap λx=>[f x,g x]).drop (i*2+2)
 |p::l,0,_=>rfl
 |p::l,i+1,h=>by
  have:=Ch (f:=f) (g:=g) (l:=l) (i:=i) (by simpa using h)
  rw[show(i+1)*2=i*2+1+1 by omega]
  exact this
theorem S5{α:Type}{f:α->AV}{g:α->AV}:∀{l:List α},(l.flatMap λx=>[f x,g x]).length=2*l.length
 | []=>rfl
 |p::l=>by
  have:=S5 (f:=f) (g:=g) (l:=l);simp only[gX,aY,bX,dg]at this ⊢;omega
theorem Jh{α:Type}{f:α->AV}{g:α->AV}{f' : α->AV}{g' : α->AV}{x y:AV}:∀{l:List α}{i:Nat}(h:i<l.length),(∀j (q:j<l.length),j ≠ i->f' l[j]=f l[j]/\g' l[j]=g l[j])->f' l[i]=x->g' l[i]=y->jN (l.flatMap λx=>[f x,g x]) (i*2) [x,y]=l.flatMap λx=>[f' x,g' x]
 |p::l,0,h,a,b,d=>by
  have e:l.flatMap (λx=>[f x,g x])=l.flatMap λx=>[f' x,g' x]:=by
   rw[List.flatMap_def,List.flatMap_def]
   congr 1
   apply jJ
   .simp
   .intro j r w
    simp only[k9];simp only[cY]at r;obtain⟨n,o⟩:=a (j+1) (by simp;omega) (by omega)
    simp only[List.getElem_cons_succ]at n o;rw[n,o]
  simp only[List.getElem_cons_zero]at b d;show jN (f p::g p::l.flatMap _) 0 [x,y]=f' p::g' p::l.flatMap _;rw[e,b,d];generalize l.flatMap (λx=>[f' x,g' x])=L;cases L<;>rfl
 |p::l,i+1,h,a,b,d=>by
  have s:=Jh (f:=f) (g:=g) (f' :=f') (g' :=g') (x:=x) (y:=y) (l:=l) (i:=i) (by simpa using h) (λj q u=>by
   have:=a (j+1) (by simp;omega) (by omega)
   simpa using this) (by simpa using b) (by simpa using d)
  have m:=a 0 (by simp) (by omega)
  simp only[List.getElem_cons_zero]at m;rw[show(i+1)*2=i*2+1+1 by omega]
  show f p::g p::jN (l.flatMap _) (i*2) [x,y]=f' p::g' p::l.flatMap _;rw[s,m.1,m.2]
section
variable{N s t:Nat}{T:TO}
theorem Cj:(bp N T s).length=2*N:=by
 unfold bp De;rw[S5];simp
theorem Ck{K:AV->Prop}{tk:Tk K}(h:t<N):pT (bp N T s) (0+t*2) (some 2) K tk=K (.agg (De true (T (s:Int) (t:Int)))):=by
 have:=Ch (f:=λ(t:Nat)=>AV.bool (T (s:Int) (t:Int)).isSome) (g:=λ(t:Nat)=>xw true (T (s:Int) (t:Int))) (l:=List.range N) (i:=t) (by simpa using h)
 have a:=Cj (N:=N) (T:=T) (s:=s);unfold pT part;rw[gq];simp only;rw[ab (by rw[a];omega)]
 unfold bp De;rw[this];simp[De]
theorem alH (h:t<N):lQ (bp N T s) (t*2)=some (.bool (T (s:Int) (t:Int)).isSome):=by
 have:=Ch (f:=λ(t:Nat)=>AV.bool (T (s:Int) (t:Int)).isSome) (g:=λ(t:Nat)=>xw true (T (s:Int) (t:Int))) (l:=List.range N) (i:=t) (by simpa using h)
 rw[jM];have a:=congrArg (λl:List AV=>l[0]?) this;simp only[kz,lW,List.getElem?_cons_zero,nI]at a;exact a
theorem alI (h:t<N):lQ (bp N T s) (t*2+1)=some (xw true (T (s:Int) (t:Int))):=by
 have:=Ch (f:=λ(t:Nat)=>AV.bool (T (s:Int) (t:Int)).isSome) (g:=λ(t:Nat)=>xw true (T (s:Int) (t:Int))) (l:=List.range N) (i:=t) (by simpa using h)
 rw[jM];have a:=congrArg (λl:List AV=>l[1]?) this;simp only[kz,nH,List.getElem?_cons_zero,nI]at a;exact a
variable{w:List Int}
theorem alJ (h:t<N)(a:w ≠ []):jN (bp N T s) (t*2) [.bool true,iL w]=bp N (ee T (s:Int) (t:Int) w) s:=by
 unfold bp De;refine Jh (l:=List.range N) (i:=t) (by simpa using h) (λj d b=>?_) ?_ ?_
 .simp only[nI,ee]
  rw[aa (by omega)]
  exact⟨rfl,rfl⟩
 .simp[ee]
 .simp only[nI,ee,and_self,dt]
  show wB (true,w)=_;exact(ou (true,w)).resolve_left λh=>a h.2
theorem alK{u:Nat}(h:u ≠ s):bp N (ee T (s:Int) (t:Int) w) u=bp N T u:=by
 unfold bp
 congr 1
 funext j
 unfold ee;rw[aa λe=>h (by omega)]
end
theorem alL{ce:CE}{σ:List ah}{n:Nat}{a c:AV}(h:ak σ n=some ⟨some 2,[a,c],.live⟩):ev ce σ 0 [] (λ_=>.ptr n (aE (some 2)) 0) (.ld (.v 0) (some 2))=some (.agg [a,c],none):=by
 have b:upto σ n (aE (some 2))=some ⟨some 2,[a,c],.live⟩:=by unfold upto;rw[h];rfl
 simp only[ev,b]
 rfl
theorem sh{σ:List ah}{a b:ah}:ak (σ ++ [a,b]) (σ.length+1)=some b:=by
 rw[mc,eK (by omega),show σ.length+1-σ.length=1 by omega];rfl
theorem qG{σ:List ah}{a b:ah}:ak (σ ++ [a,b]) σ.length=some a:=by
 rw[mc,eK (by omega),show σ.length-σ.length=0 by omega];rfl
variable{B:ah}
theorem si{σ:List ah}{a b:ah}:ar (σ ++ [a,b]) (σ.length+1) B=σ ++ [a,B]:=by rw[vR];rfl
theorem sj{σ:List ah}{a b:ah}:ar (σ ++ [a,b]) σ.length B=σ ++ [B,b]:=vR (k:=0)
variable{f:Bool}
theorem yU{o:Option (List Int)}:fD (xw f o) = .au false ((o.getD []).map .int):=by
 rcases tS f o with⟨h,e⟩|h
 .rw[h,e];rfl
 .rw[h];rfl
theorem Ji{o:Option (List Int)}:xw false o=iL (o.getD []):=by
 cases o with
 |none=>rfl
 |some w=>exact(ou (false,w)).elim (λh=>by rw[show wB (false,w)=iL w from rfl]at h;exact absurd h.1 (by simp)) id
theorem mr{o:Option (List Int)}:aI (xw f o)=true:=by
 rcases tS f o with⟨h,e⟩|h
 .rw[h];rfl
 .rw[h];rfl
theorem lL{o:Option (List Int)}:(xw f o).cells=[xw f o]:=by
 rcases tS f o with⟨h,e⟩|h
 .rw[h]
 .rw[h]
theorem Cn{o:Option (List Int)}{K:AV->Prop}:qt (xw f o).aV none K=K (xw f o):=by
 rcases tS f o with⟨h,e⟩|h
 .rw[h];rfl
 .rw[h];rfl
theorem lM{o:Option (List Int)}:bg (xw f o)=true:=by
 rcases tS f o with⟨h,e⟩|h
 .rw[h];rfl
 .rw[h];rfl
theorem lN{o:Option (List Int)}:du (xw f o)=true:=by
 rcases tS f o with⟨h,e⟩|h
 .rw[h];rfl
 .rw[h];rfl
def pS (N:Nat):List AV:=(List.range N).map λs=>.sl (2+s) (2*N) 0 N
theorem S6{N:Nat}:(pS N).length=N:=by simp[pS]
theorem yV{N s:Nat}(h:s<N):lQ (pS N) s=some (.sl (2+s) (2*N) 0 N):=by rw[jM];simp[pS,h]
structure qK (n:al) (T:TO) (s t:Int) (o:Option (List Int)) (ws:List (List Int)) (Q:List Int->Prop):Prop where
 e:o=tQ (T s t) ws
 c:∀w∈ws,tP n.aQ T s t w
 a:∀w,Q w->w∈ws
variable{Q': List Int->Prop}
theorem qK.add{n:al}{T:TO}{s t:Int}{o:Option (List Int)}{ws:List (List Int)}{Q:List Int->Prop}(h:qK n T s t o ws Q){w:List Int}(V:tP n.aQ T s t w)(hq:∀v,Q' v->Q v\/v=w):qK n T s t (lT o w) (ws ++ [w]) Q' :=by
 refine⟨by rw[akQ,<-h.e],λv U=>?_,λv U=>?_⟩
 .rcases dQ.1 U with U|U
  .exact h.c v U
  .simp at U;rw[U];exact V
 .rcases hq v U with U|U
  .exact dQ.2 (.inl (h.a v U))
  .rw[U];simp
theorem qK.imp{n:al}{T:TO}{s t:Int}{o:Option (List Int)}{ws:List (List Int)}{Q:List Int->Prop}(h:qK n T s t o ws Q)(U:∀v,Q' v->Q v):qK n T s t o ws Q' :=⟨h.e,h.c,λv V=>h.a v (U v V)⟩
def Q1 (n:al) (T:TO) (s t i:Int) (w:List Int):Prop:=∃j x,0<=j/\j<i/\T (n.aQ.inner s j) t=some x/\w=(n.calls+j)::x
def Q2 (n:al) (T:TO) (s t c p r:Int) (w:List Int):Prop:=Q1 n T s t n.af w\/∃c' p' r' x y,(0<=c' /\c' < n.calls)/\(0<=p' /\p' < (n.accept.length:Int))/\(0<=r' /\r' < n.aj)/\(c' < c\/c' = c/\(p' < p\/p' = p/\r' < r))/\T (n.aQ.call s c').1 p' = some x/\T (n.aQ.pop p' (n.aQ.call s c').2 r') t=some y/\w=c' :: (x++(n.calls+n.af+r')::y)
theorem qK.len{n:al}{T:TO}(U:yN n.aQ T){s t:Int}(V:cj n.aQ s) (ht:cj n.aQ t){o:Option (List Int)}{ws:List (List Int)}{Q:List Int->Prop}(h:qK n T s t o ws Q){x:List Int}(hx:o=some x):x.length<=1024:=by
 rw[h.e]at hx;rcases B9 hx with hx|⟨_,hx⟩
 .exact(U s t x V ht hx).2
 .exact hx
def alM (n:al) (T:TO) (σ:List ah) (s t:Int) (v:AV) (τ:List ah):Prop:=∃f o ws junk,v = .agg [.bool o.isSome,xw f o]/\τ=σ++junk/\qK n T s t o ws (tP n.aQ T s t)
theorem alN{n:al}(E:n.Ok){T:TO}(hT:yN n.aQ T){σ:List ah}(h1:ak σ 1=some ⟨none,pS n.accept.length,.live⟩) (h2:∀u,u<n.accept.length->ak σ (2+u)=some ⟨some 2,bp n.accept.length T u,.live⟩){s t:Nat}(hs:s<n.accept.length) (ht:t<n.accept.length) :
  LX L EN [n.av,.sl 1 n.accept.length 0 n.accept.length,.int s,.int t] σ (alM n T σ s t):=by
 refine ahb rfl ?_;have r0:=S6 (N:=n.accept.length);have r1:=yV hs;have iU :=aB hs;have F :=aB ht;have b2:=h2 s hs;have rl:=λu=>Cj (N:=n.accept.length) (T:=T) (s:=u);have p2:=λ(K:AV->Prop) (tk:Tk K)=>Ck (K:=K) (tk:=tk) (s:=s) (T:=T) ht;have d:∀o,De true o=[.bool o.isSome,xw true o]:=λo=>rfl;have q1:=λτ=>kk (τ:=τ) h1;have q2:=λτ=>kk (τ:=τ) b2;simp[-ag,sh,qG,si,sj,q1,r0,r1,iU, q2,rl,F, ↓p2,d,lL,lM,lN];have JK:cj n.aQ (s:Int):=⟨by omega,by show(s:Int)<(n.accept.length:Int);omega⟩
 have P:cj n.aQ (t:Int):=⟨by omega,by show(t:Int)<(n.accept.length:Int);omega⟩
 have hca:=E.calls;have jY:=E.af;have Aa:=E.aj;have anf:=E.lens;have ao9:=E.cP;have yt:=E.row (s:Int) (by omega) (by omega)
 obtain⟨nc,hnc⟩:=Int.eq_ofNat_of_zero_le hca.1;obtain⟨ni,Eb⟩:=Int.eq_ofNat_of_zero_le jY.1;obtain⟨nr,hnr⟩:=Int.eq_ofNat_of_zero_le Aa.1;generalize hR0:(⟨some 2,[.bool false,.ae],.live⟩:ah)=R0;refine aM (λp:Nat×Bool×Option (List Int)×List (List Int)=>[(4,.int p.1)]) (λp=>σ ++ [R0,⟨some 2,[.bool p.2.2.1.isSome,xw p.2.1 p.2.2.1],.live⟩]) (λp=>p.1<=ni/\qK n T s t p.2.2.1 p.2.2.2 (Q1 n T s t p.1)) (λp=>ni-p.1) (0,true,T s t,[]) (by simp[a8]) ⟨by simp,rfl,by simp,λw ⟨j,x,j0,j1,_⟩=>by dsimp only at j1;omega⟩ ?_
 rintro⟨i,f,o,ws⟩ ⟨i1,i2⟩;dsimp only at i1 i2 ⊢
 by_cases hi:i<ni
 .have Q:=aB (show(i:Int)<n.af by omega)
  have hir:=aB (show(i:Int)<((ix n.inner (s:Int)).length:Int)by omega)
  have hsr:=aB (show(s:Int)<(n.inner.length:Int)by omega)
  have S7:=E.inner (s:Int) (i:Int) (by omega) (by omega) (by omega) (by omega)
  have R:n.aQ.inner (s:Int) (i:Int)=ix (ix n.inner (s:Int)) (i:Int):=rfl;obtain⟨u,A⟩:=gd S7.1;rw[A]at S7 R;have hu:u<n.accept.length:=by omega
  have G :=aB hu;have b3:=h2 u hu;have q3:=λτ=>kk (τ:=τ) b3;have r3:=yV hu;have S:=λ(K:AV->Prop) (tk:Tk K)=>Ck (K:=K) (tk:=tk) (s:=u) (T:=T) ht;cases C:T (u:Int) (t:Int)with
  |none=>
   rw[C]at S;simp[-ag,sh,qG,si,sj,Q,hir,hsr,A,q1,r0,r3,G, q3,rl,F, ↓S,d,lL,lM,lN,mr];refine⟨by omega,az (i+1,f,o,ws) (by simp) rfl ⟨by dsimp only;omega,i2.imp λw ⟨j,x,j0,j1,U,j3⟩=>⟨j,x,j0,?_,U,j3⟩⟩ (by dsimp only;omega)⟩
   by_cases e:j=(i:Int)
   .rw[e,R,C]at U;simp at U
   .dsimp only at j1;omega
  |some y=>
   rw[C]at S;have hyl:=(hT (u:Int) (t:Int) y ⟨by omega,S7.2⟩ P C).2
   have hj:PC qv [.au false [.au false [.int (n.calls+(i:Int))],xw true (some y)]]=some (.au false (.int (n.calls+(i:Int))::y.map .int)):=by
    have:=Cg [(false,[n.calls+(i:Int)]),(true,y)] (by simp) (by simp;omega)
    have e:([(false,[n.calls+(i:Int)]),(true,y)].map (·.2)).flatten=(n.calls+(i:Int))::y:=by simp
    rw[e]at this;exact this
   have hb:=Jg o ((n.calls+(i:Int))::y) (λx hx=>by have:=i2.len hT JK P hx;omega) (by simp;omega)
   have V : -9223372036854775808<=n.calls+(i:Int)/\n.calls+(i:Int)<=9223372036854775807:=by omega
   have hb:PC rL [.agg [.bool o.isSome,.au false ((o.getD []).map .int)],.au false (.int (n.calls+(i:Int))::y.map .int)]=some (.agg [.bool (lT o ((n.calls+(i:Int))::y)).isSome,xw false (lT o ((n.calls+(i:Int))::y))]):=by
    rw[Ji];exact hb
   simp[-ag,sh,qG,si,sj,Q,hir,hsr,A,q1,r0,r3,G, q3,rl,F, ↓S,d,lL,lM,lN,mr,uE,yU,Cn,hj,hb,V];have hcn:tP n.aQ T (s:Int) (t:Int) ((n.calls+(i:Int))::y):=.aH (i:Int) y (by omega) (by show(i:Int)<n.af;omega) (by rw[R];exact C)
   refine⟨by omega,az (i+1,false,lT o ((n.calls+(i:Int))::y),ws ++ [(n.calls+(i:Int))::y]) (by simp) rfl ⟨by dsimp only;omega,i2.add hcn λw ⟨j,x,j0,j1,U,j3⟩=>?_⟩ (by dsimp only;omega)⟩
   by_cases e:j=(i:Int)
   .rw[e,R,C]at U
    injection U with U
    exact .inr (by rw[j3,e,U])
   .exact .inl ⟨j,x,j0,by dsimp only at j1;omega,U,j3⟩
 .have:i=ni:=by omega
  subst this;have Q:=dN (show ¬(i:Int)<n.af by omega)
  simp[-ag,Q];refine aM (λp:Nat×Bool×Option (List Int)×List (List Int)=>[(8,.int p.1)]) (λp=>σ ++ [R0,⟨some 2,[.bool p.2.2.1.isSome,xw p.2.1 p.2.2.1],.live⟩]) (λp=>p.1<=nc/\qK n T s t p.2.2.1 p.2.2.2 (Q2 n T s t p.1 0 0)) (λp=>nc-p.1) (0,f,o,ws) (by simp[a8]) ⟨by simp,i2.imp λw l=>?_⟩ ?_
  .rcases l with l|⟨c', p', r', x,y,⟨c0,c1⟩,p0,r0', m,_⟩
   .rw[Eb]at l;exact l
   .dsimp only at m;omega
  rintro⟨c,f,o,ws⟩ ⟨c1,c2⟩;dsimp only at c1 c2 ⊢
  by_cases hc:c<nc
  .have qR:=aB (show(c:Int)<n.calls by omega)
   simp[-ag,qR];refine aM (λp:Nat×Bool×Option (List Int)×List (List Int)=>[(9,.int p.1)]) (λp=>σ ++ [R0,⟨some 2,[.bool p.2.2.1.isSome,xw p.2.1 p.2.2.1],.live⟩]) (λp=>p.1<=n.accept.length/\qK n T s t p.2.2.1 p.2.2.2 (Q2 n T s t c p.1 0)) (λp=>n.accept.length-p.1) (0,f,o,ws) (by simp[a8]) ⟨by simp,c2⟩ ?_
   rintro⟨p,f,o,ws⟩ ⟨p1,H⟩;dsimp only at p1 H ⊢
   by_cases hp:p<n.accept.length
   .have sF:=aB (show(p:Int)<(n.accept.length:Int)by omega)
    have V:=aB (show(c:Int)<((ix n.call (s:Int)).length:Int)by omega)
    have JH:=aB (show(c:Int)<((ix n.push (s:Int)).length:Int)by omega)
    have hsc:=aB (show(s:Int)<(n.call.length:Int)by omega)
    have hsg:=aB (show(s:Int)<(n.push.length:Int)by omega)
    have I :=E.call (s:Int) (c:Int) (by omega) (by omega) (by omega) (by omega)
    have X:=E.push (s:Int) (c:Int) (by omega) (by omega) (by omega) (by omega)
    have J:n.aQ.call (s:Int) (c:Int)=(ix (ix n.call (s:Int)) (c:Int),ix (ix n.push (s:Int)) (c:Int)):=rfl;obtain⟨u,A⟩:=gd I.1;obtain⟨g,Y⟩:=gd X.1;rw[A,Y]at J;rw[A]at I;rw[Y]at X;have hu:u<n.accept.length:=by omega
    have G :=aB hu;have KI :=aB hp;have b3:=h2 u hu;have q3:=λτ=>kk (τ:=τ) b3;have r3:=yV hu;have S:=λ(K:AV->Prop) (tk:Tk K)=>Ck (K:=K) (tk:=tk) (s:=u) (T:=T) hp;have next:∀(o:Option (List Int)) (ws:List (List Int)),qK n T s t o ws (Q2 n T s t c p nr)\/(T (u:Int) (p:Int)=none/\qK n T s t o ws (Q2 n T s t c p 0))->p+1<=n.accept.length/\qK n T s t o ws (Q2 n T s t c ((p+1:Nat):Int) 0):=λo ws h=>by
     refine⟨by omega,?_⟩
     rcases h with h|⟨h0,h⟩
     .refine h.imp λw l=>?_
      rcases l with l|⟨c', p', r', x,y,Z,k2,k3,m,z⟩
      .exact .inl l
      .exact .inr ⟨c', p', r', x,y,Z,k2,k3,by omega,z⟩
     .refine h.imp λw l=>?_
      rcases l with l|⟨c', p', r', x,y,Z,k2,k3,m,z,M⟩
      .exact .inl l
      .refine .inr ⟨c', p', r', x,y,Z,k2,k3,?_,z,M⟩
       by_cases e:c' = (c:Int)/\p' = (p:Int)
       .rw[e.1,e.2,J]at z
        dsimp only at z;rw[h0]at z;simp at z
       .by_cases e1:c' = (c:Int)
        .have:p' ≠ (p:Int):=λh=>e ⟨e1,h⟩
         omega
        .omega
    cases C:T (u:Int) (p:Int)with
    |none=>
     rw[C]at S;simp[-ag,sF,sh,qG,si,sj,V,hsc,A,q1,r0,r3,G, q3,rl,KI, ↓S,d,lL,lM,lN,mr];refine aM (λ_:Unit=>[]) (λ_=>σ ++ [R0,⟨some 2,[.bool o.isSome,xw f o],.live⟩]) (λ_=>True) (λ_=>0) () (by simp[a8]) trivial ?_
     rintro⟨⟩ _
     by_cases hr0:0<n.aj
     .simp[-ag,hr0,d]
      obtain⟨n1,n2⟩:=next o ws (.inr ⟨C,H⟩)
      exact⟨by omega,az (p+1,f,o,ws) (by simp) rfl ⟨n1,n2⟩ (by dsimp only;omega)⟩
     .simp[-ag,hr0,d]
      obtain⟨n1,n2⟩:=next o ws (.inr ⟨C,H⟩)
      exact⟨by omega,az (p+1,f,o,ws) (by simp) rfl ⟨n1,n2⟩ (by dsimp only;omega)⟩
    |some y1=>
     rw[C]at S;simp[-ag,sF,sh,qG,si,sj,V,hsc,A,q1,r0,r3,G, q3,rl,KI, ↓S,d,lL,lM,lN,mr];have hy1:=(hT (u:Int) (p:Int) y1 ⟨by omega,I.2⟩ ⟨by omega,by show(p:Int)<(n.accept.length:Int);omega⟩ C).2
     refine aM (λp:Nat×Bool×Option (List Int)×List (List Int)=>[(10,.int p.1)]) (λp=>σ ++ [R0,⟨some 2,[.bool p.2.2.1.isSome,xw p.2.1 p.2.2.1],.live⟩]) (λq=>q.1<=nr/\qK n T s t q.2.2.1 q.2.2.2 (Q2 n T s t c p q.1)) (λp=>nr-p.1) (0,f,o,ws) (by simp[a8]) ⟨by simp,H⟩ ?_
     rintro⟨r,f,o,ws⟩ ⟨yR, O⟩;dsimp only at yR O ⊢
     by_cases hr:r<nr
     .have qC:=aB (show(r:Int)<n.aj by omega)
      have rwp:=E.row (p:Int) (by omega) (by omega)
      have apa:=E.tD (p:Int) (g:Int) (by omega) (by omega) (by omega) X.2
      have QF:=aB (show(p:Int)<(n.pop.length:Int)by omega)
      have IJ:=aB (show(g:Int)<((ix n.pop (p:Int)).length:Int)by omega)
      have S8:=aB (show(r:Int)<((ix (ix n.pop (p:Int)) (g:Int)).length:Int)by omega)
      have Df:=E.pop (p:Int) (g:Int) (r:Int) (by omega) (by omega) (by omega) X.2 (by omega) (by omega)
      have UX:n.aQ.pop (p:Int) (n.aQ.call (s:Int) (c:Int)).2 (r:Int)=ix (ix (ix n.pop (p:Int)) (g:Int)) (r:Int):=by rw[J];rfl
      obtain⟨v,EE⟩:=gd Df.1;rw[EE]at Df UX;have LW : v<n.accept.length:=by omega
      have S9 :=aB LW;have b4:=h2 v LW;have q4:=λτ=>kk (τ:=τ) b4;have r4:=yV LW;have p4:=λ(K:AV->Prop) (tk:Tk K)=>Ck (K:=K) (tk:=tk) (s:=v) (T:=T) ht;cases D:T (v:Int) (t:Int)with
      |none=>
       rw[D]at p4;simp[-ag,qC,QF,IJ,S8,JH,hsg,Y,EE,sh,qG,si,sj,q1,r0,r4,S9, q4,rl,F, ↓p4,d,lL,lM,lN,mr];refine⟨by omega,az (r+1,f,o,ws) (by simp) rfl ⟨by dsimp only;omega,O.imp λw l=>?_⟩ (by dsimp only;omega)⟩
       rcases l with l|⟨c', p', r', x,y,Z,k2,k3,m,z,M,k6⟩
       .exact .inl l
       .refine .inr ⟨c', p', r', x,y,Z,k2,k3,?_,z,M,k6⟩
        by_cases e:c' = (c:Int)/\p' = (p:Int)/\r' = (r:Int)
        .rw[e.1,e.2.1,e.2.2,UX,D]at M;simp at M
        .dsimp only at m
         rcases m with m|⟨e1,m|⟨e2,m⟩⟩
         .exact .inl m
         .exact .inr ⟨e1,.inl m⟩
         .exact .inr ⟨e1,.inr ⟨e2,by
           have:r' ≠ (r:Int):=λh=>e ⟨e1,e2,h⟩;omega⟩⟩
      |some y2=>
       rw[D]at p4;have hy2:=(hT (v:Int) (t:Int) y2 ⟨by omega,Df.2⟩ P D).2
       have hj:PC qv [.au false [.au false [.int (c:Int)],xw true (some y1),.au false [.int (n.calls+n.af+(r:Int))],xw true (some y2)]]=some (iL ((c:Int)::(y1++(n.calls+n.af+(r:Int))::y2))):=by
        have:=Cg [(false,[(c:Int)]),(true,y1),(false,[n.calls+n.af+(r:Int)]),(true,y2)] (by simp) (by simp;omega)
        have e:([(false,[(c:Int)]),(true,y1),(false,[n.calls+n.af+(r:Int)]),(true,y2)].map (·.2)).flatten=(c:Int)::(y1++(n.calls+n.af+(r:Int))::y2):=by simp
        rw[e]at this;exact this
       have hcn:tP n.aQ T (s:Int) (t:Int) ((c:Int)::(y1++(n.calls+n.af+(r:Int))::y2)):=.call (c:Int) (p:Int) (r:Int) y1 y2 (by omega) (by show(c:Int)<n.calls;omega) (by omega) (by show(p:Int)<(n.accept.length:Int);omega) (by omega) (by show(r:Int)<n.aj;omega) (by rw[J];exact C) (by rw[UX];exact D)
       generalize hW:(c:Int)::(y1++(n.calls+n.af+(r:Int))::y2)=W at *;have hWl:W.length<=3000:=by rw[<-hW];simp;omega
       have hb:=Jg o W (λx hx=>by have:=O.len hT JK P hx;omega) (by omega)
       have hb:PC rL [.agg [.bool o.isSome,.au false ((o.getD []).map .int)],.au false (W.map .int)]=some (.agg [.bool (lT o W).isSome,xw false (lT o W)]):=by
        rw[Ji];exact hb
       have alO : -9223372036854775808<=n.calls+n.af/\n.calls+n.af<=9223372036854775807:=by omega
       have alP : -9223372036854775808<=n.calls+n.af+(r:Int)/\n.calls+n.af+(r:Int)<=9223372036854775807:=by omega
       simp[-ag,qC,QF,IJ,S8,JH,hsg,Y,EE,sh,qG,si,sj,q1,r0,r4,S9, q4,rl,F, ↓p4,d,lL,lM,lN,mr,uE,yU,Cn,hj,hb,alO,alP];refine⟨by omega,az (r+1,false,lT o W,ws ++ [W]) (by simp) rfl ⟨by dsimp only;omega,O.add hcn λw l=>?_⟩ (by dsimp only;omega)⟩
       rcases l with l|⟨c', p', r', x,y,Z,k2,k3,m,z,M,k6⟩
       .exact .inl (.inl l)
       .by_cases e:c' = (c:Int)/\p' = (p:Int)/\r' = (r:Int)
        .rw[e.1,e.2.1,J]at z
         rw[e.1,e.2.1,e.2.2,UX,D]at M;dsimp only at z;rw[C]at z;injection z with z
         injection M with M
         exact .inr (by rw[k6,<-hW,e.1,e.2.2,z,M])
        .refine .inl (.inr ⟨c', p', r', x,y,Z,k2,k3,?_,z,M,k6⟩)
         dsimp only at m;rcases m with m|⟨e1,m|⟨e2,m⟩⟩
         .exact .inl m
         .exact .inr ⟨e1,.inl m⟩
         .exact .inr ⟨e1,.inr ⟨e2,by
           have:r' ≠ (r:Int):=λh=>e ⟨e1,e2,h⟩;omega⟩⟩
     .have:r=nr:=by omega
      subst this;have qC:=dN (show ¬(r:Int)<n.aj by omega)
      simp[-ag,qC];obtain⟨n1,n2⟩:=next o ws (.inl O)
      exact⟨by omega,az (p+1,f,o,ws) (by simp) rfl ⟨n1,n2⟩ (by dsimp only;omega)⟩
   .have:p=n.accept.length:=by omega
    subst this;have sF:=dN (show ¬(n.accept.length:Int)<(n.accept.length:Int)by omega)
    simp[-ag];refine⟨by omega,az (c+1,f,o,ws) (by simp) rfl ⟨by dsimp only;omega,H.imp λw l=>?_⟩ (by dsimp only;omega)⟩
    rcases l with l|⟨c', p', r', x,y,Z,k2,k3,m,z⟩
    .exact .inl l
    .exact .inr ⟨c', p', r', x,y,Z,k2,k3,by dsimp only at m;omega,z⟩
  .have:c=nc:=by omega
   subst this;have qR:=dN (show ¬(c:Int)<n.calls by omega)
   subst hR0;have alQ:=λ(ce:CE) (a c:AV) (B:ah)=>alL (ce:=ce) (qG (σ:=σ) (a:=⟨some 2,[a,c],.live⟩) (b:=B));simp[-ag,qR,sh,qG,si,sj,lL,lM,lN,mr,alQ];refine⟨f,o,ws,_,rfl,rfl,c2.imp λw l=>?_⟩;cases l with
   |aH i x i0 i1 hx=>exact .inl ⟨i,x,i0,i1,hx,rfl⟩
   |call c' p' r' x y c0 zr p0 p1 r0' yR hx hy=>exact .inr ⟨c', p', r', x,y,⟨c0,zr⟩,⟨p0,p1⟩,⟨r0', yR⟩,.inl (by dsimp only[al.aQ]at zr; omega),hx,hy,rfl⟩
def jT (k N:Nat):List AV:=(List.range k).map λs=>.sl (2+s) (2*N) 0 N
def sn (k:Nat):eM:=if k=0 then .jq else .live
def qL:TO:=λs t=>if s=t then some []else none
def lm (n:al) (T:TO) (k:Nat) (junk:List ah):List ah:=⟨some 10,n.cs,.live⟩::⟨none,jT k n.accept.length,sn k⟩::((List.range k).map (λs=>(⟨some 2,bp n.accept.length T s,.live⟩:ah))++junk)
section
variable{n:al}{T:TO}{k:Nat}{junk:List ah}
theorem vT:ak (lm n T k junk) 0=some ⟨some 10,[.int n.calls,.int n.af,.int n.aj,.int n.stack,.int n.start,bL n.accept,bN n.call,bN n.push,bN n.inner,dR n.pop],.live⟩:=rfl
theorem Co:ak (lm n T k junk) 1=some ⟨none,jT k n.accept.length,sn k⟩:=rfl
theorem Jj{u:Nat}(h:u<k):ak (lm n T k junk) (2+u)=some ⟨some 2,bp n.accept.length T u,.live⟩:=by
 rw[mc,show 2+u=u+1+1 by omega]
 unfold lm;rw[nH,nH,eC (by simp;exact h)]
 simp[h]
theorem alR:(lm n T k junk).length=2+k+junk.length:=by simp[lm];omega
theorem Ta{N:Nat}:(jT k N).length=k:=by simp[jT]
end
def zu (n:al) (s:Nat) (D:List AV):List ah:=⟨some 10,n.cs,.live⟩::⟨none,jT (s+1) n.accept.length,.live⟩::((List.range s).map (λs=>(⟨some 2,bp n.accept.length qL s,.live⟩:ah)) ++ [⟨some 2,D,.live⟩])
section
variable{n:al}{s:Nat}{D:List AV}
theorem alS{N:Nat}{x y:AV}:(dI N [x,y]).length=2*N:=by simp[dI];omega
theorem alT{N:Nat}(h:s<N):jN (dI N [.bool false,.ae]) (s*2) [.bool true,.ae]=bp N qL s:=by
 have e:dI N [AV.bool false,.ae]=(List.range N).flatMap λ_=>[.bool false,.ae]:=by
  rw[List.flatMap_def,List.map_const', qk];rfl
 rw[e];unfold bp De;refine Jh (f:=λ_=>AV.bool false) (g:=λ_=>AV.ae) (l:=List.range N) (i:=s) (by simpa using h) (λj b a=>?_) ?_ ?_
 .simp only[nI,qL]
  rw[aa (by omega)]
  exact⟨rfl,rfl⟩
 .simp[qL]
 .simp[qL,xw,wB]
theorem Tb:ar (lm n qL s [] ++ [⟨some 2,D,.live⟩]) 1 ⟨none,jT s n.accept.length ++ [.sl (2+s) (2*n.accept.length) 0 n.accept.length],.live⟩=zu n s D:=by
 unfold lm zu jT;rw[gw,jK];simp[ar]
theorem Tc:ak (zu n s D) 1=some ⟨none,jT (s+1) n.accept.length,.live⟩:=rfl
theorem Td{N:Nat}:lQ (jT (s+1) N) s=some (.sl (2+s) (2*N) 0 N):=by rw[jM];simp[jT]
theorem Te:ak (zu n s D) (2+s)=some ⟨some 2,D,.live⟩:=by
 rw[mc,show 2+s=s+1+1 by omega]
 unfold zu;rw[nH,nH,eK (by simp)]
 simp
theorem Th{D' : List AV}:ar (zu n s D) (2+s) ⟨some 2,D', .live⟩=zu n s D' :=by
 rw[tE,show 2+s=s+1+1 by omega]
 unfold zu;rw[q8,q8,List.set_append_right _ _ (by simp)]
 simp
theorem Ti:zu n s (bp n.accept.length qL s)=lm n qL (s+1) []:=by
 unfold zu lm sn;rw[gw,jK,aa (by omega)]
 simp
end
def msE:Nat:=1026
def ms (o:Option (List Int)):Nat:=match o with
 |none=>65^msE
 |some w=>ct w
def S1 (N:Nat) (f:Nat->Nat):Nat:=((List.range N).map f).sum
theorem Cp{N:Nat}{f:Nat->Nat}:S1 (N+1) f=S1 N f+f N:=by simp[S1,gw]
theorem yW{f g:Nat->Nat}:∀{N:Nat},(∀j,j<N->f j=g j)->S1 N f=S1 N g
 |0,_=>rfl
 |N+1,h=>by rw[Cp,Cp,yW λj a=>h j (by omega),h N (by omega)]
theorem yX{f g:Nat->Nat}{i:Nat}:∀{N:Nat},i<N->(∀j,j ≠ i->f j=g j)->f i<g i->S1 N f<S1 N g
 |0,h,_,_=>by omega
 |N+1,h,a,b=>by
  rw[Cp,Cp]
  by_cases e:i=N
  .subst e
   rw[yW λj l=>a j (by omega)]
   omega
  .have:=yX (N:=N) (by omega) a b
   rw[a N λd=>e d.symm];omega
def yY (N:Nat) (T:TO):Nat:=S1 N λs=>S1 N λt=>ms (T (s:Int) (t:Int))
theorem alU{N:Nat}{T:TO}{s t:Nat}(a:s<N) (b:t<N){w:List Int}(h:ct w<ms (T (s:Int) (t:Int))):yY N (ee T (s:Int) (t:Int) w)<yY N T:=by
 refine yX a (λj d=>yW λk _=>?_) (yX b (λk e=>?_) ?_)
 .unfold ee;rw[aa (by omega)]
 .unfold ee;rw[aa (by omega)]
 .unfold ee;rw[ab ⟨rfl,rfl⟩];exact h
structure TI (n:al) (T:TO):Prop where
 ok:yN n.aQ T
 d:∀s,cj n.aQ s->T s s=some []
def Fx (n:al) (T:TO) (s t:Int):Prop:=∀c,tP n.aQ T s t c->c.length<=1024->∃x,T s t=some x/\ct x<=ct c
structure Gt (n:al) (T0 T:TO) (ch:Bool):Prop where
 ti:TI n T
 no:ch=false->T=T0
 yes:ch=true->yY n.accept.length T<yY n.accept.length T0
theorem alV{n:al}:TI n qL:=⟨λs t w _ _ h=>by
 unfold qL at h;split at h
 .rename_i e;subst e;injection h with h;subst h;exact⟨.nil s,by simp⟩
 .simp at h,λs _=>by unfold qL;rw[ab rfl]⟩
section
variable{n:al}{T:TO}{s t:Int}{o:Option (List Int)}{ws:List (List Int)}
variable{w:List Int}
theorem tP.sy' (U:n.Ok) (V:yN n.aQ T) (hs:cj n.aQ s) (ht:cj n.aQ t)(h:tP n.aQ T s t w):sy w:=(h.wd (me U) V hs ht).sy (yS U)
theorem yN.sy (U:n.Ok) (V:yN n.aQ T) (hs:cj n.aQ s) (ht:cj n.aQ t)(h:T s t=some w):Ab.sy w:=(V s t w hs ht h).1.sy (yS U)
theorem alW (b:n.Ok) (d:TI n T) (g:cj n.aQ s) (i:cj n.aQ t) (h:qK n T s t o ws (tP n.aQ T s t)) (e:o=T s t):Fx n T s t:=λc m p=>by
 obtain⟨y,j,q⟩:=Sb (l:=T s t) (ws:=ws) (λx r=>yN.sy b d.ok g i r) (λw u=>(h.c w u).sy' b d.ok g i) (h.a c m) p;rw[<-h.e,e]at j;exact⟨y,j,q⟩
theorem alX (z:n.Ok) (j:TI n T) (m:cj n.aQ s) (u:cj n.aQ t) (h:qK n T s t o ws (tP n.aQ T s t)) (e:o ≠ T s t):∃w,o=some w/\w ≠ []/\ct w<ms (T s t)/\TI n (ee T s t w):=by
 have p:∀w,o=some w->sy w/\Wd n.aQ s t w/\w.length<=1024:=λw g=>by
  rw[h.e]at g;rcases B9 g with g|⟨g,J⟩
  .exact⟨yN.sy z j.ok m u g,j.ok s t w m u g⟩
  .exact⟨(h.c w g).sy' z j.ok m u,(h.c w g).wd (me z) j.ok m u,J⟩
 have main:∃w,o=some w/\ct w<ms (T s t):=by
  cases i:T s t with
  |none=>
   cases q:o with
   |none=>rw[q,i]at e;exact absurd rfl e
   |some w=>
    obtain⟨H,_,I⟩:=p w q;have K:=ux H;have L:65^w.length<=65^msE:=Nat.pow_le_pow_right (by omega) (show w.length<=1026 by omega)
    exact⟨w,rfl,sH K L⟩
  |some x=>
   have A:=yN.sy z j.ok m u i;obtain⟨y,B,C⟩:=IX (l:=T s t) (ws:=ws) A (λw g=>(h.c w g).sy' z j.ok m u) i;rw[<-h.e]at B;refine⟨y,B,?_⟩;show ct y<ct x;have:ct y ≠ ct x:=λD=>by
    have:=Ir (p y B).1 A D;rw[this]at B;exact e (by rw[B,i])
   omega
 obtain⟨w,q,C⟩:=main;obtain⟨H,I,M⟩:=p w q;have E:w ≠ []:=λF=>by
  subst F;have g:=q;rw[h.e]at g;rcases B9 g with g|⟨g,_⟩
  .exact e (by rw[q,g])
  .have:=h.c _ g
   cases this
 refine⟨w,q,E,C,⟨λa b x G N i=>?_,λa G=>?_⟩⟩
 .unfold ee at i
  split at i
  .rename_i r
   injection i with i
   rw[r.1,r.2,<-i];exact⟨I,M⟩
  .exact j.ok a b x G N i
 .unfold ee
  split
  .rename_i r
   have F:=j.d s m;rw[<-r.1,r.2]at F;have D:s=t:=by rw[<-r.1,r.2]
   rw[<-D,j.d s m]at C;simp[ms,ct]at C
  .exact j.d a G
end
theorem alY{n:al}{T:TO}{junk:List ah}{s t:Nat}(a:s<n.accept.length){w:List Int}:ar (lm n T n.accept.length junk) (2+s) ⟨some 2,bp n.accept.length (ee T (s:Int) (t:Int) w) s,.live⟩=lm n (ee T (s:Int) (t:Int) w) n.accept.length junk:=by
 rw[tE,show 2+s=s+1+1 by omega]
 unfold lm;rw[q8,q8,List.set_append_left _ _ (by simp;exact a)]
 congr 3
 apply jJ
 .simp
 .intro j b d
  rw[rh];simp only[k9,nI]
  by_cases e:s=j
  .subst e;rw[ab rfl]
  .rw[aa e,alK λh=>e h.symm]
theorem alZ{n:al}{T a : TO}{junk:List ah}(h:∀s t:Nat,s<n.accept.length->t<n.accept.length->T (s:Int) (t:Int)=a (s:Int) (t:Int)):lm n T n.accept.length junk=lm n a n.accept.length junk:=by
 unfold lm
 congr 3
 refine fv λs b=>?_;have b:=bT.1 b;have e:bp n.accept.length T s=bp n.accept.length a s:=by
  unfold bp;rw[List.flatMap_def,List.flatMap_def]
  congr 1
  exact fv λt d=>by rw[h s t b (bT.1 d)]
 rw[e]
theorem al0{n:al}(U:n.Ok):LX L AY [n.av] [] (λv τ=>∃junk,v = .sl 1 n.accept.length 0 n.accept.length/\τ=lm n n.aQ.lk n.accept.length junk):=by
 refine agP rfl ?_;have jo:=U.cP;simp[-ag];have e0:[⟨some 10,[.int n.calls,.int n.af,.int n.aj,.int n.stack,.int n.start,bL n.accept,bN n.call,bN n.push,bN n.inner,dR n.pop],.live⟩,⟨none,[],.jq⟩]=lm n qL 0 []:=rfl;have e1:(AV.agg [.int n.calls,.int n.af,.int n.aj,.int n.stack,.int n.start,bL n.accept,bN n.call,bN n.push,bN n.inner,dR n.pop]).cells=[.int n.calls,.int n.af,.int n.aj,.int n.stack,.int n.start,bL n.accept,bN n.call,bN n.push,bN n.inner,dR n.pop]:=rfl;rw[e1,e0];refine aM (λs:Nat=>[(1,.int s),(3,.sl 1 s 0 s)]) (λs=>lm n qL s []) (λs=>s<=n.accept.length) (λs=>n.accept.length-s) 0 (by simp[a8]) (by simp) ?_
 intro s s1
 by_cases j:s<n.accept.length
 .have l :=aB j
  have r:=vT (n:=n) (T:=qL) (k:=s) (junk:=[]);have l1:=Co (n:=n) (T:=qL) (k:=s) (junk:=[]);have q0:=λτ=>kk (τ:=τ) r;have q1:=λτ=>kk (τ:=τ) l1;have hlen:=alR (n:=n) (T:=qL) (k:=s) (junk:=[]);have rk:=Ta (k:=s) (N:=n.accept.length);have dl:=alS (N:=n.accept.length) (x:=.bool false) (y:=.ae);have dp:=alT j;have rk1:=Ta (k:=s+1) (N:=n.accept.length);have d0:=λD=>Tb (n:=n) (s:=s) (D:=D);have d1:=λD=>Tc (n:=n) (s:=s) (D:=D);have d2:=λD=>Te (n:=n) (s:=s) (D:=D);have d3:=λD D' =>Th (n:=n) (s:=s) (D:=D) (D' :=D');have d4:=Ti (n:=n) (s:=s);have d5:=Td (s:=s) (N:=n.accept.length);have Jk:(sn s).eT=true:=by unfold sn;split<;>rfl
  have J:s*2+2<=2*n.accept.length:=by omega
  simp[-ag,j,r,q0,q1,hlen,rk,rk1,dl,dp,d0,d1,d2,d3,d4,d5,Jk,J];exact⟨by omega,by omega,by omega,by omega,az (s+1) (by simp) rfl (by omega) (by omega)⟩
 .have:s=n.accept.length:=by omega
  subst this;have r:=vT (n:=n) (T:=qL) (k:=n.accept.length) (junk:=[]);simp[-ag,r];have hN:sn n.accept.length = .live:=by unfold sn;rw[aa (by omega)]
  have V:jT n.accept.length n.accept.length=pS n.accept.length:=rfl;have r0:=S6 (N:=n.accept.length);refine aM (λp:Bool×TO×List ah×AV×AV×AV=>[(4,.bool p.1),(5,p.2.2.2.1),(6,p.2.2.2.2.1),(7,p.2.2.2.2.2)]) (λp=>lm n p.2.1 n.accept.length p.2.2.1)
   (λp=>TI n p.2.1/\(p.1=false->∀s t:Nat,s<n.accept.length->t<n.accept.length->Fx n p.2.1 s t))
   (λp=>2*yY n.accept.length p.2.1+if p.1=true then 1 else 0) (true,qL,[],.aF,.aF,.aF) (by simp[a8]) ⟨alV,by simp⟩ ?_
  rintro⟨ch,T,junk,x5,x6,x7⟩ ⟨k1,k2⟩;dsimp only at k1 k2 ⊢;cases ch with
  |false=>
   simp[-ag];refine⟨junk,alZ λs t j B=>?_⟩;exact akP (yS U) k1.ok k1.d (λa b ha hb=>by
    obtain⟨a,rfl⟩:=gd ha.1;obtain⟨b,rfl⟩:=gd hb.1;have h1:=ha.2;have h2:=hb.2;simp only[al.aQ]at h1 h2;exact k2 rfl a b (by omega) (by omega)) (s:Int) (t:Int) ⟨by omega,by show(s:Int)<(n.accept.length:Int);omega⟩ ⟨by omega,by show(t:Int)<(n.accept.length:Int);omega⟩
  |true=>
   simp[-ag];refine aM (λp:Nat×Bool×TO×List ah×AV×AV=>[(5,.int p.1),(4,.bool p.2.1),(6,p.2.2.2.2.1),(7,p.2.2.2.2.2)]) (λp=>lm n p.2.2.1 n.accept.length p.2.2.2.1)
    (λp=>p.1<=n.accept.length/\Gt n T p.2.2.1 p.2.1/\(p.2.1=false->∀s t:Nat,s<p.1->t<n.accept.length->Fx n T s t))
    (λp=>n.accept.length-p.1) (0,false,T,junk,x6,x7) (by simp[a8]) ⟨by simp,⟨k1,λ_=>rfl,by simp⟩,λ_ s t h=>by dsimp only at h;omega⟩ ?_
   rintro⟨s,Q,T2,j2,y6,y7⟩ ⟨s1,R,g2⟩;dsimp only at s1 R g2 ⊢
   by_cases j:s<n.accept.length
   .have r:=vT (n:=n) (T:=T2) (k:=n.accept.length) (junk:=j2)
    simp[-ag,j,r];refine aM (λp:Nat×Bool×TO×List ah×AV=>[(6,.int p.1),(4,.bool p.2.1),(7,p.2.2.2.2)]) (λp=>lm n p.2.2.1 n.accept.length p.2.2.2.1)
     (λp=>p.1<=n.accept.length/\Gt n T p.2.2.1 p.2.1/\(p.2.1=false->Q=false/\∀t:Nat,t<p.1->Fx n T s t))
     (λp=>n.accept.length-p.1) (0,Q,T2,j2,y7) (by simp[a8]) ⟨by simp,R,λh=>⟨h,λt h=>by dsimp only at h;omega⟩⟩ ?_
    rintro⟨t,S,T3,z,z7⟩ ⟨t1,C,m2⟩;dsimp only at t1 C m2 ⊢;have r:=vT (n:=n) (T:=T3) (k:=n.accept.length) (junk:=z)
    by_cases B:t<n.accept.length
    .have l1:=Co (n:=n) (T:=T3) (k:=n.accept.length) (junk:=z)
     rw[hN,V]at l1;obtain⟨v,τ,M,f,o,ws,I,rfl,rfl,W⟩:=dh (alN U C.ti.ok (σ:=lm n T3 n.accept.length z) l1 (λu hu=>Jj hu) j B);have hj:lm n T3 n.accept.length z++I=lm n T3 n.accept.length (z++I):=by simp[lm]
     rw[hj]at M;have K :=vT (n:=n) (T:=T3) (k:=n.accept.length) (junk:=z++I);have E :=Co (n:=n) (T:=T3) (k:=n.accept.length) (junk:=z++I);rw[hN,V]at E;have lr:=Jj (n:=n) (T:=T3) (k:=n.accept.length) (junk:=z++I) j;have r1:=yV j;have l :=aB j;have g :=aB B;have rl:=Cj (N:=n.accept.length) (T:=T3) (s:=s);have m:=alH (T:=T3) (s:=s) B;have q:=alI (T:=T3) (s:=s) B;have F:cj n.aQ (s:Int):=⟨by omega,by show(s:Int)<(n.accept.length:Int);omega⟩
     have G:cj n.aQ (t:Int):=⟨by omega,by show(t:Int)<(n.accept.length:Int);omega⟩
     by_cases X:o=T3 (s:Int) (t:Int)
     .have fx:=alW U C.ti F G W X
      subst X;have goal:t+1<=n.accept.length/\Gt n T T3 S/\(S=false->Q=false/\∀A : Nat,A < t+1->Fx n T s A):=⟨by omega,C,λh=>⟨(m2 h).1,λA g =>by
       by_cases e:A = t
       .subst e;rw[<-C.no h];exact fx
       .exact(m2 h).2 A (by omega)⟩⟩
      cases P:T3 (s:Int) (t:Int)with
      |none=>
       rw[P]at M m q;simp[-ag,j,B,r,M,K, E, r0,r1,l, lr,rl,g, m,q,lL,lM,lN,mr];exact⟨by omega,az (t+1,S,T3,z++I,.aF) (by simp) rfl goal (by dsimp only;omega)⟩
      |some w=>
       rw[P]at M m q;have Iw:=(C.ti.ok _ _ _ F G P).2;have i:=SR w w (by omega) (by omega)
       rw[decide_eq_true rfl]at i;have i:PC xM [.au false (w.map .int),.au false (w.map .int)]=some (.bool true):=i;simp[-ag,j,B,r,M,K, E, r0,r1,l, lr,rl,g, m,q,lL,lM,lN,mr,Cn,uE,yU,i];exact⟨by omega,az (t+1,S,T3,z++I,.aF) (by simp) rfl goal (by dsimp only;omega)⟩
     .obtain⟨w,rfl,Y,cL,O⟩:=alX U C.ti F G W X
      have hxw:xw f (some w) = .au false (w.map .int):=(ou (f,w)).resolve_left λh=>Y h.2;rw[hxw]at M;have XI:=alU (T:=T3) j B cL;have Z:=alJ (T:=T3) (s:=s) B Y;have H:=alY (n:=n) (T:=T3) (junk:=z++I) (t:=t) j (w:=w);rw[<-Z]at H;have J:t*2+2<=2*n.accept.length:=by omega
      have Iw:w.length<=1024:=(O.ok (s:Int) (t:Int) w F G (by unfold ee;rw[ab ⟨rfl,rfl⟩])).2
      have goal:t+1<=n.accept.length/\Gt n T (ee T3 (s:Int) (t:Int) w) true/\(true=false->Q=false/\∀A : Nat,A < t+1->Fx n T s A):=⟨by omega,⟨O,by simp,λ_=>by
       cases S with
       |true=>have:=C.yes rfl;omega
       |false=>have:=C.no rfl;subst this;exact XI⟩,by simp⟩
      cases P:T3 (s:Int) (t:Int)with
      |none=>
       rw[P]at m q;simp[-ag,j,B,r,M,K, E, r0,r1,l, lr,rl,g, m,q,H,J];exact⟨by omega,az (t+1,true,ee T3 (s:Int) (t:Int) w,z++I,.aF) (by simp) rfl goal (by dsimp only;omega)⟩
      |some x=>
       rw[P]at m q X;have L9:=(C.ti.ok _ _ _ F G P).2;have i:=SR w x (by omega) (by omega)
       rw[oV (λe=>X (by rw[e]))]at i
       have i:PC xM [.au false (w.map .int),.au false (x.map .int)]=some (.bool false):=i;simp[-ag,j,B,r,M,K, E, r0,r1,l, lr,rl,g, m,q,H,J,lL,lM,lN,mr,Cn,uE,yU,i];exact⟨by omega,az (t+1,true,ee T3 (s:Int) (t:Int) w,z++I,.aF) (by simp) rfl goal (by dsimp only;omega)⟩
    .simp[-ag,B,r]
     exact⟨by omega,az (s+1,S,T3,z,.aF,z7) (by simp) rfl ⟨by dsimp only;omega,C,λh s' A l g =>by
      dsimp only at h l;obtain⟨h1,h2⟩:=m2 h
      by_cases e:s' = s
      .subst e;exact h2 A (by omega)
      .exact g2 h1 s' A (by omega) g⟩ (by dsimp only;omega)⟩
   .have r:=vT (n:=n) (T:=T2) (k:=n.accept.length) (junk:=j2)
    simp[-ag,j,r];refine az (Q,T2,j2,.int s,y6,y7) (by simp) rfl ⟨R.ti,λh s' A l g =>by
     dsimp only at h ⊢;have:=R.no h;subst this;exact g2 h s' A (by omega) g⟩ ?_
    dsimp only;cases Q with
    |true=>have:=R.yes rfl;simp;omega
    |false=>have:=R.no rfl;subst this;simp
theorem Tj{α:Type}{f g:α->AV}{rest:List AV}:∀{l:List α},chunk (some 2) l.length ((l.flatMap λx=>[f x,g x])++rest)=l.map λx=>.agg [f x,g x]
 | []=>rfl
 |x::l=>by
  have:=Tj (f:=f) (g:=g) (rest:=rest) (l:=l);simp only[bX,gX,cJ,jI,oQ,chunk,List.take_succ_cons,List.take_zero,List.drop_succ_cons,kF,this]
theorem al1{σ:List ah}{k:Nat}{f:Bool}{o:Option (List Int)}:view σ false (k+1) (xw f o)=some (iL (o.getD [])):=by
 rcases tS f o with⟨h,e⟩|h
 .rw[h,e];rfl
 .rw[h];rfl
theorem al2{σ:List ah}{N k s b:Nat}{T:TO}(h:ak σ b=some ⟨some 2,bp N T s,.live⟩):view σ false (k+3) (.sl b (2*N) 0 N)=some (.au false ((List.range N).map λ(t:Nat)=>bw (T (s:Int) (t:Int)))):=by
 have a:=Cj (N:=N) (T:=T) (s:=s);have i:upto σ b (2*N)=some ⟨some 2,bp N T s,.live⟩:=by
  unfold upto;rw[h];simp[a]
 unfold view;simp only[i,aE,kF,gq];rw[ab (by rw[a];omega)]
 have d:=Tj (f:=λ(t:Nat)=>AV.bool (T (s:Int) (t:Int)).isSome) (g:=λ(t:Nat)=>xw true (T (s:Int) (t:Int))) (rest:=[]) (l:=List.range N);rw[List.append_nil,qk]at d;have e:chunk (some 2) N (bp N T s)=(List.range N).map λ(t:Nat)=>AV.agg [.bool (T (s:Int) (t:Int)).isSome,xw true (T (s:Int) (t:Int))]:=d;rw[e,yj (g:=λ(t:Nat)=>bw (T (s:Int) (t:Int))) λt _=>?_];unfold view;simp only[bI,al1]
 rfl
noncomputable def Jl (n:al):AV:=.au false ((List.range n.accept.length).map λ(s:Nat)=>.au false ((List.range n.accept.length).map λ(t:Nat)=>bw (n.aQ.lk (s:Int) (t:Int))))
theorem al3{n:al}(d:n.Ok):PC AY [n.av]=some (Jl n):=by
 refine bP ?_;obtain⟨q, h, i,junk,rfl,rfl⟩:=dh (al0 d);refine uj i ?_;have j:=d.cP;have m:sn n.accept.length = .live:=by unfold sn;rw[aa (by omega)]
 have o:bV (lm n n.aQ.lk n.accept.length junk) false (.sl 1 n.accept.length 0 n.accept.length)=some (Jl n):=by
  have e:∀(σ:List ah) (b u a l:Nat),bV σ false (.sl b u a l)=view σ false (11+1) (.sl b u a l):=λ_ _ _ _ _=>rfl;rw[e];refine Bo (f:=λ(s:Nat)=>AV.sl (2+s) (2*n.accept.length) 0 n.accept.length) (g:=λ(s:Nat)=>.au false ((List.range n.accept.length).map λ(t:Nat)=>bw (n.aQ.lk (s:Int) (t:Int)))) (xs:=List.range n.accept.length) (st:=.live) (by rw[Co,m];rfl) (by simp) (by simp) λs p=>?_
  exact al2 (k:=8) (Jj (bT.1 p))
 rw[o]
 rfl
structure BfD (n:al) (t:Nat) (o:Option (List Int)):Prop where
 so:∀w,o=some w->∃u,cj n.aQ u/\ix n.accept u=true/\n.aQ.lk n.start u=some w
 le:∀u:Nat,u<t->ix n.accept (u:Int)=true->∀v,n.aQ.lk n.start (u:Int)=some v->∃w,o=some w/\ct w<=ct v
theorem al4{n:al}(F:n.Ok):PC G5 [n.av]=some (tR (n.aQ.f1 n.start (ix n.accept)) (n.aQ.zp n.start (ix n.accept))):=by
 refine bP (agi rfl ?_);have hl:=al3 F;have hc:=aiZ n F;have jo:=F.cP;have b:=F.start;unfold Jl at hl;simp[-ag,hl,hc];obtain⟨W,B⟩:=gd b.1;have I:=Qa (M:=n.aQ);have X:n.aQ.size=n.accept.length:=rfl;have J:=I.row (s:=n.start) b.1 b.2;have Y:=I.1;rw[X]at J Y;have K:=aB (show n.start<((oo n.aQ).length:Int)by omega)
 have L:ix (List.range n.accept.length) n.start=W:=by rw[P3 b.1 b.2,B];rfl
 have N:=b.1;have apb:cj n.aQ n.start:=b;generalize m:ix (oo n.aQ) n.start=row at *;refine aM (λp:Nat×Bool×Option (List Int)=>[(2,.int p.1),(3,.bool (wC row n.accept p.1))]) (λp=>[⟨some 2,[.bool p.2.2.isSome,xw p.2.1 p.2.2],.live⟩]) (λp=>p.1<=n.accept.length/\BfD n p.1 p.2.2) (λp=>n.accept.length-p.1) (0,true,none) (by simp[a8,wC,xw]) ⟨by simp,λw h=>by simp at h,λu h=>by dsimp only at h;omega⟩ ?_
 rintro⟨t,f,o⟩ ⟨t1,q⟩;dsimp only at t1 q ⊢
 by_cases O:t<n.accept.length
 .have hta:=aB (show(t:Int)<(n.accept.length:Int)by omega)
  have P:=aB (show(t:Int)<(row.length:Int)by omega)
  have Q:=aB (show t<(ix (oo n.aQ) n.start).length by rw[m];omega)
  have wq:ix (List.range n.accept.length) (t:Int)=t:=by rw[P3 (by omega) (by omega)];simp
  have e:=alx (row:=row) (gs:=n.accept) (t:=t);cases r:ix n.accept (t:Int)with
  |false=>
   rw[r]at e;simp at e;simp[-ag,O,r];exact⟨by omega,az (t+1,f,o) (by simp[e]) rfl ⟨by dsimp only;omega,q.so,λu G g v j=>by
    by_cases A:u=t
    .subst A;rw[r]at g;simp at g
    .exact q.le u (by dsimp only at G;omega) g v j⟩ (by dsimp only;omega)⟩
  |true=>
   have Z:cj n.aQ (t:Int):=⟨by omega,by show(t:Int)<(n.accept.length:Int);omega⟩
   cases C:n.aQ.lk n.start (t:Int)with
   |none=>
    have D : n.aQ.lk (W:Int) (t:Int)=none:=by rw[<-B];exact C
    have goal:t+1<=n.accept.length/\BfD n (t+1) o:=⟨by omega,q.so,λu G g v j=>by
     by_cases A:u=t
     .subst A;rw[C]at j;simp at j
     .exact q.le u (by omega) g v j⟩
    rw[r]at e;cases i:wC row n.accept t<;>cases l:ix row (t:Int)<;>rw[i,l]at e<;>simp at e<;>simp[-ag,O,r,K,N,L,wq,D, bw,P,Q,m,i,l,b.2]<;>exact⟨by omega,az (t+1,f,o) (by simp[e,bw]) rfl goal (by dsimp only;omega)⟩
   |some y=>
    have D : n.aQ.lk (W:Int) (t:Int)=some y:=by rw[<-B];exact C
    have d:=yS F;have R:=((tM d).1 C).1.1.sy d;have yl:=Ja d C;have ol:∀x,o=some x->sy x/\x.length<=1024:=λx h=>by
     obtain⟨u,_,_,S⟩:=q.so x h;exact⟨((tM d).1 S).1.1.sy d,Ja d S⟩
    have hb:=Jg o y (λx h=>by have:=(ol x h).2;omega) (by omega)
    have hb:PC rL [.agg [.bool o.isSome,.au false ((o.getD []).map .int)],.au false (y.map .int)]=some (.agg [.bool (lT o y).isSome,xw false (lT o y)]):=by
     rw[Ji];exact hb
    have goal:t+1<=n.accept.length/\BfD n (t+1) (lT o y):=⟨by omega,λw H=>by
     rcases B8 H with H|⟨rfl,_⟩
     .exact q.so w H
     .exact⟨(t:Int),Z,r,C⟩,λu G g v j=>by
     by_cases A:u=t
     .subst A
      rw[C]at j;injection j with j
      subst j;exact Sa (λx h=>(ol x h).1) R yl
     .obtain⟨w,H,hr⟩:=q.le u (by omega) g v j
      obtain⟨z,hz,D9⟩:=R9 (ol w H).1 R H;exact⟨z,hz,by omega⟩⟩
    rw[r]at e;cases i:wC row n.accept t<;>cases l:ix row (t:Int)<;>rw[i,l]at e<;>simp at e<;>simp[-ag,O,r,K,N,L,wq,D, bw,P,Q,m,i,l,b.2,lL,lM,lN,mr,yU,hb]<;>exact⟨by omega,az (t+1,false,lT o y) (by simp[e,bw]) rfl goal (by dsimp only;omega)⟩
 .have:t=n.accept.length:=by omega
  subst this;have d:=yS F;have T:wC row n.accept n.accept.length=true↔∃t,cj n.aQ t/\ix n.accept t=true/\fw n.aQ n.start t:=by
   rw[SP];constructor
   .rintro⟨t,i,l,h3⟩
    exact⟨t,i,h3,(HM b.1 b.2 i.1 i.2).1 (by rw[m];exact l)⟩
   .rintro⟨t,i,h3,l⟩
    exact⟨t,i,by rw[<-m];exact(HM b.1 b.2 i.1 i.2).2 l,h3⟩
  have U:∀u,cj n.aQ u->ix n.accept u=true->∀v,n.aQ.lk n.start u=some v->∃w,o=some w/\ct w<=ct v:=λu G g v j=>by
   obtain⟨u,rfl⟩:=gd G.1;have l:=G.2;simp only[al.aQ]at l;exact q.le u (by omega) g v j
  cases o with
  |none=>
   have V:n.aQ.f1 n.start (ix n.accept)=none:=akS d λt O hgt=>by
    cases e:n.aQ.lk n.start t with
    |none=>rfl
    |some w=>
     obtain⟨w', i,_⟩:=U t O hgt w e;simp at i
   cases E:wC row n.accept n.accept.length with
   |true=>
    have hE:n.aQ.zp n.start (ix n.accept)=3:=by unfold eI.zp;rw[ab ⟨T.1 E,V⟩]
    rw[V,hE];simp[-ag,E,tR]
   |false=>
    have hE:n.aQ.zp n.start (ix n.accept)=0:=by unfold eI.zp;rw[aa λh=>by rw[T.2 h.1]at E;simp at E]
    have hj:PC qv [.au false [xw f none]]=some (.au false []):=by
     have:=Cg [(f,[])] (by simp) (by simp)
     have A:xw f none=wB (f,[]):=by cases f<;>rfl
     rw[A];exact this
    rw[V,hE];simp[-ag,E,tR,lL,lM,lN,mr,hj]
  |some w=>
   obtain⟨u,u1,u2,S⟩:=q.so w rfl;have V:=akT d u1 u2 S λa v r hga j=>by
    obtain⟨w', i,l⟩:=U a r hga v j;injection i with i
    rw[i];exact l
   have Iw:=Ja d S;have hj:PC qv [.au false [xw f (some w)]]=some (.au false (w.map .int)):=by
    have:=Cg [(f,w)] (by simp) (by simp;omega)
    have A:([(f,w)].map (·.2)).flatten=w:=by simp
    rw[A]at this;exact this
   rw[V];cases E:wC row n.accept n.accept.length<;>simp[-ag,E,tR,lL,lM,lN,mr,hj]
def sr (K:Nat) (R:List (List Int)):List ah:=⟨none,(List.range R.length).map λi=>.sl (1+i) K 0 K,sn R.length⟩::R.map bG
def gV (a b:al) (s m:Nat):List (List Int):=(List.range m).map (fM a b s)
variable{m:Nat}
theorem al5{a b:al}{s:Nat}:gV a b s (m+1)=gV a b s m ++ [fM a b s m]:=by simp[gV,gw]
theorem Jm{a b:al}{s:Nat}:(gV a b s m).length=m:=by simp[gV]
section
variable{K:Nat}{R:List (List Int)}
theorem al6:(sr K R).length=1+R.length:=by simp[sr];omega
theorem Tl{l:List ah}:ak (sr K R++l) 0=some ⟨none,(List.range R.length).map λi=>.sl (1+i) K 0 K,sn R.length⟩:=rfl
theorem al7{r:List Int}:ar (sr K R ++ [bG r]) 0 ⟨none,((List.range R.length).map λi=>AV.sl (1+i) K 0 K) ++ [.sl (1+R.length) K 0 K],.live⟩=sr K (R ++ [r]):=by
 unfold sr sn;simp[ar,gw]
theorem al8 (d:∀r∈R,r.length=K):view (sr K R) false vd (.sl 0 R.length 0 R.length)=some (bN R):=by
 have h:(sn R.length).eT=true:=by unfold sn;split<;>rfl
 have e:R.map iL=(List.range R.length).map λ(i:Nat)=>iL (ix R (i:Int)):=by
  apply jJ
  .simp
  .intro i b m
   simp at b;simp[aG b]
 show view _ false (11+1) _=some (.au false (R.map iL));rw[e];refine Bo (f:=λi=>AV.sl (1+i) K 0 K) (xs:=List.range R.length) (st:=sn R.length) rfl h (by simp) λi a=>?_
 have a:=bT.1 a;have j:ak (sr K R) (1+i)=some (bG (ix R (i:Int))):=by
  rw[mc,show 1+i=i+1 by omega]
  unfold sr;rw[nH];simp[a,aG a]
 have l:=d (ix R (i:Int)) (aO (by omega) (by omega))
 exact fj (k:=10) (f:=AV.int) (g:=AV.int) (xs:=ix R (i:Int)) j (by split<;>rfl) l.symm λ_ _=>rfl
end
theorem al9{a b:al}(h:fW a b){x y s:Nat}(hs:s<oI a b) (V:x=s/gO b) (W:y=s%gO b):PC Hk [a.av,b.av,.int x,.int y]=some (bN (fm a b s)):=by
 refine bP (agS rfl ?_);obtain⟨i,j⟩:=h.xy (s:=(s:Int)) (by omega) (by omega)
 rw[je,<-V]at i;rw[je,<-W]at j;have hga:=h.oa.stack;have hgb:=h.ob.stack;have F:=h.oa.aj;obtain⟨A,hGa⟩:=gd (show 0<=a.stack by omega)
 obtain⟨d,hGb⟩:=gd (show 0<=b.stack by omega)
 obtain⟨K,hK⟩:=gd F.1;simp[-ag];refine aM (λg:Nat=>[(4,.int g),(10,.sl 0 (g*d) 0 (g*d))]) (λg=>sr K (gV a b s (g*d))) (λg=>g<=A) (λg=>A-g) 0 (by simp[a8,gV,sr,sn]) (by simp) ?_
 intro g g1
 by_cases hg:g<A
 .have o:=aB (show(g:Int)<a.stack by omega)
  simp[-ag,o];refine aM (λk:Nat=>[(6,.int k),(10,.sl 0 (g*d+k) 0 (g*d+k))]) (λk=>sr K (gV a b s (g*d+k))) (λk=>k<=d) (λk=>d-k) 0 (by simp[a8]) (by simp) ?_
  intro k k1
  by_cases X:k<d
  .have p:=aB (show(k:Int)<b.stack by omega)
   have hlen:=al6 (K:=K) (R:=gV a b s (g*d+k));rw[Jm]at hlen;simp[-ag,p,hlen];have G:(g*d+k)/d=g:=by rw[jd,Nat.mul_add_div (by omega),rf X,lW]
   have H:(g*d+k)%d=k:=by rw[jd,Nat.mul_add_mod,pZ X]
   have I:b.stack.toNat=d:=by omega
   have hmB:g*d+k+1<=128*128:=by
    have:g*d<=127*128:=oP (by omega) (by omega)
    omega
   have dO:fM a b s (g*d+k)=(List.range K).map λ(r:Nat)=>ix (ix (ix a.pop (x:Int)) (g:Int)) (r:Int)*(gO b:Int)+ix (ix (ix b.pop (y:Int)) (k:Int)) (r:Int):=by
    unfold fM;rw[I,G,H,<-V,<-W,show a.aj.toNat=K by omega]
   have J:=al5 (a:=a) (b:=b) (s:=s) (m:=g*d+k);have w:=Jm (a:=a) (b:=b) (s:=s) (m:=g*d+k);generalize fM a b s (g*d+k)=row at *;generalize gV a b s (g*d+k)=R at *;have qC:row.length=K:=by rw[dO];simp
   generalize hm:g*d+k=m at *;have C:=λl:List Int=>Tl (K:=K) (R:=R) (l:=[bG l]);have L:=λl:List Int=>vQ (σ:=sr K R) (B:=bG l) (n:=1+m) hlen.symm;have D:=λ(l:List Int) (B:ah)=>vR (σ:=sr K R) (τ:=[bG l]) (k:=0) (B:=B);simp only[lW,hlen,List.set_cons_zero]at D;refine aM (λr:Nat=>[(8,.int r),(9,.sl (1+m) r 0 r)]) (λr=>sr K R ++ [bG (row.take r)]) (λr=>r<=K) (λr=>K-r) 0 (by simp[a8]) (by simp) ?_
   intro r r1
   by_cases E:r<K
   .have q:=aB (show(r:Int)<a.aj by omega)
    have la:=h.oa.lens;have lb:=h.ob.lens;have ra:=h.oa.row (x:Int) (by omega) i
    have rb:=h.ob.row (y:Int) (by omega) j
    have pa:=h.oa.tD (x:Int) (g:Int) (by omega) i (by omega) (by omega)
    have pb:=h.ob.tD (y:Int) (k:Int) (by omega) j (by omega) (by omega)
    have hcr:=h.r;have Y:=h.oa.pop (x:Int) (g:Int) (r:Int) (by omega) i (by omega) (by omega) (by omega) (by omega)
    have vb:=h.ob.pop (y:Int) (k:Int) (r:Int) (by omega) j (by omega) (by omega) (by omega) (by omega)
    have a1:=aB (show(x:Int)<(a.pop.length:Int)by omega)
    have a2:=aB (show(g:Int)<((ix a.pop (x:Int)).length:Int)by omega)
    have a3:=aB (show(r:Int)<((ix (ix a.pop (x:Int)) (g:Int)).length:Int)by omega)
    have b1:=aB (show(y:Int)<(b.pop.length:Int)by omega)
    have b2:=aB (show(k:Int)<((ix b.pop (y:Int)).length:Int)by omega)
    have b3:=aB (show(r:Int)<((ix (ix b.pop (y:Int)) (k:Int)).length:Int)by omega)
    have M:=mY Y vb;have Af:=nK Y.1 (show 0<=(b.accept.length:Int)by omega)
    have N:=h.n;have O:((a.accept.length:Int)*(b.accept.length:Int))=((a.accept.length*b.accept.length:Nat):Int):=by rw[iI]
    rw[O]at M;have P:ix row (r:Int)=ix (ix (ix a.pop (x:Int)) (g:Int)) (r:Int)*(b.accept.length:Int)+ix (ix (ix b.pop (y:Int)) (k:Int)) (r:Int):=by
     rw[dO,aG (by simp;exact E)];simp[gO]
    have tk:row.take (r+1)=row.take r ++ [ix row (r:Int)]:=by
     rw[k8,cO (by omega),aG (by omega)];rfl
    have tl:(row.take r).length=r:=by simp;omega
    have z:sr K R ++ [⟨none,((row.take r).map AV.int) ++ [.int (ix row (r:Int))],.live⟩]=sr K R ++ [bG (row.take (r+1))]:=by
     rw[tk];simp
    rw[P]at z;have Q : -9223372036854775808<=ix (ix (ix a.pop (x:Int)) (g:Int)) (r:Int)*(b.accept.length:Int)/\ix (ix (ix a.pop (x:Int)) (g:Int)) (r:Int)*(b.accept.length:Int)<=9223372036854775807:=by omega
    have S : -9223372036854775808<=ix (ix (ix a.pop (x:Int)) (g:Int)) (r:Int)*(b.accept.length:Int)+ix (ix (ix b.pop (y:Int)) (k:Int)) (r:Int)/\ix (ix (ix a.pop (x:Int)) (g:Int)) (r:Int)*(b.accept.length:Int)+ix (ix (ix b.pop (y:Int)) (k:Int)) (r:Int)<=9223372036854775807:=by omega
    generalize hT:row.take r=T at *;have L:=L T;have D:=D T;simp[-ag,q,a1,a2,a3,b1,b2,b3,L,D,tl,Q,S,z];exact⟨by split<;>rfl,by omega,by omega,az (r+1) (by simp) rfl (by omega) (by omega)⟩
   .have:r=K:=by omega
    subst this;have q:=dN (show ¬(r:Int)<a.aj by omega)
    have U:row.take r=row:=fc (by omega)
    rw[U];have C:=C row;have e:=al7 (K:=r) (R:=R) (r:=row);rw[w]at e C;simp[-ag,q,C,e,w];have u:g*d+(k+1)=m+1:=by omega
    exact⟨by unfold sn;split<;>rfl,by omega,by omega,az (k+1) (by simp[u]) (by rw[u,J]) (by omega) (by omega)⟩
  .have:k=d:=by omega
   subst this;have p:=dN (show ¬(k:Int)<b.stack by omega)
   simp[-ag,p];have u:(g+1)*k=g*k+k:=Nat.succ_mul g k;exact⟨by omega,az (g+1) (by simp[u]) (by rw[u]) (by omega) (by omega)⟩
 .have:g=A:=by omega
  subst this;have o:=dN (show ¬(g:Int)<a.stack by omega)
  have Z:=al8 (K:=K) (R:=gV a b s (g*d)) (λr E=>by
   simp only[gV,cB]at E;obtain⟨m,_,rfl⟩:=E;simp[fM];omega)
  rw[Jm]at Z;simp[-ag,o,Z];have u:gV a b s (g*d)=fm a b s:=by
   unfold gV fm;rw[show a.stack.toNat=g by omega,show b.stack.toNat=d by omega]
  rw[u]
def Jn (j:Nat):Nat:=if j=0 then 2 else 7+3*j
def Jo (j:Nat):Nat:=if j=0 then 3 else 8+3*j
def Jp (j:Nat):Nat:=if j=0 then 4 else 9+3*j
def uF (p:Nat->Nat) (i K:Nat):List AV:=(List.range i).map λj=>.sl (p j) K 0 K
def nj (a b:al) (i:Nat):List ah:=
 if i=0 then[⟨some 10,[.int 0,.int 0,.int 0,.int 0,.int 0,.ae,.ae,.ae,.ae,.ae],.live⟩,⟨some 10,[.int a.calls,.int a.af,.int a.aj,.int (a.stack*b.stack),.int (a.start*(b.accept.length:Int)+b.start),.ae,.ae,.ae,.ae,.ae],.live⟩]
 else⟨some 10,[.int 0,.int 0,.int 0,.int 0,.int 0,.ae,.ae,.ae,.ae,.ae],.live⟩::⟨some 10,[.int a.calls,.int a.af,.int a.aj,.int (a.stack*b.stack),.int (a.start*(b.accept.length:Int)+b.start),.sl 5 i 0 i,.sl 6 i 0 i,.sl 7 i 0 i,.sl 8 i 0 i,.sl 9 i 0 i],.live⟩::bG (dd a b 0)::bG (de a b 0)::bG (eG a b 0)::⟨none,((List.range i).map (mD a b)).map .bool,.live⟩::⟨none,uF Jn i a.calls.toNat,.live⟩::⟨none,uF Jo i a.calls.toNat,.live⟩::⟨none,uF Jp i a.af.toNat,.live⟩::⟨none,(List.range i).map (λj=>bN (fm a b j)),.live⟩::(List.range (i-1)).flatMap λj=>[bG (dd a b (j+1)),bG (de a b (j+1)),bG (eG a b (j+1))]
def Jq (i:Nat):Nat:=if i=0 then 2 else 7+3*i
theorem Tm{α:Type}{f g h:α->ah}:∀{l:List α},(l.flatMap λx=>[f x,g x,h x]).length=3*l.length
 | []=>rfl
 |p::l=>by
  have:=Tm (f:=f) (g:=g) (h:=h) (l:=l);simp only[gX,aY,bX,dg]at this ⊢;omega
theorem ama{a b:al}{i:Nat}:(nj a b i).length=Jq i:=by
 unfold nj Jq;split
 .rfl
 .simp only[bX,Tm,qk];omega
theorem yZ{σ τ:List ah}{k:Nat}:ak (σ++τ) (σ.length+k)=τ[k]?:=by
 rw[mc,eK (by omega),show σ.length+k-σ.length=k by omega]
section
variable{σ:List ah}{p q r X:ah}{n:Nat}
theorem amb (h:σ.length=n):ak (σ ++ [p,q,r]) n=some p:=by subst h;exact yZ (k:=0)
theorem amc (h:σ.length=n):ak (σ ++ [p,q,r]) (n+1)=some q:=by subst h;exact yZ (k:=1)
theorem amd (h:σ.length=n):ak (σ ++ [p,q,r]) (n+2)=some r:=by subst h;exact yZ (k:=2)
theorem ame (h:σ.length=n):ar (σ ++ [p,q,r]) n X=σ ++ [X,q,r]:=by subst h;exact vR (k:=0)
theorem amf (h:σ.length=n):ar (σ ++ [p,q,r]) (n+1) X=σ ++ [p,X,r]:=by subst h;exact vR (k:=1)
theorem amg (h:σ.length=n):ar (σ ++ [p,q,r]) (n+2) X=σ ++ [p,q,X]:=by subst h;exact vR (k:=2)
end
theorem amh{p:Nat->Nat}{i K:Nat}:(uF p i K).length=i:=by simp[uF]
theorem ami{p:Nat->Nat}{i K:Nat}:uF p (i+1) K=uF p i K ++ [.sl (p i) K 0 K]:=by simp[uF,gw]
theorem amj{p:Nat->Nat}{K:Nat}:uF p 1 K=[.sl (p 0) K 0 K]:=by simp[uF]
theorem pfl{a b:al}{s:Nat}(h:s ≠ 0){rest:List ah}(d:(List.range (s-1)).flatMap (λj=>[bG (dd a b (j+1)),bG (de a b (j+1)),bG (eG a b (j+1))])=rest):(List.range s).flatMap (λj=>[bG (dd a b (j+1)),bG (de a b (j+1)),bG (eG a b (j+1))])=rest ++ [bG (dd a b s),bG (de a b s),bG (eG a b s)]:=by
 obtain⟨t,rfl⟩:=Nat.exists_eq_succ_of_ne_zero h;rw[<-d,Nat.succ_eq_add_one,Nat.add_sub_cancel,gw,List.flatMap_append];simp
theorem Dg{α:Type}{f g h:α->ah}:∀{l:List α}{k:Nat},(l.flatMap λx=>[f x,g x,h x])[3*k]? = (l[k]?).map f
 | [],k=>by simp
 |x::l,0=>rfl
 |x::l,k+1=>by
  have:=Dg (f:=f) (g:=g) (h:=h) (l:=l) (k:=k);rw[show 3*(k+1)=3*k+3 by omega]
  simpa using this
theorem Dh{α:Type}{f g h:α->ah}:∀{l:List α}{k:Nat},(l.flatMap λx=>[f x,g x,h x])[3*k+1]? = (l[k]?).map g
 | [],k=>by simp
 |x::l,0=>rfl
 |x::l,k+1=>by
  have:=Dh (f:=f) (g:=g) (h:=h) (l:=l) (k:=k);rw[show 3*(k+1)+1=(3*k+1)+3 by omega]
  simpa using this
theorem Di{α:Type}{f g h:α->ah}:∀{l:List α}{k:Nat},(l.flatMap λx=>[f x,g x,h x])[3*k+2]? = (l[k]?).map h
 | [],k=>by simp
 |x::l,0=>rfl
 |x::l,k+1=>by
  have:=Di (f:=f) (g:=g) (h:=h) (l:=l) (k:=k);rw[show 3*(k+1)+2=(3*k+2)+3 by omega]
  simpa using this
section
variable{a b:al}{i j:Nat}
theorem To (h:j<i):ak (nj a b i) (Jn j)=some (bG (dd a b j)):=by
 unfold nj;rw[aa (show ¬i=0 by omega)];unfold Jn
 by_cases d:j=0
 .subst d;rfl
 .obtain⟨t,rfl⟩:=Nat.exists_eq_succ_of_ne_zero d
  rw[aa d,show 7+3*(t.succ)=3*t+10 by omega,mc]
  simp only[nH];rw[Dg,qi (by omega)];rfl
theorem Tp (h:j<i):ak (nj a b i) (Jo j)=some (bG (de a b j)):=by
 unfold nj;rw[aa (show ¬i=0 by omega)];unfold Jo
 by_cases d:j=0
 .subst d;rfl
 .obtain⟨t,rfl⟩:=Nat.exists_eq_succ_of_ne_zero d
  rw[aa d,show 8+3*(t.succ)=3*t+1+10 by omega,mc]
  simp only[nH];rw[Dh,qi (by omega)];rfl
theorem Tq (h:j<i):ak (nj a b i) (Jp j)=some (bG (eG a b j)):=by
 unfold nj;rw[aa (show ¬i=0 by omega)];unfold Jp
 by_cases d:j=0
 .subst d;rfl
 .obtain⟨t,rfl⟩:=Nat.exists_eq_succ_of_ne_zero d
  rw[aa d,show 9+3*(t.succ)=3*t+2+10 by omega,mc]
  simp only[nH];rw[Di,qi (by omega)];rfl
theorem Jr{σ:List ah}{p:Nat->Nat}{F:Nat->List Int}{k K:Nat}(a:ak σ k=some ⟨none,uF p i K,.live⟩) (b:∀j,j<i->ak σ (p j)=some (bG (F j))) (d:∀j,(F j).length=K):view σ false 11 (.sl k i 0 i)=some (bN ((List.range i).map F)):=by
 have e:bN ((List.range i).map F) = .au false ((List.range i).map λj=>iL (F j)):=by simp[bN]
 rw[e];refine Bo (k:=10) (f:=λj=>AV.sl (p j) K 0 K) (g:=λj=>iL (F j)) (xs:=List.range i) (st:=.live) a rfl (by simp) λj h=>?_
 exact fj (k:=9) (f:=AV.int) (g:=AV.int) (xs:=F j) (b j (bT.1 h)) (by split<;>rfl) (d j).symm λ_ _=>rfl
theorem amk{σ:List ah}(h:i ≠ 0) (m:i=oI a b) (d:∀k,1<=k->ak σ k=ak (nj a b i) k):view σ false 11 (.sl 5 i 0 i)=some (bL (cW a b).accept)/\view σ false 11 (.sl 6 i 0 i)=some (bN (cW a b).call)/\view σ false 11 (.sl 7 i 0 i)=some (bN (cW a b).push)/\view σ false 11 (.sl 8 i 0 i)=some (bN (cW a b).inner)/\view σ false 11 (.sl 9 i 0 i)=some (dR (cW a b).pop):=by
 have n:ak σ 5=some ⟨none,((List.range i).map (mD a b)).map .bool,.live⟩:=by rw[d 5 (by omega)];unfold nj;rw[aa h]
 have o:ak σ 6=some ⟨none,uF Jn i a.calls.toNat,.live⟩:=by rw[d 6 (by omega)];unfold nj;rw[aa h]
 have p:ak σ 7=some ⟨none,uF Jo i a.calls.toNat,.live⟩:=by rw[d 7 (by omega)];unfold nj;rw[aa h]
 have q:ak σ 8=some ⟨none,uF Jp i a.af.toNat,.live⟩:=by rw[d 8 (by omega)];unfold nj;rw[aa h]
 have r:ak σ 9=some ⟨none,(List.range i).map (λj=>bN (fm a b j)),.live⟩:=by rw[d 9 (by omega)];unfold nj;rw[aa h]
 have s:view σ false 11 (.sl 5 i 0 i)=some (bL ((List.range i).map (mD a b))):=fj (k:=10) (f:=AV.bool) (g:=AV.bool) n rfl (by simp) λ_ _=>rfl
 have u:=Jr (F:=dd a b) o (λj l=>by rw[d _ (by unfold Jn;split<;>omega)];exact To l) (λj=>by simp[dd])
 have w:=Jr (F:=de a b) p (λj l=>by rw[d _ (by unfold Jo;split<;>omega)];exact Tp l) (λj=>by simp[de])
 have x:=Jr (F:=eG a b) q (λj l=>by rw[d _ (by unfold Jp;split<;>omega)];exact Tq l) (λj=>by simp[eG])
 have y:view σ false 11 (.sl 9 i 0 i)=some (dR ((List.range i).map (fm a b))):=by
  have e:dR ((List.range i).map (fm a b)) = .au false ((List.range i).map λj=>bN (fm a b j)):=by simp[dR]
  rw[e];exact fj (k:=10) (f:=λj=>bN (fm a b j)) (g:=λj=>bN (fm a b j)) r rfl (by simp) λ_ _=>rfl
 rw[s,u,w,x,y,m];exact⟨rfl,rfl,rfl,rfl,rfl⟩
theorem aml{ce:CE}{a b d e g h i j l m:AV}{r:List ah}:ev ce (⟨some 10,[a,b,d,e,g,h,i,j,l,m],.live⟩::r) 0 [] (λ_=>.ptr 0 (aE (some 10)) 0) (.ld (.v 0) (some 10))=some (.agg [a,b,d,e,g,h,i,j,l,m],none):=(rfl)
end
theorem amm{a b:al}(h:fW a b):PC G6 [a.av,b.av]=some (cW a b).av:=by
 refine bP (agj rfl ?_);have hga:=h.oa.stack;have hgb:=h.ob.stack;have K:=h.oa.start;have U:=h.ob.start;have g1:=h.g;have n1:=h.n;have gp:=nK (show 0<=a.stack by omega) (show 0<=b.stack by omega)
 have sp:=nK K.1 (show 0<=(b.accept.length:Int)by omega)
 have pl:=mY K U;have u:((a.accept.length:Int)*(b.accept.length:Int))=((a.accept.length*b.accept.length:Nat):Int):=by rw[iI]
 rw[u]at pl;have V : -9223372036854775808<=a.stack*b.stack/\a.stack*b.stack<=9223372036854775807:=by omega
 have W : -9223372036854775808<=a.start*(b.accept.length:Int)/\a.start*(b.accept.length:Int)<=9223372036854775807:=by omega
 have Y : -9223372036854775808<=a.start*(b.accept.length:Int)+b.start/\a.start*(b.accept.length:Int)+b.start<=9223372036854775807:=by omega
 simp[-ag,V,W,Y];have e0:nj a b 0=[⟨some 10,[.int 0,.int 0,.int 0,.int 0,.int 0,.ae,.ae,.ae,.ae,.ae],.live⟩,⟨some 10,[.int a.calls,.int a.af,.int a.aj,.int (a.stack*b.stack),.int (a.start*(b.accept.length:Int)+b.start),.ae,.ae,.ae,.ae,.ae],.live⟩]:=ab rfl;have Z:=h.oa.calls;have S7:=h.oa.af;obtain⟨o,hnc⟩:=gd Z.1;obtain⟨J,Eb⟩:=gd S7.1;have vY:=h.k;have apc:=h.oa.cP;have Js:=h.ob.cP;refine aM (λx:Nat=>[(5,.int x)]) (λx=>nj a b (x*b.accept.length)) (λx=>x<=a.accept.length) (λx=>a.accept.length-x) 0 (by rw[Nat.zero_mul,e0];rfl) (by simp) ?_
 intro x x1
 by_cases hx:x<a.accept.length
 .simp[-ag,hx]
  refine aM (λy:Nat=>[(6,.int y)]) (λy=>nj a b (x*b.accept.length+y)) (λy=>y<=b.accept.length) (λy=>b.accept.length-y) 0 (by simp[a8]) (by simp) ?_
  intro y y1
  by_cases hy:y<b.accept.length
  .have hlen:=ama (a:=a) (b:=b) (i:=x*b.accept.length+y)
   have hsN:x*b.accept.length+y<oI a b:=by
    unfold oI;have:x*b.accept.length+b.accept.length<=a.accept.length*b.accept.length:=by rw[<-Nat.succ_mul];exact kS _ hx
    omega
   have d:(x*b.accept.length+y)/gO b=x:=by unfold gO;rw[jd,Nat.mul_add_div (by omega),rf hy,lW]
   have e:(x*b.accept.length+y)%gO b=y:=by unfold gO;rw[jd,Nat.mul_add_mod,pZ hy]
   generalize hs:x*b.accept.length+y=s at *;simp[-ag,hy,hlen];have l:(x:Int)<(a.accept.length:Int):=by omega
   have m:(y:Int)<(b.accept.length:Int):=by omega
   have L:(gO b:Int)=(b.accept.length:Int):=rfl;have Al:(dd a b s).length=o:=by simp[dd];omega
   have Bl:(de a b s).length=o:=by simp[de];omega
   have Cl:(eG a b s).length=J:=by simp[eG];omega
   have Ai:∀c:Nat,c<o->ix (dd a b s) (c:Int)=ix (ix a.call (x:Int)) (c:Int)*(b.accept.length:Int)+ix (ix b.call (y:Int)) (c:Int):=λc M=>by
    rw[aG (by omega)];simp[dd,d,e,L]
   have Bi:∀c:Nat,c<o->ix (de a b s) (c:Int)=ix (ix a.push (x:Int)) (c:Int)*b.stack+ix (ix b.push (y:Int)) (c:Int):=λc M=>by
    rw[aG (by omega)];simp[de,d,e]
   have Ci:∀c:Nat,c<J->ix (eG a b s) (c:Int)=ix (ix a.inner (x:Int)) (c:Int)*(b.accept.length:Int)+ix (ix b.inner (y:Int)) (c:Int):=λc M=>by
    rw[aG (by omega)];simp[eG,d,e,L]
   generalize hA:dd a b s=A at *;generalize hB:de a b s=B at *;generalize hC:eG a b s=C at *;have m0:=λp q r=>amb (p:=p) (q:=q) (r:=r) hlen;have m1:=λp q r=>amc (p:=p) (q:=q) (r:=r) hlen;have m2:=λp q r=>amd (p:=p) (q:=q) (r:=r) hlen;have w0:=λp q r X=>ame (p:=p) (q:=q) (r:=r) (X:=X) hlen;have w1:=λp q r X=>amf (p:=p) (q:=q) (r:=r) (X:=X) hlen;have w2:=λp q r X=>amg (p:=p) (q:=q) (r:=r) (X:=X) hlen;have la:=h.oa.lens;have lb:=h.ob.lens;have ra:=h.oa.row (x:Int) (by omega) l
   have rb:=h.ob.row (y:Int) (by omega) m
   have Cz:=h.c;have hii:=h.i;refine aM (λc:Nat=>[(7,.int c),(8,.sl (Jq s) c 0 c),(9,.sl (Jq s+1) c 0 c)]) (λc=>nj a b s ++ [bG (A.take c),bG (B.take c),bG []]) (λc=>c<=o) (λc=>o-c) 0 (by simp[a8]) (by simp) ?_
   intro c c1
   by_cases M:c<o
   .have z:=aB (show(c:Int)<a.calls by omega)
    have D :=aB (show(x:Int)<(a.call.length:Int)by omega)
    have x2' :=aB (show(x:Int)<(a.push.length:Int)by omega)
    have E :=aB (show(c:Int)<((ix a.call (x:Int)).length:Int)by omega)
    have x4' :=aB (show(c:Int)<((ix a.push (x:Int)).length:Int)by omega)
    have F :=aB (show(y:Int)<(b.call.length:Int)by omega)
    have y2' :=aB (show(y:Int)<(b.push.length:Int)by omega)
    have G :=aB (show(c:Int)<((ix b.call (y:Int)).length:Int)by omega)
    have y4' :=aB (show(c:Int)<((ix b.push (y:Int)).length:Int)by omega)
    have O:=h.oa.call (x:Int) (c:Int) (by omega) l (by omega) (by omega)
    have vb:=h.ob.call (y:Int) (c:Int) (by omega) m (by omega) (by omega)
    have pa:=h.oa.push (x:Int) (c:Int) (by omega) l (by omega) (by omega)
    have pb:=h.ob.push (y:Int) (c:Int) (by omega) m (by omega) (by omega)
    have l1:=mY O vb;have l2:=mY pa pb;rw[u]at l1;have n1' :=nK O.1 (show 0<=(b.accept.length:Int)by omega)
    have n2' :=nK pa.1 (show 0<=b.stack by omega)
    have Ai:=Ai c M;have Bi:=Bi c M;have tA:=jm (w:=A) (k:=c) (by omega)
    have tB:=jm (w:=B) (k:=c) (by omega)
    rw[Ai]at tA;rw[Bi]at tB;have lA:(A.take c).length=c:=by simp;omega
    have lB:(B.take c).length=c:=by simp;omega
    generalize hTA:A.take c=TA at *;generalize hTB:B.take c=TB at *;have k1 : -9223372036854775808<=ix (ix a.call (x:Int)) (c:Int)*(b.accept.length:Int)/\ix (ix a.call (x:Int)) (c:Int)*(b.accept.length:Int)<=9223372036854775807:=by omega
    have k2 : -9223372036854775808<=ix (ix a.call (x:Int)) (c:Int)*(b.accept.length:Int)+ix (ix b.call (y:Int)) (c:Int)/\ix (ix a.call (x:Int)) (c:Int)*(b.accept.length:Int)+ix (ix b.call (y:Int)) (c:Int)<=9223372036854775807:=by omega
    have k3 : -9223372036854775808<=ix (ix a.push (x:Int)) (c:Int)*b.stack/\ix (ix a.push (x:Int)) (c:Int)*b.stack<=9223372036854775807:=by omega
    have k4 : -9223372036854775808<=ix (ix a.push (x:Int)) (c:Int)*b.stack+ix (ix b.push (y:Int)) (c:Int)/\ix (ix a.push (x:Int)) (c:Int)*b.stack+ix (ix b.push (y:Int)) (c:Int)<=9223372036854775807:=by omega
    simp[-ag,z,D, x2', E, x4', F, y2', G, y4', m0,m1,m2,w0,w1,w2,lA,lB,k1,k2,k3,k4];exact⟨by split<;>rfl,by omega,by split<;>rfl,by omega,by omega,az (c+1) (by simp) (by rw[tA,tB];simp) (by omega) (by omega)⟩
   .have:c=o:=by omega
    subst this;have z:=dN (show ¬(c:Int)<a.calls by omega)
    simp[-ag,z];have etA:A.take c=A:=fc (by omega)
    have etB:B.take c=B:=fc (by omega)
    rw[etA,etB];refine aM (λi:Nat=>[(10,.int i),(11,.sl (Jq s+2) i 0 i)]) (λi=>nj a b s ++ [bG A,bG B,bG (C.take i)]) (λi=>i<=J) (λi=>J-i) 0 (by simp[a8]) (by simp) ?_
    intro i i1
    by_cases hi:i<J
    .have H:=aB (show(i:Int)<a.af by omega)
     have D :=aB (show(x:Int)<(a.inner.length:Int)by omega)
     have E :=aB (show(i:Int)<((ix a.inner (x:Int)).length:Int)by omega)
     have F :=aB (show(y:Int)<(b.inner.length:Int)by omega)
     have G :=aB (show(i:Int)<((ix b.inner (y:Int)).length:Int)by omega)
     have O:=h.oa.inner (x:Int) (i:Int) (by omega) l (by omega) (by omega)
     have vb:=h.ob.inner (y:Int) (i:Int) (by omega) m (by omega) (by omega)
     have l1:=mY O vb;rw[u]at l1;have n1' :=nK O.1 (show 0<=(b.accept.length:Int)by omega)
     have Ci:=Ci i hi;have tC:=jm (w:=C) (k:=i) (by omega)
     rw[Ci]at tC;have lC:(C.take i).length=i:=by simp;omega
     generalize hTC:C.take i=TC at *;have k1 : -9223372036854775808<=ix (ix a.inner (x:Int)) (i:Int)*(b.accept.length:Int)/\ix (ix a.inner (x:Int)) (i:Int)*(b.accept.length:Int)<=9223372036854775807:=by omega
     have k2 : -9223372036854775808<=ix (ix a.inner (x:Int)) (i:Int)*(b.accept.length:Int)+ix (ix b.inner (y:Int)) (i:Int)/\ix (ix a.inner (x:Int)) (i:Int)*(b.accept.length:Int)+ix (ix b.inner (y:Int)) (i:Int)<=9223372036854775807:=by omega
     simp[-ag,H,D, E, F, G, m0,m1,m2,w0,w1,w2,lC,k1,k2];exact⟨by split<;>rfl,by omega,by omega,az (i+1) (by simp) (by rw[tC];simp) (by omega) (by omega)⟩
    .have:i=J:=by omega
     subst this;have H:=dN (show ¬(i:Int)<a.af by omega)
     simp[-ag,H];have etC:C.take i=C:=fc (by omega)
     rw[etC];have P:=al9 h hsN d.symm e.symm;have xa:=aB l;have ya:=aB m;have Q:mD a b s=(!(ix a.accept (x:Int)==ix b.accept (y:Int))):=by unfold mD;rw[d,e];rfl
     by_cases R:s=0
     .subst R
      have eL:Jq 0=2:=rfl;rw[e0,eL];simp[-ag,xa,ya,P];have ec:a.calls.toNat=c:=by omega
      have ei:a.af.toNat=i:=by omega
      refine⟨by omega,az (y+1) (by simp) ?_ (by omega) (by omega)⟩
      rw[show x*b.accept.length+(y+1)=1 by omega]
      unfold nj;rw[aa (show ¬(1=0)by omega)]
      simp[amj,Jn,Jo,Jp,hA,hB,hC,ec,ei,Q]
     .have eL:Jq s=7+3*s:=aa R
      have eP:nj a b s=_:=aa R;generalize I:(List.range (s-1)).flatMap (λj=>[bG (dd a b (j+1)),bG (de a b (j+1)),bG (eG a b (j+1))])=rest at eP;rw[eP,eL];simp[-ag,xa,ya,P,amh];have ec:a.calls.toNat=c:=by omega
      have ei:a.af.toNat=i:=by omega
      have apd : s<=16384:=by
       have:oI a b<=128:=h.n;omega
      have S:=pfl R I;rw[hA,hB,hC]at S;refine⟨by omega,by omega,az (y+1) (by simp) ?_ (by omega) (by omega)⟩
      rw[show x*b.accept.length+(y+1)=s+1 by omega]
      unfold nj;rw[aa (show ¬(s+1=0)by omega),Nat.add_sub_cancel,S]
      simp[ami,gw,Jn,Jo,Jp,R,ec,ei,Q];omega
  .have:y=b.accept.length:=by omega
   subst this;simp[-ag];have e1:(x+1)*b.accept.length=x*b.accept.length+b.accept.length:=Nat.succ_mul x _;exact⟨by omega,az (x+1) (by simp) (by rw[e1]) (by omega) (by omega)⟩
 .have:x=a.accept.length:=by omega
  subst this;have T:a.accept.length*b.accept.length ≠ 0:=by
   have:1*1<=a.accept.length*b.accept.length:=oP (by omega) (by omega)
   omega
  have hr:∃rest,nj a b (a.accept.length*b.accept.length)=⟨some 10,[.int 0,.int 0,.int 0,.int 0,.int 0,.ae,.ae,.ae,.ae,.ae],.live⟩::⟨some 10,[.int a.calls,.int a.af,.int a.aj,.int (a.stack*b.stack),.int (a.start*(b.accept.length:Int)+b.start),.sl 5 (a.accept.length*b.accept.length) 0 (a.accept.length*b.accept.length),.sl 6 (a.accept.length*b.accept.length) 0 (a.accept.length*b.accept.length),.sl 7 (a.accept.length*b.accept.length) 0 (a.accept.length*b.accept.length),.sl 8 (a.accept.length*b.accept.length) 0 (a.accept.length*b.accept.length),.sl 9 (a.accept.length*b.accept.length) 0 (a.accept.length*b.accept.length)],.live⟩::rest:=by
   unfold nj;rw[aa T];exact⟨_,rfl⟩
  obtain⟨rest,hr⟩:=hr;have hv:=λ(σ:List ah)=>amk (a:=a) (b:=b) (σ:=σ) T rfl;rw[hr]at hv ⊢;generalize a.accept.length*b.accept.length=N at *;simp[-ag,aml];obtain⟨v5,v6,v7,v8,v9⟩:=hv (⟨some 10,[.int a.calls,.int a.af,.int a.aj,.int (a.stack*b.stack),.int (a.start*(b.accept.length:Int)+b.start),.sl 5 N 0 N,.sl 6 N 0 N,.sl 7 N 0 N,.sl 8 N 0 N,.sl 9 N 0 N],.live⟩::⟨some 10,[.int a.calls,.int a.af,.int a.aj,.int (a.stack*b.stack),.int (a.start*(b.accept.length:Int)+b.start),.sl 5 N 0 N,.sl 6 N 0 N,.sl 7 N 0 N,.sl 8 N 0 N,.sl 9 N 0 N],.live⟩::rest) (λk hk=>by
   obtain⟨j,rfl⟩:=Nat.exists_eq_add_of_le hk;rw[Nat.add_comm 1 j])
  rw[v5,v6,v7,v8,v9]
  rfl
end Ab
