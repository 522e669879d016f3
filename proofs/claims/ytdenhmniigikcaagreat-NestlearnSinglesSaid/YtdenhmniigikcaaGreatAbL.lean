/- The interpreter with as much fuel as is wanted: more fuel gives the same answer; the limit, and that it is reached. What is to be shown of a run of the interpreter, as a formula that simp can print. How each line of a region reads: one rule a kind of line. Rules for simp: how the conditions of a run read. More rules for simp: cells of blocks as lists of numbers. Condition: none. -/
import Derived.Test.YtdenhmniigikcaaGreatAbCore
set_option linter.all false
namespace Ab
def CE.le (a b:CE):Prop:=∀f args σ x,a f args σ=some x->b f args σ=some x
variable{a b:CE}
def uw(h:CE.le a b){f:Nat}{args:List AV}{x:AV}(e:jq a f args=some x):jq b f args=some x:=by
 unfold jq at e ⊢;split at e
 case isFalse=>simp at e
 rename_i hn;rw[ae hn];cases hc:a f (args.map wk) []with
 |none=>simp[hc]at e
 |some r=>rw[h _ _ _ _ hc];simpa[hc]using e
variable{r:Rf->AV}{o:dh}
def BS(h:CE.le a b){σ:List al}{nl:Nat}{ps:List cQ}{x:AV×Option cQ}(e:ev a σ nl ps r o=some x):ev b σ nl ps r o=some x:=by
 cases o
 case k9 f args=>
  simp only[ev,nY]at e ⊢;obtain⟨y,h1,h2⟩:=e;exact⟨y,uw h h1,h2⟩
 case l5 y args=>
  simp only[ev]at e ⊢;cases hr:r y<;>simp only[hr]at e<;>try(simp at e;done)
  simp only[nY]at e ⊢;obtain⟨y,h1,h2⟩:=e;exact⟨y,uw h h1,h2⟩
 case inv y qQ args=>
  simp only[ev]at e ⊢;cases hr:r y<;>simp only[hr]at e<;>try(simp at e;done)
  rename_i t v;cases ht:eY qQ t with
  |none=>simp[ht]at e
  |some f=>
   simp only[ht,nY]at e ⊢;obtain⟨y,h1,h2⟩:=e;exact⟨y,uw h h1,h2⟩
 case can f args=>
  simp only[ev]at e ⊢;split at e
  case isFalse=>simp at e
  rename_i hn;rw[ae hn];cases hc:a f (args.map r) []with
  |none=>simp[hc]at e
  |some q=>rw[h _ _ _ _ hc];simpa[hc]using e
 case rp f args=>
  simp only[ev]at e ⊢;cases hm:bJ (λx=>view σ false vd (r x)) args with
  |none=>simp[hm]at e
  |some vs=>
   simp only[hm]at e ⊢;cases hc:a f vs []with
   |none=>simp[hc]at e
   |some q=>rw[h _ _ _ _ hc];simpa[hc]using e
 all_goals exact e
def aaX(h:CE.le a b){σ:List al}{x:AV×List al}(e:gf a σ r o=some x):gf b σ r o=some x:=by
 cases o
 case fE f args=>exact h _ _ _ _ e
 case lE y args=>
  simp only[gf]at e ⊢;cases hr:r y<;>simp only[hr]at e<;>try(simp at e;done)
  exact h _ _ _ _ e
 case sU y qQ args=>
  simp only[gf]at e ⊢;cases hr:r y<;>simp only[hr]at e<;>try(simp at e;done)
  rename_i t v;cases ht:eY qQ t with
  |none=>simp[ht]at e
  |some f=>simp only[ht]at e ⊢;exact h _ _ _ _ e
 case st=>exact e
 case cp=>exact e
 case vA=>exact e
 case vz=>exact e
 case xV=>exact e
 case Mn=>exact e
 all_goals
  simp only[gf]at e ⊢;split at e
  .rename_i hc;rw[BS h hc];exact e
  .rename_i hc;rw[BS h hc];exact e
  .simp at e
def OL(h:CE.le a b){vars:List AV}{s s' : LS}{l:Ln}(e:dm a vars s l=some s'):dm b vars s l=some s' :=by
 unfold dm at e ⊢;split at e
 .simp at e
 .exact e
 .split at e
  .rename_i g
   rw[ae g];split at e
   .rename_i d;rw[aaX h d];exact e
   .simp at e
  .rename_i g
   rw[ad g];split at e
   .rename_i d;rw[BS h d];exact e
   .rename_i d;rw[BS h d];exact e
   .simp at e
def Gy{a b:CE}(h:CE.le a b){vars:List AV}:∀{ls:List Ln}{s s' : LS},lines a vars ls s=some s' ->lines b vars ls s=some s'
 | [],_,_,e=>e
 |l::ls,s,s', e=>by
  simp only[lines]at e ⊢;cases d:dm a vars s l with
  |none=>simp[d]at e
  |some q=>rw[OL h d];simp only[d]at e;exact Gy h e
def aaY(h:CE.le a b){r:gi}{s s' : St}(e:dc a r s=some s'):dc b r s=some s' :=by
 unfold dc at e ⊢;cases d:lines a s.vars r.ls ⟨[],s.σ,s.σ⟩with
 |none=>simp[d]at e
 |some q=>rw[Gy h d];simpa[d]using e
def y6{f g:St->Option (Ex×St)}(h:∀s x,f s=some x->g s=some x):∀{n m:Nat}{s:St}{x:Ex×St},n<=m->iter f n s=some x->iter g m s=some x
 |0,_,_,_,_,e=>by simp[iter]at e
 |n+1,0,_,_,b,_=>by omega
 |n+1,m+1,s,x,b,e=>by
  simp only[iter]at e ⊢;cases a:f s with
  |none=>simp[a]at e
  |some q=>
   rw[h _ _ a];obtain⟨d,i⟩:=q;cases d with
   |eQ=>simp only[a]at e ⊢;exact y6 h aa e
   |exit j=>simpa[a]using e
   |ret=>simpa[a]using e
def rU(h:CE.le a b){n m:Nat}(w:n<=m):∀(c:IC) (s:St) (x:Ex×St),exec n a c s=some x->exec m b c s=some x:=by
 intro c
 induction c with
 |skip=>intro s x e;simpa[exec]using e
 |cF r=>
  intro s x e;simp only[exec]at e ⊢;cases g:dc a r s with
  |none=>simp[g]at e
  |some q=>rw[aaY h g];simpa[g]using e
 |seq c d i l=>
  intro s x e;simp only[exec]at e ⊢;cases g:exec n a c s with
  |none=>simp[g]at e
  |some q=>
   rw[i _ _ g];obtain⟨y,z⟩:=q;cases y with
   |eQ=>simp only[g]at e ⊢;exact l _ _ e
   |exit j=>simpa[g]using e
   |ret=>simpa[g]using e
 |cond t c d i l=>
  intro s x e;simp only[exec]at e ⊢;split at e
  .split at e
   .split at e
    .rename_i g p u;rw[ae p,ae u];exact i _ _ e
    .rename_i g p u;rw[ae p,ad u];exact l _ _ e
   .simp at e
  .simp at e
 |jN k c d i l=>
  intro s x e;simp only[exec]at e ⊢;split at e
  .split at e
   .rename_i g p;rw[ae p];exact i _ _ e
   .rename_i g p;rw[ad p];exact l _ _ e
  .simp at e
 |block id c o=>
  intro s x e;simp only[exec]at e ⊢;cases g:exec n a c s with
  |none=>simp[g]at e
  |some q=>rw[o _ _ g];simpa[g]using e
 |loop c o=>
  intro s x e;simp only[exec]at e ⊢;exact y6 o w e
 |exit id=>intro s x e;simpa[exec]using e
 |ret=>intro s x e;simpa[exec]using e
 |ji k=>intro s x e;simpa[exec]using e
 |bad=>intro s x e;simp[exec]at e
 |cut b c o=>intro s x e;simp only[exec]at e ⊢;exact o _ _ e
 |Eu c o=>intro s x e;simp only[exec]at e ⊢;exact o _ _ e
 |lex c o=>
  intro s x e;simp only[exec]at e ⊢;cases g:exec n a c s with
  |none=>simp[g]at e
  |some q=>rw[o _ _ g];simpa[g]using e
def dX (Q:kv):Prop:=∀f p,Q f=some p->∀a b:CE,CE.le a b->∀args d v,p a args d=some v->p b args d=some v
section
variable{G:Nat->Option Fn}{Q:kv}
def BT (hQ:dX Q){n m:Nat}(hn:n<=m):∀{d e:Nat},d<=e->CE.le (dN G Q n d) (dN G Q m e)
 |0,_,_=>λf args σ x h=>by simp[dN]at h
 |d+1,0,h=>by omega
 |d+1,e+1,hd=>λf args σ x h=>by
  have ih:=BT hQ hn (show d<=e by omega)
  simp only[dN]at h ⊢;cases hq:Q f with
  |some p=>
   simp only[hq]at h ⊢;exact hQ f p hq _ _ ih _ _ _ h
  |none=>
   simp only[hq]at h ⊢;cases hg:G f with
   |none=>simp[hg]at h
   |some fn=>
    simp only[hg]at h ⊢;split at h
    case isFalse=>simp at h
    rename_i hl;rw[ae hl];cases he:exec n (dN G Q n d) fn.body {vars:=args++List.replicate (fn.nv-fn.np) .aO,fl:=none,σ}with
    |none=>simp[he]at h
    |some q=>rw[rU ih hn _ _ _ he];simpa[he]using h
def cN (G:Nat->Option Fn) (Q:kv) (n:Nat):CE:=dN G Q n n
def sS (b:dX Q){n m:Nat}(a:n<=m):CE.le (cN G Q n) (cN G Q m):=BT b a a
open Classical in
noncomputable def lim (G:Nat->Option Fn) (Q:kv):CE:=λf args a=>if h:∃x,∃N,cN G Q N f args a=some x then some (choose h)else none
variable{args:List AV}{x:AV×List al}
def BU (a:dX Q){N f:Nat}{σ:List al}(h:cN G Q N f args σ=some x):lim G Q f args σ=some x:=by
 have b:∃x,∃N,cN G Q N f args σ=some x:=⟨x,N,h⟩;unfold lim;rw[dif_pos b];obtain⟨M,e⟩:=Classical.choose_spec b;have g:=sS (G:=G) a (Nat.le_max_left N M) _ _ _ _ h;have d:=sS (G:=G) a (Nat.le_max_right N M) _ _ _ _ e;rw[g]at d;exact d.symm
def uM{f:Nat}{σ:List al}(h:lim G Q f args σ=some x):∃N,cN G Q N f args σ=some x:=by
 unfold lim at h;split at h
 .rename_i a
  obtain⟨M,b⟩:=Classical.choose_spec a;exact⟨M,by rw[b];exact h⟩
 .simp at h
variable (hQ:dX Q)
include hQ
variable{args:List AV}
theorem yI{f:Nat}{x:AV}(e:jq (lim G Q) f args=some x):∃N,jq (cN G Q N) f args=some x:=by
 unfold jq at e;split at e
 case isFalse=>simp at e
 rename_i hn;cases hc:lim G Q f (args.map wk) []with
 |none=>simp[hc]at e
 |some r=>
  obtain⟨N,hN⟩:=uM hc;exact⟨N,by unfold jq;rw[ae hn,hN];simpa[hc]using e⟩
variable{r:Rf->AV}{o:dh}
theorem BV{σ:List al}{nl:Nat}{ps:List cQ}{x:AV×Option cQ}(e:ev (lim G Q) σ nl ps r o=some x):∃N,ev (cN G Q N) σ nl ps r o=some x:=by
 cases o
 case k9 f args=>
  simp only[ev,nY]at e ⊢;obtain⟨y,h1,h2⟩:=e;obtain⟨N,hN⟩:=yI hQ h1;exact⟨N,y,hN,h2⟩
 case l5 y args=>
  simp only[ev]at e ⊢;cases hr:r y<;>simp only[hr]at e<;>try(simp at e;done)
  simp only[nY]at e ⊢;obtain⟨y,h1,h2⟩:=e;obtain⟨N,hN⟩:=yI hQ h1;exact⟨N,y,hN,h2⟩
 case inv y qQ args=>
  simp only[ev]at e ⊢;cases hr:r y<;>simp only[hr]at e<;>try(simp at e;done)
  rename_i t v;cases ht:eY qQ t with
  |none=>simp[ht]at e
  |some f=>
   simp only[ht,nY]at e ⊢;obtain⟨y,h1,h2⟩:=e;obtain⟨N,hN⟩:=yI hQ h1;exact⟨N,y,hN,h2⟩
 case can f args=>
  simp only[ev]at e ⊢;split at e
  case isFalse=>simp at e
  rename_i hn;cases hc:lim G Q f (args.map r) []with
  |none=>simp[hc]at e
  |some q=>
   obtain⟨N,hN⟩:=uM hc;exact⟨N,by rw[ae hn,hN];simpa[hc]using e⟩
 case rp f args=>
  simp only[ev]at e ⊢;cases hm:bJ (λx=>view σ false vd (r x)) args with
  |none=>simp[hm]at e
  |some vs=>
   simp only[hm]at e ⊢;cases hc:lim G Q f vs []with
   |none=>simp[hc]at e
   |some q=>
    obtain⟨N,hN⟩:=uM hc;exact⟨N,by rw[hN];simpa[hc]using e⟩
 all_goals exact⟨0,e⟩
theorem aaZ{σ:List al}{x:AV×List al}(e:gf (lim G Q) σ r o=some x):∃N,gf (cN G Q N) σ r o=some x:=by
 cases o
 case fE f args=>exact uM e
 case lE y args=>
  simp only[gf]at e ⊢;cases hr:r y<;>simp only[hr]at e<;>try(simp at e;done)
  exact uM e
 case sU y qQ args=>
  simp only[gf]at e ⊢;cases hr:r y<;>simp only[hr]at e<;>try(simp at e;done)
  rename_i t v;cases ht:eY qQ t with
  |none=>simp[ht]at e
  |some f=>simp only[ht]at e ⊢;exact uM e
 case st=>exact⟨0,e⟩
 case cp=>exact⟨0,e⟩
 case vA=>exact⟨0,e⟩
 case vz=>exact⟨0,e⟩
 case xV=>exact⟨0,e⟩
 case Mn=>exact⟨0,e⟩
 all_goals
  simp only[gf]at e ⊢;split at e
  .rename_i hc;obtain⟨N,hN⟩:=BV hQ hc;exact⟨N,by rw[hN];exact e⟩
  .rename_i hc;obtain⟨N,hN⟩:=BV hQ hc;exact⟨N,by rw[hN];exact e⟩
  .simp at e
theorem aa0{vars:List AV}{s s' : LS}{l:Ln}(e:dm (lim G Q) vars s l=some s'):∃N,dm (cN G Q N) vars s l=some s' :=by
 unfold dm at e ⊢;cases i:want vars s.env l.g with
 |none=>simp[i]at e
 |some b=>
  cases b with
  |false=>exact⟨0,by simpa[i]using e⟩
  |true=>
   simp only[i]at e ⊢;split at e
   .rename_i h
    split at e
    .rename_i a;obtain⟨N,d⟩:=aaZ hQ a;exact⟨N,by rw[ae h,d];exact e⟩
    .simp at e
   .rename_i h
    split at e
    .rename_i a;obtain⟨N,d⟩:=BV hQ a;exact⟨N,by rw[ad h,d];exact e⟩
    .rename_i a;obtain⟨N,d⟩:=BV hQ a;exact⟨N,by rw[ad h,d];exact e⟩
    .simp at e
theorem OM{vars:List AV}:∀{ls:List Ln}{s s' : LS},lines (lim G Q) vars ls s=some s' ->∃N,lines (cN G Q N) vars ls s=some s'
 | [],_,_,e=>⟨0,e⟩
 |l::ls,s,s', e=>by
  simp only[lines]at e ⊢;cases a:dm (lim G Q) vars s l with
  |none=>simp[a]at e
  |some q=>
   simp only[a]at e;obtain⟨N,b⟩:=aa0 hQ a;obtain⟨M,d⟩:=OM e;refine⟨max N M,?_⟩;rw[OL (sS hQ (Nat.le_max_left N M)) b];exact Gy (sS hQ (Nat.le_max_right N M)) d
theorem aa1{r:gi}{s s' : St}(e:dc (lim G Q) r s=some s'):∃N,dc (cN G Q N) r s=some s' :=by
 unfold dc at e ⊢;cases a:lines (lim G Q) s.vars r.ls ⟨[],s.σ,s.σ⟩with
 |none=>simp[a]at e
 |some q=>
  obtain⟨N,b⟩:=OM hQ a;exact⟨N,by rw[b];simpa[a]using e⟩
def su (G:Nat->Option Fn) (Q:kv) (N:Nat) (c:IC) (s:St):Option (Ex×St):=exec N (cN G Q N) c s
omit hQ in
theorem y7 (hQ:dX Q){n m:Nat}(a:n<=m){c:IC}{s:St}{x:Ex×St}(h:su G Q n c s=some x):su G Q m c s=some x:=rU (sS hQ a) a _ _ _ h
variable{n:Nat}
theorem aa2:∀(c:IC) (s:St) (x:Ex×St),exec n (lim G Q) c s=some x->∃N,su G Q N c s=some x:=by
 intro c
 induction c with
 |skip=>intro s x e;exact⟨0,by simpa[exec,su]using e⟩
 |cF r=>
  intro s x e;simp only[exec,su]at e ⊢;cases g:dc (lim G Q) r s with
  |none=>simp[g]at e
  |some q=>obtain⟨N,a⟩:=aa1 hQ g;exact⟨N,by rw[a];simpa[g]using e⟩
 |seq c d l m=>
  intro s x e;simp only[exec]at e;cases g:exec n (lim G Q) c s with
  |none=>simp[g]at e
  |some q=>
   obtain⟨N,a⟩:=l _ _ g;obtain⟨u,C⟩:=q;cases u with
   |eQ=>
    simp only[g]at e;obtain⟨M,w⟩:=m _ _ e;refine⟨max N M,?_⟩;have A:=y7 (G:=G) hQ (Nat.le_max_left N M) a;have B:=y7 (G:=G) hQ (Nat.le_max_right N M) w;simp only[su,exec]at A B ⊢;rw[A];exact B
   |exit j=>exact⟨N,rF⟩
   |ret=>exact⟨N,rF⟩
 |cond t c d l m=>
  intro s x e;simp only[exec]at e;split at e
  .split at e
   .split at e
    .rename_i g p y;obtain⟨N,a⟩:=l _ _ e;exact⟨N,by simp only[su,exec,g,p,dD]at a ⊢;rw[ae y];exact a⟩
    .rename_i g p y;obtain⟨N,a⟩:=m _ _ e;exact⟨N,by simp only[su,exec,g,p,dD]at a ⊢;rw[ad y];exact a⟩
   .simp at e
  .simp at e
 |jN k c d l m=>
  intro s x e;simp only[exec]at e;split at e
  .split at e
   .rename_i g p;obtain⟨N,a⟩:=l _ _ e;exact⟨N,by simp only[su,exec,g]at a ⊢;rw[ae p];exact a⟩
   .rename_i g p;obtain⟨N,a⟩:=m _ _ e;exact⟨N,by simp only[su,exec,g]at a ⊢;rw[ad p];exact a⟩
  .simp at e
 |block id c o=>
  intro s x e;simp only[exec]at e;cases g:exec n (lim G Q) c s with
  |none=>simp[g]at e
  |some q=>obtain⟨N,a⟩:=o _ _ g;exact⟨N,rF⟩
 |loop c o=>
  intro s x e;simp only[exec]at e;have go:∀(k:Nat) (s:St),iter (exec n (lim G Q) c) k s=some x->∃N,∃j,iter (su G Q N c) j s=some x:=by
   intro k
   induction k with
   |zero=>intro s e;simp[iter]at e
   |succ k z=>
    intro s e;simp only[iter]at e;cases g:exec n (lim G Q) c s with
    |none=>simp[g]at e
    |some q=>
     obtain⟨N,a⟩:=o _ _ g;obtain⟨u,C⟩:=q;cases u with
     |eQ=>
      simp only[g]at e;obtain⟨M,j,w⟩:=z _ e;refine⟨max N M,j+1,?_⟩;simp only[iter];rw[y7 (G:=G) hQ (Nat.le_max_left N M) a];exact y6 (λs x h=>y7 (G:=G) hQ (Nat.le_max_right N M) h) (bd _) w
     |exit i=>exact⟨N,1,by simp only[iter];rw[a];simpa[g]using e⟩
     |ret=>exact⟨N,1,by simp only[iter];rw[a];simpa[g]using e⟩
  obtain⟨N,j,h⟩:=go n s e;refine⟨max N j,?_⟩;simp only[su,exec];exact y6 (λs x h=>y7 (G:=G) hQ (Nat.le_max_left N j) h) (Nat.le_max_right N j) h
 |exit id=>intro s x e;exact⟨0,by simpa[exec,su]using e⟩
 |ret=>intro s x e;exact⟨0,by simpa[exec,su]using e⟩
 |ji k=>intro s x e;exact⟨0,by simpa[exec,su]using e⟩
 |bad=>intro s x e;simp[exec]at e
 |cut b c o=>intro s x e;simp only[exec]at e;obtain⟨N,a⟩:=o _ _ e;exact⟨N,by simp only[su,exec]at a ⊢;exact a⟩
 |Eu c o=>intro s x e;simp only[exec]at e;obtain⟨N,a⟩:=o _ _ e;exact⟨N,by simp only[su,exec]at a ⊢;exact a⟩
 |lex c o=>
  intro s x e;simp only[exec]at e;cases g:exec n (lim G Q) c s with
  |none=>simp[g]at e
  |some q=>obtain⟨N,a⟩:=o _ _ g;exact⟨N,rF⟩
theorem ON{f:Nat}{fn:Fn}{σ:List al}{e:Ex}{s:St}{r:AV}(b:Q f=none) (d:G f=some fn) (g:args.length=fn.np)
  (h:exec n (lim G Q) fn.body {vars:=args++List.replicate (fn.nv-fn.np) .aO,fl:=none,σ}=some (e,s)) (i:∀j,e ≠ .exit j) (a:results fn s=some r) :
  lim G Q f args σ=some (r,s.σ):=by
 obtain⟨N,l⟩:=aa2 hQ _ _ _ h;refine BU hQ (N:=N+1) ?_;have m:exec (N+1) (dN G Q (N+1) N) fn.body {vars:=args++List.replicate (fn.nv-fn.np) .aO,fl:=none,σ}=some (e,s):=
  rU (BT hQ (Nat.le_succ N) (bd N)) (Nat.le_succ N) _ _ _ l
 simp only[cN,dN,b,d,g,lH,dD,m];cases e with
 |exit j=>exact absurd rfl (i j)
 |eQ=>simp[a]
 |ret=>simp[a]
omit hQ in
theorem uN (hQ:dX Q){N f:Nat}{p:CE->List AV->List al->Option (AV×List al)}{args:List AV}{σ:List al}{x:AV×List al}(a:Q f=some p) (b:p (cN G Q N) args σ=some x):lim G Q f args σ=some x:=by
 refine BU hQ (N:=N+1) ?_;simp only[cN,dN,a];exact hQ f p a _ _ (BT hQ (Nat.le_succ N) (bd N)) _ _ _ b
end
def W (L:CE) (c:IC) (s:St) (Q:Ex->St->Prop):Prop:=∃n e a, exec n L c s=some (e,a)/\Q e a
section
variable{L:CE}
def wU (L:CE):CE.le L L:=λ_ _ _ _ h=>h
variable{c:IC}{s:St}
def W.mono{Q R:Ex->St->Prop}(h:W L c s Q) (hQ:∀e s', Q e s' ->R e s'):W L c s R:=by
 obtain⟨n,e,s', h1,h2⟩:=h;exact⟨n,e,s', h1,hQ e s' h2⟩
def aa3{Q:Ex->St->Prop}(h:Q .eQ s):W L .skip s Q:=⟨0,.eQ,s,rfl,h⟩
def OO{Q:Ex->St->Prop}(h:Q .ret s):W L .ret s Q:=⟨0,.ret,s,rfl,h⟩
variable{id:Nat}
def aa4{Q:Ex->St->Prop}(h:Q (.exit id) s):W L (.exit id) s Q:=⟨0,.exit id,s,rfl,h⟩
def OP{r:gi}{s s' : St}{Q:Ex->St->Prop}(h:dc L r s=some s') (a:Q .eQ s'):W L (.cF r) s Q:=⟨0,.eQ,s', by simp[exec,h],a⟩
def aa5 (L:CE) (d:IC) (Q:Ex->St->Prop):Ex->St->Prop
 |.eQ,s=>W L d s Q
 |e,s=>Q e s
variable{d:IC}
def OQ{Q:Ex->St->Prop}(h:W L c s (aa5 L d Q)):W L (.seq c d) s Q:=by
 obtain⟨n,e,g,a,b⟩:=h;cases e with
 |eQ=>
  obtain⟨m,i, l, o,p⟩:=b;refine⟨max n m,i, l, ?_,p⟩;simp only[exec];rw[rU (wU L) (Nat.le_max_left n m) _ _ _ a];exact rU (wU L) (Nat.le_max_right n m) _ _ _ o
 |exit j=>exact⟨n,.exit j,g,by simp[exec,a],b⟩
 |ret=>exact⟨n,.ret,g,by simp[exec,a],b⟩
variable{b:Bool}
def aa6{t:Nat}{vars:List AV}{σ:List al}{Q:Ex->St->Prop}(i:b=true->W L c ⟨vars,none,σ⟩ Q) (j:b=false->W L d ⟨vars,none,σ⟩ Q):W L (.cond t c d) ⟨vars,some (t,.bool b),σ⟩ Q:=by
 cases b with
 |true=>
  obtain⟨n,e,a, g,h⟩:=i rfl;exact⟨n,e,a, by simp[exec,g],h⟩
 |false=>
  obtain⟨n,e,a, g,h⟩:=j rfl;exact⟨n,e,a, by simp[exec,g],h⟩
def aa7{k:Nat}{Q:Ex->St->Prop}(i:nth s.vars k = .bool b) (j:b=true->W L c s Q) (l:b=false->W L d s Q):W L (.jN k c d) s Q:=by
 cases b with
 |true=>
  obtain⟨n,e,a, g,h⟩:=j rfl;exact⟨n,e,a, by simp[exec,i,g],h⟩
 |false=>
  obtain⟨n,e,a, g,h⟩:=l rfl;exact⟨n,e,a, by simp[exec,i,g],h⟩
def Out (id:Nat) (Q:Ex->St->Prop):Ex->St->Prop
 |.exit j,s=>if j=id then Q .eQ s else Q (.exit j) s
 |e,s=>Q e s
def aa8{Q:Ex->St->Prop}(h:W L c s (Out id Q)):W L (.block id c) s Q:=by
 obtain⟨n,e,a,b,d⟩:=h;cases e with
 |eQ=>exact⟨n,.eQ,a,by simp[exec,b],d⟩
 |exit j=>
  by_cases g:j=id
  .exact⟨n,.eQ,a,by simp[exec,b,g],by simpa[Out,g]using d⟩
  .exact⟨n,.exit j,a,by simp[exec,b,g],by simpa[Out,g]using d⟩
 |ret=>exact⟨n,.ret,a,by simp[exec,b],d⟩
def y8 (I:St->Prop) (a:St->Nat) (m:Nat) (Q:Ex->St->Prop):Ex->St->Prop
 |.eQ,s=>I s/\a s<m
 |e,s=>Q e s
end
def BW (l:List AV) (n:Int) (K:AV->Prop):Prop:=0<=n/\∃y,pa l n.toNat=some y/\K y
def qp (n:Int) (K:AV->Prop):Prop:=(-9223372036854775808<=n/\n<=9223372036854775807)/\K (.int n)
def wV (o:AP) (x y:Int) (K:AV->Prop):Prop:=
 match o with
 |.add=>qp (x+y) K
 |.sub=>qp (x-y) K
 |.mul=>qp (x*y) K
 |.quo=>y ≠ 0/\qp (x.tdiv y) K
 |.rem=>y ≠ 0/\K (.int (x.tmod y))
 |.lss=>K (.bool (decide (x<y)))
 |.leq=>K (.bool (decide (x<=y)))
 |.gtr=>K (.bool (decide (y<x)))
 |.geq=>K (.bool (decide (y<=x)))
 |.eql=>K (.bool (decide (x=y)))
 |.neq=>K (.bool (!decide (x=y)))
 |.uC=>K (.int (wr (x+y)))
def rW (L:CE) (f:Nat) (args:List AV):Option AV:=
 match L f args []with
 |some (v,a)=>bP a false v
 |none=>none
def aS{a:Type}(o:Option a) (K:a->Prop):Prop:=
 match o with
 |some u=>K u
 |none=>False
def kC{a:Type}{o:Option a}{K:a->Prop}(h:aS o K):∃u,o=some u/\K u:=by
 cases o with
 |none=>exact h.elim
 |some u=>exact⟨u,rfl,h⟩
def BX{a:Type}{u:a}{K:a->Prop}:aS (some u) K=K u:=(rfl)
def rX (L:CE) (f:Nat) (args:List AV) (K:AV->Prop):Prop:=aC args=true/\aS (rW L f (args.map wk)) K
def LX (L:CE) (f:Nat) (args:List AV) (σ:List al) (K:AV->List al->Prop):Prop:=aS (L f args σ) λp=>K p.1 p.2
def y9 (cs:List AV) (off:Nat) (k:Option Nat) (K:AV->Prop):Prop:=aS (part cs off k) K
def bB (c:Prop) (K:Prop):Prop:=c/\K
def qt (L:CE) (σ:List al) (nl:Nat) (r:Rf->AV) (op:dh) (K:AV->Option cQ->Prop):Prop:=
 match op with
 |.bin o x y=>match r x,r y with
  |.int a,.int b=>wV o a b λv=>K v none
  |_,_=>False
 |.bu x i st=>match r x,r i with
  |.aF _ l,.int n=>BW l n λy=>y.cells.length=st/\K (.a8 y) none
  |.sl b u off len,.int n=>bB (0<=n/\n<len) (K (.ptr b u (off+n.toNat*st)) none)
  |_,_=>False
 |.fN x i n k=>match r x,r i with
  |.ptr b u o,.int j=>bB (0<=j/\j<n) (K (.ptr b u (o+j.toNat*aM k)) none)
  |.a8 v,.int j=>bB (0<=j/\j<n) (aS (part v.cells (j.toNat*aM k) k) λy=>K (.a8 y) none)
  |_,_=>False
 |.k9 f args=>rX L f (args.map r) λv=>K v none
 |.l5 x args=>match r x with
  |.func f e=>rX L f (args.map r++e) λv=>K v none
  |_=>False
 |.inv x g args=>match r x with
  |.iface t v=>match eY g t with
   |some f=>rX L f (v::args.map r) λv=>K v none
   |none=>False
  |_=>False
 |.ld x k=>match r x with
  |.a8 v=>match k,v with
   |none,.agg _=>False
   |none,v=>K v none
   |some n,.agg l=>l.length=n/\K (.agg l) none
   |some _,_=>False
  |.ptr b u o=>aS (upto σ b u) λB=>B.st.isLive=true/\y9 B.cells o k λy=>K y none
  |_=>False
 |.Et x=>match r x with
  |.int n=>qp n λv=>K v none
  |.ik _ n=>qp n λv=>K v none
  |_=>False
 |.qX x m q st=>match uD r m,uE r q with
  |some a,some b=>(match r x with
   |.aF w l=>bB ((0<=a/\a<=b.getD l.length/\b.getD l.length<=l.length)/\gv st l=true) (K (.aF (w&&decide (0<l.length)) ((l.drop a.toNat).take ((b.getD l.length).toNat-a.toNat))) none)
   |.sl h u off len=>aS (upto σ h u) λB=>bB ((0<=a/\a<=b.getD len/\b.getD len<=len)/\aM B.k=st) (K (.sl h u (off+a.toNat*st) ((b.getD len).toNat-a.toNat)) none)
   |_=>False)
  |_,_=>False
 |.rp f args=>aS (bJ (λx=>view σ false vd (r x)) args) λA=>LX L f A [] λv d =>aS (bP d true v) λu=>K u none
 |.can f args=>bB (aC (args.map r)=true) (LX L f (args.map r) [] λv d =>K (js nl v) (some (.news (d.map (gH nl)))))
 |.jc n c z k=>match r n,r c with
  |.int n,.int c=>bB (0<=n/\n<=c/\c<=dK/\z.length=aM k) (K (.sl nl (eK c.toNat z).length 0 n.toNat) (some (.new ⟨k,eK c.toNat z,.live⟩)))
  |_,_=>False
 |.app s x k=>match aP σ k (r x)with
  |none=>False
  |some (n,cs)=>match r s with
   |.sl b u off len=>aS (upto σ b u) λB=>bB (off=0/\u=len*aM k/\len+n<=dK/\tX B.k k=true) ((n=0->K (.sl b u off len) none)/\(n ≠ 0->cs.length ≠ 0/\K (.sl b (u+cs.length) 0 (len+n)) (some (.grow b cs))))
   |.ag=>(n=0->K .ag none)/\(n ≠ 0->n<=dK/\K (.sl nl cs.length 0 n) (some (.new ⟨k,cs,.live⟩)))
   |.emp=>(n=0->K .emp none)/\(n ≠ 0->n<=dK/\K (.sl nl cs.length 0 n) (some (.new ⟨k,cs,.live⟩)))
   |.arr l=>(n=0->K (if aC l then .aF true l else .arr l) none)/\(n ≠ 0->(fitAll (aM k) l=true/\l.length+n<=dK)/\K (.sl nl (l.flatMap AV.cells++cs).length 0 (l.length+n)) (some (.new ⟨k,l.flatMap AV.cells++cs,.live⟩)))
   |_=>False
 |op=>aS (ev L σ nl [] r op) λp=>K p.1 p.2
variable{n:Int}
def qu:kU n=true↔-9223372036854775808<=n/\n<=9223372036854775807:=by
 simp[kU]
def wW{K:AV->Prop}(h:qp n K):kU n=true/\K (.int n):=⟨qu.2 h.1,h.2⟩
def aa9{o:AP}{x y:Int}{K:AV->Prop}(h:wV o x y K):∃v,bin o x y=some v/\K v:=by
 cases o<;>simp only[wV]at h<;>simp only[bin]
 case add=>obtain⟨h1,h2⟩:=wW h;exact⟨_,by rw[ae h1],h2⟩
 case sub=>obtain⟨h1,h2⟩:=wW h;exact⟨_,by rw[ae h1],h2⟩
 case mul=>obtain⟨h1,h2⟩:=wW h;exact⟨_,by rw[ae h1],h2⟩
 case quo=>obtain⟨h0,h1,h2⟩:=And.intro h.1 (wW h.2);exact⟨_,by simp[h0,h1],h2⟩
 case rem=>exact⟨_,by simp[h.1],h.2⟩
 case eql=>exact⟨_,rfl,by rwa [show(x==y)=decide (x=y)from rfl]⟩
 case neq=>exact⟨_,rfl,by rwa [show(x==y)=decide (x=y)from rfl]⟩
 all_goals exact⟨_,rfl,h⟩
variable{args:List AV}
def Gz{L:CE}{f:Nat}{K:AV->Prop}(h:rX L f args K):∃v,jq L f args=some v/\K v:=by
 obtain⟨a,b⟩:=h;obtain⟨u,d,e⟩:=kC b;exact⟨u,by unfold jq;rw[ae a];exact d,e⟩
def dd{L:CE}{f:Nat}{σ:List al}{K:AV->List al->Prop}(h:LX L f args σ K):∃v a, L f args σ=some (v,a)/\K v a :=by
 obtain⟨⟨v,a⟩,b,d⟩:=kC h;exact⟨v,a, b,d⟩
variable{cR: List al}{v:AV}
def za{L:CE}{f:Nat}{σ: List al}{K:AV->List al->Prop}(h:L f args σ=some (v,cR)) (k:K v cR):LX L f args σ K:=by unfold LX;rw[h];exact k
def bZ{L:CE}{f:Nat}{r:AV}(h:LX L f args [] λv cR =>aS (bP cR false v) (·= r)):rW L f args=some r:=by
 obtain⟨v,cR, a,b⟩:=dd h;obtain⟨u,d,rfl⟩:=kC b;simp only[rW,a,d]
def jP{L:CE}{f:Nat}{σ: List al}(h:LX L f args σ λa τ=>a = v/\τ=cR):L f args σ=some (v,cR):=by
 obtain⟨a, τ,b,rfl,rfl⟩:=dd h;exact b
variable{r:Rf->AV}
def OR{L:CE}{σ:List al}{nl:Nat}{op:dh}{K:AV->Option cQ->Prop}(h:qt L σ nl r op K):∃v p,ev L σ nl [] r op=some (v,p)/\K v p:=by
 unfold qt at h;cases op
 case bin o x y=>
  simp only at h;split at h
  .rename_i a b ha hb
   obtain⟨v,h1,h2⟩:=aa9 h;exact⟨v,none,by simp only[ev,ha,hb,h1];rfl,h2⟩
  .exact h.elim
 case bu x i st=>
  simp only at h;split at h
  .rename_i q l n ha hb
   obtain⟨h0,y,h1,h2,h3⟩:=h;exact⟨_,_,by simp[ev,ha,hb,h0,h1,h2],h3⟩
  .rename_i b u off len n ha hb
   obtain⟨h0,h1⟩:=h;exact⟨_,_,by simp only[ev,ha,hb];rw[ae h0],h1⟩
  .exact h.elim
 case fN x i n k=>
  simp only at h;split at h
  .rename_i b u o j ha hb
   obtain⟨h0,h1⟩:=h;exact⟨_,_,by simp only[ev,ha,hb];rw[ae h0],h1⟩
  .rename_i v j ha hb
   obtain⟨h0,h1⟩:=h;obtain⟨y,h2,h3⟩:=kC h1;exact⟨_,_,by simp only[ev,ha,hb];rw[ae h0,h2];rfl,h3⟩
  .exact h.elim
 case k9 f args=>
  obtain⟨v,h1,h2⟩:=Gz h;exact⟨v,none,by simp[ev,h1],h2⟩
 case l5 x args=>
  simp only at h;split at h
  .rename_i f cz ha
   obtain⟨v,h1,h2⟩:=Gz h;exact⟨v,none,by simp only[ev,ha,h1];rfl,h2⟩
  .exact h.elim
 case inv x qQ args=>
  simp only at h;split at h
  .rename_i t q ha
   split at h
   .rename_i f hf
    obtain⟨v,h1,h2⟩:=Gz h;exact⟨v,none,by simp only[ev,ha,hf,h1];rfl,h2⟩
   .exact h.elim
  .exact h.elim
 case ld x k=>
  simp only at h;split at h
  .rename_i v ha
   split at h
   .exact h.elim
   .rename_i v hv;exact⟨_,none,by simp only[ev,ha],h⟩
   .obtain⟨h1,h2⟩:=h;exact⟨_,none,by simp[ev,ha,h1],h2⟩
   .exact h.elim
  .rename_i b u o ha
   obtain⟨B,hB,h⟩:=kC h;obtain⟨h1,h⟩:=h;obtain⟨y,h2,h3⟩:=kC h;exact⟨y,none,by simp only[ev,ha,hB];rw[ae h1,h2];rfl,h3⟩
  .exact h.elim
 case Et x=>
  simp only at h;split at h
  .rename_i n ha
   obtain⟨h1,h2⟩:=wW h;exact⟨_,none,by simp only[ev,ha];rw[ae h1],h2⟩
  .rename_i k n ha
   obtain⟨h1,h2⟩:=wW h;exact⟨_,none,by simp only[ev,ha];rw[ae h1],h2⟩
  .exact h.elim
 case qX x lo hi st=>
  simp only at h;split at h
  .rename_i a b ha hb
   split at h
   .rename_i nn l hx
    obtain⟨h0,h1⟩:=h;exact⟨_,_,by simp only[ev,ha,hb,hx];rw[ae h0],h1⟩
   .rename_i b' u off len hx
    obtain⟨B,hB,h0,h1⟩:=kC h;exact⟨_,_,by simp only[ev,ha,hb,hx,hB];rw[ae h0],h1⟩
   .exact h.elim
  .exact h.elim
 case rp f args=>
  obtain⟨vs,h1,h2⟩:=kC h;obtain⟨v,cR, h3,h4⟩:=dd h2;obtain⟨u,h5,h6⟩:=kC h4;exact⟨u,none,by simp only[ev,h1,h3,h5];rfl,h6⟩
 case can f args=>
  obtain⟨h1,h2⟩:=h;obtain⟨v,cR, h3,h4⟩:=dd h2;exact⟨_,_,by simp only[ev];rw[ae h1,h3],h4⟩
 case jc n c z k=>
  simp only at h;split at h
  .rename_i n c ha hb
   obtain⟨h0,h1⟩:=h;exact⟨_,_,by simp only[ev,ha,hb];rw[ae h0],h1⟩
  .exact h.elim
 case app s x k=>
  simp only at h;split at h
  .exact h.elim
  .rename_i n cs hx
   split at h
   .rename_i b u off len hs
    obtain⟨B,hB,⟨h1,h2,h3,h4⟩,h5,h6⟩:=kC h
    by_cases hn:n=0
    .subst hn
     exact⟨_,_,by simp only[ev,hx,hs,hB];rw[ae (by simp[h1,h2,h4,oW];omega)];simp,h5 rfl⟩
    .obtain⟨h7,h8⟩:=h6 hn
     exact⟨_,_,by simp only[ev,hx,hs,hB];rw[ae (by simp[h1,h2,h4,oW];omega)];rw[ad jC,ad (by simpa using h7)],h8⟩
   .rename_i hs
    by_cases hn:n=0
    .subst hn
     exact⟨_,_,by simp only[ev,hx,hs];simp,h.1 rfl⟩
    .obtain⟨h7,h8⟩:=h.2 hn
     exact⟨_,_,by simp only[ev,hx,hs];rw[ad jC,ae h7],h8⟩
   .rename_i hs
    by_cases hn:n=0
    .subst hn
     exact⟨_,_,by simp only[ev,hx,hs];simp,h.1 rfl⟩
    .obtain⟨h7,h8⟩:=h.2 hn
     exact⟨_,_,by simp only[ev,hx,hs];rw[ad jC,ae h7],h8⟩
   .rename_i l hs
    by_cases hn:n=0
    .subst hn
     exact⟨_,_,by simp only[ev,hx,hs];simp,h.1 rfl⟩
    .obtain⟨⟨h7,h9⟩,h8⟩:=h.2 hn
     exact⟨_,_,by simp only[ev,hx,hs];rw[ad jC,ae (by simp[h7,h9])],h8⟩
   .exact h.elim
 all_goals
  obtain⟨⟨v,p⟩,h1,h2⟩:=kC h;exact⟨v,p,h1,h2⟩
def zb (cs:List AV) (o:Nat) (new:List AV) (K:List AV->Prop):Prop:=o+new.length<=cs.length/\K (putAt cs o new)
def zd (L:CE) (σ:List al) (r:Rf->AV) (op:dh) (K:AV->List al->Prop):Prop:=
 match op with
 |.st p x n=>match r p with
  |.ptr b u o=>aS (upto σ b u) λB=>((r x).cells.length=n/\B.st.isLive=true/\bg (r x)=true)/\zb B.cells o (r x).cells λcs=>K .aO (ar σ b ⟨B.k,cs,B.st⟩)
  |_=>False
 |.cp s x k=>match aP σ k (r x)with
  |none=>False
  |some (n,cs)=>match r s with
   |.sl b u off len=>aS (upto σ b u) λB=>bB (off=0/\len+n<=dK/\tX B.k k=true/\(n ≠ 0->cs.length ≠ 0)) ((n=0->K (.sl b u off len) σ)/\(n ≠ 0->u=len*aM k->K (.sl b (u+cs.length) 0 (len+n)) (ar σ b ⟨B.k,B.cells++cs,.live⟩))/\(n ≠ 0->u ≠ len*aM k->(len+n)*aM k<=u/\K (.sl b u 0 (len+n)) (ar σ b ⟨B.k,putAt B.cells (len*aM k) cs,B.st⟩)))
   |.ag=>(n=0->K .ag σ)/\(n ≠ 0->n<=dK/\K (.sl σ.length cs.length 0 n) (σ ++ [⟨k,cs,.live⟩]))
   |.emp=>(n=0->K .emp σ)/\(n ≠ 0->n<=dK/\K (.sl σ.length cs.length 0 n) (σ ++ [⟨k,cs,.live⟩]))
   |.arr l=>(n=0->K (if aC l then .aF true l else .arr l) σ)/\(n ≠ 0->(fitAll (aM k) l=true/\l.length+n<=dK)/\K (.sl σ.length (l.flatMap AV.cells++cs).length 0 (l.length+n)) (σ ++ [⟨k,l.flatMap AV.cells++cs,.live⟩]))
   |_=>False
 |.fE f args=>LX L f (args.map r) σ K
 |.lE x args=>match r x with
  |.func f a=>LX L f (args.map r++a) σ K
  |_=>False
 |.sU x d args=>match r x with
  |.iface t v=>match eY d t with
   |some f=>LX L f (v::args.map r) σ K
   |none=>False
  |_=>False
 |op=>aS (gf L σ r op) λp=>K p.1 p.2
def aba{L:CE}{σ:List al}{op:dh}{K:AV->List al->Prop}(h:zd L σ r op K):∃v cR, gf L σ r op=some (v,cR)/\K v cR :=by
 unfold zd at h;cases op
 case st p x n=>
  simp only at h;split at h
  .rename_i b u o ha
   obtain⟨B,hB,⟨h1,h2,h3⟩,h4,h5⟩:=kC h;exact⟨.aO,_,by simp only[gf,ha,hB];simp[h1,h2,h3,show o+n<=B.cells.length by rw[<-h1];exact h4],h5⟩
  .exact h.elim
 case cp s x k=>
  simp only at h;split at h
  .exact h.elim
  .rename_i n cs hx
   split at h
   .rename_i b u off len hs
    obtain⟨B,hB,⟨h1,h2,h3,h4⟩,h5,h6,h7⟩:=kC h
    by_cases hn:n=0
    .subst hn
     exact⟨_,_,by simp only[gf,hx,hs,hB];rw[ae (by simp[h1,h3];omega)];simp,h5 rfl⟩
    .have hc:=h4 hn
     by_cases hu:u=len*aM k
     .exact⟨_,_,by simp only[gf,hx,hs,hB];rw[ae (by simp[h1,h3];omega)];rw[ad jC,ad (by simpa using hc),ae (by simpa using hu)],h6 hn hu⟩
     .obtain⟨h8,h9⟩:=h7 hn hu
      exact⟨_,_,by simp only[gf,hx,hs,hB];rw[ae (by simp[h1,h3];omega)];rw[ad jC,ad (by simpa using hc),ad (by simpa using hu),ae h8],h9⟩
   .rename_i hs
    by_cases hn:n=0
    .subst hn
     exact⟨_,_,by simp only[gf,hx,hs];simp,h.1 rfl⟩
    .obtain⟨h7,h8⟩:=h.2 hn
     exact⟨_,_,by simp only[gf,hx,hs];rw[ad jC,ae h7],h8⟩
   .rename_i hs
    by_cases hn:n=0
    .subst hn
     exact⟨_,_,by simp only[gf,hx,hs];simp,h.1 rfl⟩
    .obtain⟨h7,h8⟩:=h.2 hn
     exact⟨_,_,by simp only[gf,hx,hs];rw[ad jC,ae h7],h8⟩
   .rename_i l hs
    by_cases hn:n=0
    .subst hn
     exact⟨_,_,by simp only[gf,hx,hs];simp,h.1 rfl⟩
    .obtain⟨⟨h7,h9⟩,h8⟩:=h.2 hn
     exact⟨_,_,by simp only[gf,hx,hs];rw[ad jC,ae (by simp[h7,h9])],h8⟩
   .exact h.elim
 case fE f args=>
  obtain⟨v,cR, h1,h2⟩:=dd h;exact⟨v,cR, h1,h2⟩
 case lE x args=>
  simp only at h;split at h
  .rename_i f cz ha
   obtain⟨v,cR, h1,h2⟩:=dd h;exact⟨v,cR, by simp only[gf,ha];exact h1,h2⟩
  .exact h.elim
 case sU x qQ args=>
  simp only at h;split at h
  .rename_i t q ha
   split at h
   .rename_i f hf
    obtain⟨v,cR, h1,h2⟩:=dd h;exact⟨v,cR, by simp only[gf,ha,hf];exact h1,h2⟩
   .exact h.elim
  .exact h.elim
 all_goals
  obtain⟨⟨v,p⟩,h1,h2⟩:=kC h;exact⟨v,p,h1,h2⟩
def dV (K:List AV->List al->List al->Prop) (env:List AV) (a σ:List al) (v:AV):Option cQ->Prop
 |none=>K (v::env) a σ
 |some p=>K (v::env) σ (gk σ p)
def ck (L:CE) (vars:List AV) (op:dh) (prev:Bool) (env:List AV) (a σ:List al) (K:List AV->List al->List al->Prop):Prop:=
 match op.lf,prev,op.lY with
 |true,_,_=>zd L σ (rv vars env) op λv cR =>K (v::env) [] cR
 |false,true,true=>qt L a σ.length (rv vars env) op (dV K env σ σ)
 |false,true,false=>qt L a σ.length (rv vars env) op (dV K env a σ)
 |false,false,true=>qt L σ σ.length (rv vars env) op (dV K env σ σ)
 |false,false,false=>qt L σ σ.length (rv vars env) op (dV K env a σ)
def gK (b:Bool) (A B:Prop):Prop:=(b=true->A)/\(b=false->B)
variable{A B:Prop}
def GA:gK true A B=A:=by simp[gK]
def GB:gK false A B=B:=by simp[gK]
def LK (L:CE) (vars:List AV):List Ln->List AV->List al->List al->(List AV->List al->Prop)->Prop
 | [],env,_,σ,K=>K env σ
 |⟨op,g,prev⟩::ls,env,a,σ,K=>match g with
  |none=>ck L vars op prev env a σ λenv a σ=>LK L vars ls env a σ K
  |some (.t d,w)=>match nth env d with
   |.bool b=>match w with
    |true=>gK b (ck L vars op prev (eu env d (.bool true)) a σ λenv a σ=>LK L vars ls env a σ K) (LK L vars ls (.bM []::eu env d (.bool false)) a σ K)
    |false=>gK b (LK L vars ls (.bM []::eu env d (.bool true)) a σ K) (ck L vars op prev (eu env d (.bool false)) a σ λenv a σ=>LK L vars ls env a σ K)
   |.bM []=>LK L vars ls (.bM []::env) a σ K
   |_=>False
  |some (.v k,w)=>match nth vars k with
   |.bool b=>match w with
    |true=>gK b (ck L vars op prev env a σ λenv a σ=>LK L vars ls env a σ K) (LK L vars ls (.bM []::env) a σ K)
    |false=>gK b (LK L vars ls (.bM []::env) a σ K) (ck L vars op prev env a σ λenv a σ=>LK L vars ls env a σ K)
   |.bM []=>LK L vars ls (.bM []::env) a σ K
   |_=>False
  |some (.c _,_)=>False
def OS:∀{l:List AV}{d:Nat}{x:AV},x ≠ .aO->nth l d=x->eu l d x=l
 | [],d,x,a,h=>by simp[nth]at h;exact absurd h.symm a
 |y::r,0,x,_,h=>by simp[nth]at h;simp[eu,h]
 |y::r,d+1,x,a,h=>by simp only[nth]at h;simp[eu,OS a h]
def OT{L:CE}{vars:List AV}{op:dh}{g:Option (Rf×Bool)}{prev:Bool}{env:List AV}{a σ:List al}{K:List AV->List al->List al->Prop}(l:want vars env g=some true) (h:ck L vars op prev env a σ K) :
  ∃s,dm L vars ⟨env,a,σ⟩ ⟨op,g,prev⟩=some s/\K s.env s.aL s.σ:=by
 unfold ck at h;unfold dm;simp only[l];have fin:∀e i,(if prev=true then a else σ)=e->(if op.lY=true then σ else a)=i->op.lf=false->qt L e σ.length (rv vars env) op (dV K env i σ)->
   ∃s,(if op.lf=true then match gf L σ (rv vars env) op with
    |some (v,cR)=>some (⟨v::env,[],cR⟩:LS)
    |none=>none
   else match ev L (if prev=true then a else σ) σ.length [] (rv vars env) op with
    |some (v,none)=>some ⟨v::env,if op.lY=true then σ else a,σ⟩
    |some (v,some p)=>some ⟨v::env,σ,gk σ p⟩
    |none=>none)=some s/\K s.env s.aL s.σ:=λe i e0 m j h=>by
  obtain⟨v,p,d,b⟩:=OR h;rw[ad (by simp[j]),e0,m,d]
  cases p with
  |none=>exact⟨_,rfl,b⟩
  |some p=>exact⟨_,rfl,b⟩
 split at h
 .rename_i j
  obtain⟨v,cR, d,b⟩:=aba h;rw[ae j,d];exact⟨_,rfl,b⟩
 .rename_i d b;exact fin _ _ ab fj d h
 .rename_i d b;exact fin _ _ ab fj d h
 .rename_i d b;exact fin _ _ ab fj d h
 .rename_i d b;exact fin _ _ ab fj d h
variable{wX: List AV}
def wY{L:CE}{vars:List AV}{op:dh}{g:Option (Rf×Bool)}{prev:Bool}{ls:List Ln}{env: List AV}{a σ:List al}{K:List AV->List al->Prop}(e:wX = env) (b:want vars wX g=some false)
  (h:∃q,lines L vars ls ⟨.bM []::wX, a,σ⟩=some q/\K q.env q.σ):∃q,lines L vars (⟨op,g,prev⟩::ls) ⟨env,a,σ⟩=some q/\K q.env q.σ:=by
 subst e;obtain⟨q,d,i⟩:=h;exact⟨q,by simp only[lines,dm,b];exact d,i⟩
def tc{L:CE}{vars:List AV}{op:dh}{g:Option (Rf×Bool)}{prev:Bool}{ls:List Ln}{env: List AV}{a σ:List al}{K:List AV->List al->Prop}{J:List AV->List al->List al->Prop}(e:wX = env) (b:want vars wX g=some true)
  (h:ck L vars op prev wX a σ J) (d:∀env a σ,J env a σ->∃q,lines L vars ls ⟨env,a,σ⟩=some q/\K q.env q.σ):∃q,lines L vars (⟨op,g,prev⟩::ls) ⟨env,a,σ⟩=some q/\K q.env q.σ:=by
 subst e;obtain⟨s,i,j⟩:=OT b h;obtain⟨q,l,m⟩:=d _ _ _ j;exact⟨q,by simp only[lines,i];exact l,m⟩
def oB{L:CE}{vars:List AV}:∀{ls:List Ln}{env:List AV}{i σ:List al}{K:List AV->List al->Prop},LK L vars ls env i σ K->∃q,lines L vars ls ⟨env,i,σ⟩=some q/\K q.env q.σ
 | [],env,i,σ,K,h=>⟨_,rfl,h⟩
 |⟨op,g,prev⟩::ls,env,i,σ,K,h=>by
  unfold LK at h;split at h
  .exact tc rfl rfl h λ_ _ _ h=>oB h
  .rename_i d w
   split at h
   .rename_i b a
    have e:∀q,b=q->eu env d (.bool q)=env:=λq j=>OS ab (j▸a)
    cases w with
    |true=>
     simp only[gK]at h;cases b with
     |true=>exact tc (e true rfl) (by rw[e true rfl];simp[want,rv,a]) (h.1 rfl) λ_ _ _ h=>oB h
     |false=>exact wY (e false rfl) (by rw[e false rfl];simp[want,rv,a]) (oB (h.2 rfl))
    |false=>
     simp only[gK]at h;cases b with
     |true=>exact wY (e true rfl) (by rw[e true rfl];simp[want,rv,a]) (oB (h.1 rfl))
     |false=>exact tc (e false rfl) (by rw[e false rfl];simp[want,rv,a]) (h.2 rfl) λ_ _ _ h=>oB h
   .rename_i a
    exact wY rfl mZ (oB h)
   .exact h.elim
  .rename_i k w
   split at h
   .rename_i b a
    cases w with
    |true=>
     simp only[gK]at h;cases b with
     |true=>exact tc rfl mZ (h.1 rfl) λ_ _ _ h=>oB h
     |false=>exact wY rfl mZ (oB (h.2 rfl))
    |false=>
     simp only[gK]at h;cases b with
     |true=>exact wY rfl mZ (oB (h.1 rfl))
     |false=>exact tc rfl mZ (h.2 rfl) λ_ _ _ h=>oB h
   .rename_i a
    exact wY rfl mZ (oB h)
   .exact h.elim
  .exact h.elim
@[reducible] def ze (env:List AV):Option (Nat×Nat)->Option (Nat×AV)
 |some (t,d)=>some (t,nth env d)
 |none=>none
def WK (L:CE):IC->List AV->Option (Nat×AV)->List al->(Ex->St->Prop)->Prop
 |.skip,vars,d,σ,Q=>Q .eQ ⟨vars,d,σ⟩
 |.cF r,vars,_,σ,Q=>LK L vars r.ls [] σ σ λenv σ=>Q .eQ ⟨dM r.dM (outs env r.outs vars),ze env r.fl,σ⟩
 |.seq a b,vars,d,σ,Q=>WK L a vars d σ λe s=>match e with
  |.eQ=>WK L b s.vars s.fl s.σ Q
  |e=>Q e s
 |.cond t a b,vars,d,σ,Q=>match d with
  |some (g, .bool c)=>g = t/\gK c (WK L a vars none σ Q) (WK L b vars none σ Q)
  |_=>False
 |.jN k a b,vars,d,σ,Q=>match nth vars k with
  |.bool c=>gK c (WK L a vars d σ Q) (WK L b vars d σ Q)
  |_=>False
 |.block id c,vars,d,σ,Q=>WK L c vars d σ (Out id Q)
 |.exit id,vars,d,σ,Q=>Q (.exit id) ⟨vars,d,σ⟩
 |.ret,vars,d,σ,Q=>Q .ret ⟨vars,d,σ⟩
 |.bad,_,_,_,_=>False
 |.cut _ c,vars,d,σ,Q=>WK L c vars d σ Q
 |.Eu c,vars,d,σ,Q=>WK L c vars d σ Q
 |c,vars,d,σ,Q=>W L c ⟨vars,d,σ⟩ Q
def Xv (L:CE) (d:IC) (Q:Ex->St->Prop):Ex->St->Prop:=λe s=>match e with
 |.eQ=>WK L d s.vars s.fl s.σ Q
 |e=>Q e s
def pz{L:CE}:∀{c:IC}{vars:List AV}{d:Option (Nat×AV)}{σ:List al}{Q:Ex->St->Prop},WK L c vars d σ Q->W L c ⟨vars,d,σ⟩ Q
 |.skip,vars,d,σ,Q,h=>aa3 h
 |.cF r,vars,d,σ,Q,h=>by
  unfold WK at h;obtain⟨q,g,i⟩:=oB h;refine OP (s' :=⟨dM r.dM (outs q.env r.outs vars),ze q.env r.fl,q.σ⟩) ?_ i;simp only[dc,g]
  rfl
 |.seq a b,vars,d,σ,Q,h=>OQ ((pz (c:=a) h).mono λe s l=>by
  cases e with
  |eQ=>exact pz (c:=b) l
  |exit j=>exact l
  |ret=>exact l)
 |.cond t a b,vars,d,σ,Q,h=>by
  unfold WK at h;split at h
  .obtain⟨rfl,g,i⟩:=h
   exact aa6 (λe=>pz (g e)) (λe=>pz (i e))
  .exact h.elim
 |.jN k a b,vars,d,σ,Q,h=>by
  unfold WK at h;split at h
  .rename_i c m
   exact aa7 m (λe=>pz (h.1 e)) (λe=>pz (h.2 e))
  .exact h.elim
 |.block id c,vars,d,σ,Q,h=>aa8 (pz (c:=c) h)
 |.exit id,vars,d,σ,Q,h=>aa4 h
 |.ret,vars,d,σ,Q,h=>OO h
 |.loop c,vars,d,σ,Q,h=>h
 |.ji k,vars,d,σ,Q,h=>h
 |.lex c,vars,d,σ,Q,h=>h
 |.bad,vars,d,σ,Q,h=>h.elim
 |.cut b c,vars,d,σ,Q,h=>by
  obtain⟨n,e,s', g,i⟩:=pz (c:=c) h;exact⟨n,e,s', by simpa only[exec]using g,i⟩
 |.Eu c,vars,d,σ,Q,h=>by
  obtain⟨n,e,s', g,i⟩:=pz (c:=c) h;exact⟨n,e,s', by simpa only[exec]using g,i⟩
section
variable{L:CE}{vars:List AV}{fl:Option (Nat×AV)}{σ:List al}{Q:Ex->St->Prop}
def abb:WK L .skip vars fl σ Q=Q .eQ ⟨vars,fl,σ⟩:=(rfl)
def abc{r:gi}:WK L (.cF r) vars fl σ Q=LK L vars r.ls [] σ σ λenv σ=>Q .eQ ⟨dM r.dM (outs env r.outs vars),ze env r.fl,σ⟩:=(rfl)
def abd{a b:IC}:WK L (.seq a b) vars fl σ Q=WK L a vars fl σ (Xv L b Q):=(rfl)
variable{a b:IC}
def abe{t:Nat}{c:Bool}:WK L (.cond t a b) vars (some (t,.bool c)) σ Q=gK c (WK L a vars none σ Q) (WK L b vars none σ Q):=by
 apply propext;exact⟨λh=>h.2,λh=>⟨rfl,h⟩⟩
def abf{k:Nat}:WK L (.jN k a b) vars fl σ Q=match nth vars k with
  |.bool c=>gK c (WK L a vars fl σ Q) (WK L b vars fl σ Q)
  |_=>False:=by conv=>lhs;unfold WK
def abg{id:Nat}{c:IC}:WK L (.block id c) vars fl σ Q=WK L c vars fl σ (Out id Q):=(rfl)
def abh{id:Nat}:WK L (.exit id) vars fl σ Q=Q (.exit id) ⟨vars,fl,σ⟩:=(rfl)
def abi:WK L .ret vars fl σ Q=Q .ret ⟨vars,fl,σ⟩:=(rfl)
def abj{c:IC}:WK L (.loop c) vars fl σ Q=W L (.loop c) ⟨vars,fl,σ⟩ Q:=(rfl)
def abk{k:Nat}:WK L (.ji k) vars fl σ Q=W L (.ji k) ⟨vars,fl,σ⟩ Q:=(rfl)
def abl{c:IC}:WK L (.lex c) vars fl σ Q=W L (.lex c) ⟨vars,fl,σ⟩ Q:=(rfl)
def abm:WK L .bad vars fl σ Q=False:=(rfl)
def abn{b:Bool}{c:IC}:WK L (.cut b c) vars fl σ Q=WK L c vars fl σ Q:=(rfl)
def abo{c:IC}:WK L (.Eu c) vars fl σ Q=WK L c vars fl σ Q:=(rfl)
def abp{d:IC}:Xv L d Q .eQ ⟨vars,fl,σ⟩=WK L d vars fl σ Q:=(rfl)
def abq{d:IC}{s:St}:Xv L d Q .ret s=Q .ret s:=(rfl)
def abr{d:IC}{s:St}{j:Nat}:Xv L d Q (.exit j) s=Q (.exit j) s:=(rfl)
def abt{id:Nat}{s:St}:Out id Q .eQ s=Q .eQ s:=(rfl)
def abu{id:Nat}{s:St}:Out id Q .ret s=Q .ret s:=(rfl)
def abv{id j:Nat}{s:St}:Out id Q (.exit j) s=if j=id then Q .eQ s else Q (.exit j) s:=(rfl)
def abw{I:St->Prop}{a:St->Nat}{m:Nat}{s:St}:y8 I a m Q .eQ s=(I s/\a s<m):=(rfl)
def abx{I:St->Prop}{a:St->Nat}{m:Nat}{s:St}:y8 I a m Q .ret s=Q .ret s:=(rfl)
def aby{I:St->Prop}{a:St->Nat}{m j:Nat}{s:St}:y8 I a m Q (.exit j) s=Q (.exit j) s:=(rfl)
end
def ie (fn:Fn) (K:AV->List al->Prop):Ex->St->Prop
 |.exit _,_=>False
 |_,s=>aS (results fn s) λv=>K v s.σ
def abz{G:Nat->Option Fn}{P:kv}(g:dX P){f:Nat}(fn:Fn){args:List AV}{σ:List al}{K:AV->List al->Prop}(i:P f=none) (l:G f=some fn) (m:args.length=fn.np)
  (h:WK (lim G P) fn.body (args++List.replicate (fn.nv-fn.np) .aO) none σ (ie fn K)):LX (lim G P) f args σ K:=by
 obtain⟨n,e,s,o,a⟩:=pz h;cases e with
 |exit j=>exact a.elim
 |eQ=>obtain⟨v,b,d⟩:=kC a;exact za (ON g i l m o (λj=>ab) b) d
 |ret=>obtain⟨v,b,d⟩:=kC a;exact za (ON g i l m o (λj=>ab) b) d
attribute [simp ↓] wV qp bB y9 rX
attribute [irreducible] WK
universe u
inductive Tk {α:Sort u} (a:α):Type
 |k
def nx (x:AV) (K:AV->Prop) (_:Tk K):Prop:=K x
def nL (l:List AV) (K:List AV->Prop) (_:Tk K):Prop:=K l
def nB (l:List al) (K:List al->Prop) (_:Tk K):Prop:=K l
def nC (l:List AV) (K:List AV->Prop) (_:Tk K):Prop:=K l
def oK{a:Type}(o:Option a) (K:a->Prop) (_:Tk K):Prop:=aS o K
def gT (b:Bool) (A B:Prop) (_:Tk A) (_:Tk B):Prop:=gK b A B
def im (p A:Prop) (_:Tk A):Prop:=p->A
def xK (l:List AV) (n:Int) (K:AV->Prop) (_:Tk K):Prop:=BW l n K
def lX (L:CE) (f:Nat) (args:List AV) (σ:List al) (K:AV->List al->Prop) (_:Tk K):Prop:=LX L f args σ K
def pT (cs:List AV) (off:Nat) (k:Option Nat) (K:AV->Prop) (_:Tk K):Prop:=aS (part cs off k) K
def pU (cs:List AV) (o:Nat) (new:List AV) (K:List AV->Prop) (_:Tk K):Prop:=zb cs o new K
def bk (o:Option al) (u:Nat) (K:Option Nat->List AV->fb->Prop) (_:Tk K):Prop:=
 match o with
 |some B=>(B.cells.length=u/\B.st.fG=true)/\K B.k B.cells B.st
 |none=>False
section
variable{K:AV->Prop}{t:Tk K}
def OU{n:Int}:nx (.int n) K t=K (.int n):=(rfl)
def EB{k:Nat}{n:Int}:nx (.ik k n) K t=K (.ik k n):=(rfl)
def OV{n:Bool}:nx (.bool n) K t=K (.bool n):=(rfl)
def OW{n:List UInt8}:nx (.str n) K t=K (.str n):=(rfl)
def OX{l:List AV}:nx (.agg l) K t=K (.agg l):=(rfl)
def OY{l:List AV}:nx (.bM l) K t=K (.bM l):=(rfl)
def OZ:nx .ag K t=K .ag:=(rfl)
def O1{q:Bool}{l:List AV}:nx (.aF q l) K t=K (.aF q l):=(rfl)
def O2{l:List AV}:nx (.arr l) K t=K (.arr l):=(rfl)
def EC{b u o n:Nat}:nx (.sl b u o n) K t=K (.sl b u o n):=(rfl)
def O3:nx .iy K t=K .iy:=(rfl)
def O4{v:AV}:nx (.a8 v) K t=K (.a8 v):=(rfl)
def O5{b u o:Nat}:nx (.ptr b u o) K t=K (.ptr b u o):=(rfl)
def O6:nx .kS K t=K .kS:=(rfl)
def O7{f:Nat}{l:List AV}:nx (.func f l) K t=K (.func f l):=(rfl)
def O8:nx .hY K t=K .hY:=(rfl)
def O9{n:Nat}{v:AV}:nx (.iface n v) K t=K (.iface n v):=(rfl)
def Pa{b:Nat}:nx (.cP b) K t=K (.cP b):=(rfl)
def Pb:nx .qh K t=K .qh:=(rfl)
def Pc:nx .emp K t=K .emp:=(rfl)
def Pd:nx .aO K t=K .aO:=(rfl)
def abA{x:AV}:nx x K t=K x:=(rfl)
def Pe{a:Type}{u:a}{K:a->Prop}{t:Tk K}:oK (some u) K t=K u:=(rfl)
def Pf{a:Type}{K:a->Prop}{t:Tk K}:oK none K t=False:=(rfl)
end
def Pg{K:List AV->Prop}{t:Tk K}:nL [] K t=K []:=(rfl)
def Ph{x:AV}{l:List AV}{K:List AV->Prop}{t:Tk K}:nL (x::l) K t=nx x (λy=>nL l (λl=>K (y::l)) .k) .k:=(rfl)
def abB{l:List AV}{K:List AV->Prop}{t:Tk K}:nL l K t=K l:=(rfl)
def Pj{K:List al->Prop}{t:Tk K}:nB [] K t=K []:=(rfl)
def Pm{k:Option Nat}{cs:List AV}{st:fb}{l:List al}{K:List al->Prop}{t:Tk K}:nB (⟨k,cs,st⟩::l) K t=nB l (λl=>K (⟨k,cs,st⟩::l)) .k:=(rfl)
def abC{l:List al}{K:List al->Prop}{t:Tk K}:nB l K t=K l:=(rfl)
def abD{l:List AV}{K:List AV->Prop}{t:Tk K}:nC l K t=K l:=(rfl)
def Pn{A B:Prop}{t:Tk A}{u:Tk B}:gT true A B t u=A:=GA
def Po{A B:Prop}{t:Tk A}{u:Tk B}:gT false A B t u=B:=GB
def Pp{b:Bool}{A B:Prop}{t:Tk A}{u:Tk B}:gT (!b) A B t u=gT b B A u t:=by cases b<;>simp[gT,gK]
def abE{b:Bool}{A B:Prop}{t:Tk A}{u:Tk B}:gT b A B t u=(im (b=true) A .k/\im (b=false) B .k):=(rfl)
def GC{p:Prop} [Decidable p]{A B:Prop}{t:Tk A}{u:Tk B}:gT (decide p) A B t u=(im p A .k/\im (¬p) B .k):=by
 by_cases h:p<;>simp[gT,gK,im,h]
def abF{A:Prop}{t:Tk A}:im True A t=A:=by simp[im]
def abG{A:Prop}{t:Tk A}:im False A t=True:=by simp[im]
def abH{p A:Prop}{t:Tk A}:im p A t=(p->A):=(rfl)
def Pq{k:Option Nat}{cs:List AV}{u:Nat}{K:Option Nat->List AV->fb->Prop}{t:Tk K}:bk (some ⟨k,cs,.live⟩) u K t=(cs.length=u/\K k cs .live):=by simp[bk,fb.fG]
def Pr{k:Option Nat}{cs:List AV}{st:fb}{u:Nat}{K:Option Nat->List AV->fb->Prop}{t:Tk K}:bk (some ⟨k,cs,st⟩) u K t=((cs.length=u/\st.fG=true)/\K k cs st):=(rfl)
def uO{σ:List al}{b u:Nat}{K:al->Prop}:aS (upto σ b u) K=bk (aq σ b) u (λk cs st=>K ⟨k,cs,st⟩) .k:=by
 unfold upto bk;cases aq σ b with
 |none=>rfl
 |some B=>
  obtain⟨k,cs,st⟩:=B
  by_cases h:cs.length=u<;>cases st<;>simp[h,aS,fb.fG]
@[reducible] def ig {α β:Type} (f:α->β):List α->List β
 | []=>[]
 |x::r=>f x::ig f r
def iF{a b:Type}(f:a->b):∀l:List a,l.map f=ig f l
 | []=>rfl
 |x::r=>by simp[ig,iF f r]
@[reducible] def gR {α:Type}:List α->List α->List α
 | [],m=>m
 |x::r,m=>x::gR r m
def iC{a:Type}:∀l m:List a,l++m=gR l m
 | [],m=>rfl
 |x::r,m=>by simp[gR,iC r m]
@[reducible] def vM:Nat->List AV->List AV
 |0,_=>[]
 |_,[]=>[]
 |n+1,x::r=>x::vM n r
def Ps:∀(n:Nat) (l:List AV),l.take n=vM n l
 |0,l=>by cases l<;>rfl
 |n+1,[]=>rfl
 |n+1,x::r=>by simp[vM,Ps n r]
@[reducible] def vN:Nat->List AV->List AV
 |0,l=>l
 |_,[]=>[]
 |n+1,_::r=>vN n r
def Pt:∀(n:Nat) (l:List AV),l.drop n=vN n l
 |0,l=>by cases l<;>rfl
 |n+1,[]=>rfl
 |n+1,x::r=>by simp[vN,Pt n r]
def abI{cs:List AV}{off:Nat}{K:AV->Prop}{t:Tk K}:pT cs off none K t=oK (pa cs off) K .k:=(rfl)
def abJ{cs:List AV}{off n:Nat}{K:AV->Prop}{t:Tk K}:pT cs off (some n) K t=(off+n<=cs.length/\nL (vM n (vN off cs)) (λl=>K (.agg l)) .k):=by
 unfold pT part;rw[<-Ps,<-Pt]
 by_cases h:off+n<=cs.length<;>simp[h,aS,nL]
section
variable{L:CE}{vars env:List AV}{aL σ:List al}{K:List AV->List al->List al->Prop}
def ii (x y:AV) (K:Int->Int->Prop):Prop:=match x,y with
 |.int a,.int b=>K a b
 |_,_=>False
def abK{a b:Int}{K:Int->Int->Prop}:ii (.int a) (.int b) K=K a b:=(rfl)
def bb (x y:AV) (K:Bool->Bool->Prop):Prop:=match x,y with
 |.bool a,.bool b=>K a b
 |_,_=>False
def abL{a b:Bool}{K:Bool->Bool->Prop}:bb (.bool a) (.bool b) K=K a b:=(rfl)
def b1 (x:AV) (K:Bool->Prop):Prop:=match x with
 |.bool a=>K a
 |_=>False
def abM{a:Bool}{K:Bool->Prop}:b1 (.bool a) K=K a:=(rfl)
def ED (x:AV) (K:Int->Prop):Prop:=match x with
 |.ag=>K 0
 |.emp=>K 0
 |.aF _ l=>K l.length
 |.sl _ _ _ n=>K n
 |_=>False
def abN{K:Int->Prop}:ED .ag K=K 0:=(rfl)
def abO{K:Int->Prop}:ED .emp K=K 0:=(rfl)
def abP{q:Bool}{l:List AV}{K:Int->Prop}:ED (.aF q l) K=K l.length:=(rfl)
def abQ{b u o n:Nat}{K:Int->Prop}:ED (.sl b u o n) K=K n:=(rfl)
def Pu (x:AV) (off:Nat) (k:Option Nat) (K:AV->Prop):Prop:=match x with
 |.ptr b u o=>K (.ptr b u (o+off))
 |.a8 v=>pT v.cells off k (λy=>K (.a8 y)) .k
 |_=>False
def abR{b u o off:Nat}{k:Option Nat}{K:AV->Prop}:Pu (.ptr b u o) off k K=K (.ptr b u (o+off)):=(rfl)
def abS{v:AV}{off:Nat}{k:Option Nat}{K:AV->Prop}:Pu (.a8 v) off k K=pT v.cells off k (λy=>K (.a8 y)) .k:=(rfl)
def Px (x:AV) (K:AV->Prop):Prop:=match x with
 |.ptr b u o=>K (.ptr b u o)
 |.a8 v=>K (.a8 v)
 |_=>False
def abT{b u o:Nat}{K:AV->Prop}:Px (.ptr b u o) K=K (.ptr b u o):=(rfl)
def abU{v:AV}{K:AV->Prop}:Px (.a8 v) K=K (.a8 v):=(rfl)
def sv (x:AV) (k:Option Nat) (K:AV->Prop):Prop:=match x with
 |.a8 v=>match k,v with
  |none,.agg _=>False
  |none,v=>K v
  |some n,.agg l=>l.length=n/\K (.agg l)
  |some _,_=>False
 |_=>False
def abV{n:Int}{K:AV->Prop}:sv (.a8 (.int n)) none K=K (.int n):=(rfl)
def abW{n:Bool}{K:AV->Prop}:sv (.a8 (.bool n)) none K=K (.bool n):=(rfl)
def abX{n:List UInt8}{K:AV->Prop}:sv (.a8 (.str n)) none K=K (.str n):=(rfl)
def abY{q:Bool}{l:List AV}{K:AV->Prop}:sv (.a8 (.aF q l)) none K=K (.aF q l):=(rfl)
def abZ{K:AV->Prop}:sv (.a8 .ag) none K=K .ag:=(rfl)
def ab0{v:AV}{K:AV->Prop}:sv (.a8 (.a8 v)) none K=K (.a8 v):=(rfl)
def ab1{f:Nat}{l:List AV}{K:AV->Prop}:sv (.a8 (.func f l)) none K=K (.func f l):=(rfl)
def ab2{f:Nat}{l:AV}{K:AV->Prop}:sv (.a8 (.iface f l)) none K=K (.iface f l):=(rfl)
def ab3{n:Nat}{l:List AV}{K:AV->Prop}:sv (.a8 (.agg l)) (some n) K=(l.length=n/\K (.agg l)):=(rfl)
def fl1 (x:AV) (off:Nat) (k:Option Nat) (K:AV->Prop):Prop:=match x with
 |.agg l=>pT l off k K .k
 |_=>False
def ab4{l:List AV}{off:Nat}{k:Option Nat}{K:AV->Prop}:fl1 (.agg l) off k K=pT l off k K .k:=(rfl)
def Xw (x:AV) (i:Nat) (K:AV->Prop):Prop:=match x with
 |.bM l=>oK (pa l i) K .k
 |_=>False
def ab5{l:List AV}{i:Nat}{K:AV->Prop}:Xw (.bM l) i K=oK (pa l i) K .k:=(rfl)
def sw (σ:List al) (x:AV) (K:Bool->Prop):Prop:=match x with
 |.ag=>K true
 |.aF true _=>K false
 |.aF false (_::_)=>K false
 |.sl b u _ _=>aS (upto σ b u) λB=>match B.st with
  |.live=>K false
  |_=>False
 |_=>False
def ab6{K:Bool->Prop}:sw σ .ag K=K true:=(rfl)
def ab7{l:List AV}{K:Bool->Prop}:sw σ (.aF true l) K=K false:=(rfl)
def ab8{x:AV}{l:List AV}{K:Bool->Prop}:sw σ (.aF false (x::l)) K=K false:=(rfl)
def ab9{b u o n:Nat}{K:Bool->Prop}:sw σ (.sl b u o n) K=bk (aq σ b) u (λ_ _ st=>st = .live/\K false) .k:=by
 show aS (upto σ b u) _=_;rw[show(λB:al=>match B.st with | .live=>K false|_=>False)=λB=>B.st = .live/\K false from by funext B;cases B.st<;>simp,uO]
def Xx (x i:AV) (st:Nat) (K:AV->Prop):Prop:=match x,i with
 |.aF _ l,.int n=>xK l n (λy=>y.cells.length=st/\K (.a8 y)) .k
 |.sl b u off len,.int n=>bB (0<=n/\n<len) (K (.ptr b u (off+n.toNat*st)))
 |_,_=>False
def aca{q:Bool}{l:List AV}{n:Int}{st:Nat}{K:AV->Prop}:Xx (.aF q l) (.int n) st K=xK l n (λy=>y.cells.length=st/\K (.a8 y)) .k:=(rfl)
def acb{b u off len:Nat}{n:Int}{st:Nat}{K:AV->Prop}:Xx (.sl b u off len) (.int n) st K=bB (0<=n/\n<len) (K (.ptr b u (off+n.toNat*st))):=(rfl)
def Xy (x i:AV) (n:Nat) (k:Option Nat) (K:AV->Prop):Prop:=match x,i with
 |.ptr b u o,.int j=>bB (0<=j/\j<n) (K (.ptr b u (o+j.toNat*aM k)))
 |.a8 v,.int j=>bB (0<=j/\j<n) (pT v.cells (j.toNat*aM k) k (λy=>K (.a8 y)) .k)
 |_,_=>False
def acd{b u o n:Nat}{j:Int}{k:Option Nat}{K:AV->Prop}:Xy (.ptr b u o) (.int j) n k K=bB (0<=j/\j<n) (K (.ptr b u (o+j.toNat*aM k))):=(rfl)
def ace{v:AV}{n:Nat}{j:Int}{k:Option Nat}{K:AV->Prop}:Xy (.a8 v) (.int j) n k K=bB (0<=j/\j<n) (pT v.cells (j.toNat*aM k) k (λy=>K (.a8 y)) .k):=(rfl)
def Py (x:AV) (K:Nat->List AV->Prop):Prop:=match x with
 |.func f a=>K f a
 |_=>False
def acf{f:Nat}{a:List AV}{K:Nat->List AV->Prop}:Py (.func f a) K=K f a:=(rfl)
def Xz (x:AV) (a:List (Nat×Nat)) (K:Nat->AV->Prop):Prop:=match x with
 |.iface t v=>match eY a t with
  |some f=>K f v
  |none=>False
 |_=>False
def acg{t:Nat}{v:AV}{a:List (Nat×Nat)}{K:Nat->AV->Prop}:Xz (.iface t v) a K=oK (eY a t) (λf=>K f v) .k:=by cases h:eY a t<;>simp[Xz,h,oK,aS]
def i1 (x:AV) (K:Int->Prop):Prop:=match x with
 |.int a=>K a
 |.ik _ a=>K a
 |_=>False
def ach{a:Int}{K:Int->Prop}:i1 (.int a) K=K a:=(rfl)
def EE{k:Nat}{a:Int}{K:Int->Prop}:i1 (.ik k a) K=K a:=(rfl)
def st1 (σ:List al) (p x:AV) (n:Nat) (K:List al->Prop):Prop:=match p with
 |.ptr b u o=>aS (upto σ b u) λB=>(x.cells.length=n/\B.st.isLive=true/\bg x=true)/\zb B.cells o x.cells λcs=>K (ar σ b ⟨B.k,cs,B.st⟩)
 |_=>False
def aci{b u o n:Nat}{x:AV}{K:List al->Prop}:st1 σ (.ptr b u o) x n K=bk (aq σ b) u (λk cs st=>(x.cells.length=n/\st.isLive=true/\bg x=true)/\pU cs o x.cells (λcs=>nC cs (λcs=>nB (ar σ b ⟨k,cs,st⟩) K .k) .k) .k) .k:=uO
variable{x:Rf}
def acj:ck L vars (.mv x) false env aL σ K=K (rv vars env x::env) aL σ:=(rfl)
variable{y:Rf}
def ack{o:AP}:ck L vars (.bin o x y) false env aL σ K=ii (rv vars env x) (rv vars env y) λa b=>wV o a b λv=>K (v::env) aL σ:=(rfl)
def acm{n:Bool}:ck L vars (.beq n x y) false env aL σ K=bb (rv vars env x) (rv vars env y) λa b=>K (.bool ((a==b) != n)::env) aL σ:=by
 show aS (ev L σ σ.length [] (rv vars env) (.beq n x y)) _=_;simp only[ev,bb];generalize rv vars env x=p;generalize rv vars env y=q;cases p<;>cases q<;>rfl
def acn:ck L vars (.not x) false env aL σ K=b1 (rv vars env x) λa=>K (.bool (!a)::env) aL σ:=by
 show aS (ev L σ σ.length [] (rv vars env) (.not x)) _=_;simp only[ev,b1];generalize rv vars env x=p;cases p<;>rfl
variable{c:Rf}
theorem aco:ck L vars (.pick c x y) false env aL σ K=b1 (rv vars env c) λa=>K ((match a with|true=>rv vars env x|false=>rv vars env y)::env) aL σ:=by
 show aS (ev L σ σ.length [] (rv vars env) (.pick c x y)) _=_;simp only[ev,b1];cases h:rv vars env c with
 |bool b=>cases b<;>rfl
 |_=>rfl
def acp:ck L vars (.len x) false env aL σ K=ED (rv vars env x) λa=>K (.int a::env) aL σ:=by
 show aS (ev L σ σ.length [] (rv vars env) (.len x)) _=_;simp only[ev,ED];generalize rv vars env x=p;cases p<;>rfl
def acq:ck L vars (.mx true x y) false env aL σ K=ii (rv vars env x) (rv vars env y) λa b=>K (.int (max a b)::env) aL σ:=by
 show aS (ev L σ σ.length [] (rv vars env) (.mx true x y)) _=_;simp only[ev,ii];generalize rv vars env x=p;generalize rv vars env y=q;cases p<;>cases q<;>try rfl
 rename_i a b;show K (.int (if a<b then b else a)::env) aL σ=K (.int (max a b)::env) aL σ
 rw[show(if a<b then b else a)=max a b by rw[Int.max_def];split<;>split<;>omega]
def acr:ck L vars (.mx false x y) false env aL σ K=ii (rv vars env x) (rv vars env y) λa b=>K (.int (min a b)::env) aL σ:=by
 show aS (ev L σ σ.length [] (rv vars env) (.mx false x y)) _=_;simp only[ev,ii];generalize rv vars env x=p;generalize rv vars env y=q;cases p<;>cases q<;>try rfl
 rename_i a b;show K (.int (if b<a then b else a)::env) aL σ=K (.int (min a b)::env) aL σ
 rw[show(if b<a then b else a)=min a b by rw[Int.min_def];split<;>split<;>omega]
variable{off:Nat}
def acs{k:Option Nat}:ck L vars (.cV x off k) false env aL σ K=Pu (rv vars env x) off k λa=>K (a::env) aL σ:=by
 show aS (ev L σ σ.length [] (rv vars env) (.cV x off k)) _=_;simp only[ev,Pu];generalize rv vars env x=p;cases p<;>try rfl
 rename_i v;dsimp only[pT];cases part v.cells off k<;>rfl
variable{i:Rf}{st:Nat}
def acu:ck L vars (.bu x i st) false env aL σ K=Xx (rv vars env x) (rv vars env i) st λv=>K (v::env) aL σ:=(rfl)
variable{n:Nat}
def acv{k:Option Nat}:ck L vars (.fN x i n k) false env aL σ K=Xy (rv vars env x) (rv vars env i) n k λv=>K (v::env) aL σ:=(rfl)
def acw:ck L vars (.o9 x) false env aL σ K=Px (rv vars env x) λa=>K (a::env) aL σ:=by
 show aS (ev L σ σ.length [] (rv vars env) (.o9 x)) _=_;simp only[ev,Px];generalize rv vars env x=p;cases p<;>rfl
def pA{a:Type}{c:Prop} [Decidable c]{x:a}{K:a->Prop}:aS (if c then some x else none) K=bB c (K x):=by
 by_cases h:c<;>simp[h,aS,bB]
def acx:ck L vars (.fD x) false env aL σ K=bB (aR (rv vars env x)=true) (K (.a8 (rv vars env x)::env) aL σ):=by
 show aS (ev L σ σ.length [] (rv vars env) (.fD x)) _=_;simp only[ev,pA,dV]
def acy{n:Nat}:ck L vars (.gw n) false env aL σ K=K (.aO::env) aL σ:=(rfl)
variable{p:Rf}
def acz:ck L vars (.jX p x n) false env aL σ K=bB (aR (rv vars env x)=true/\(rv vars env x).cells.length=n) (K (.a8 (rv vars env x)::env) aL σ):=by
 show aS (ev L σ σ.length [] (rv vars env) (.jX p x n)) _=_;simp only[ev,pA,dV,aH,cT]
variable{z:List AV}
def acA{ps:List (Nat×Nat×Rf)}:ck L vars (.iz z ps) false env aL σ K=aS (ia z (ps.map λp=>(p.1,p.2.1,rv vars env p.2.2))) λl=>K (.agg l::env) aL σ:=by
 show aS (ev L σ σ.length [] (rv vars env) (.iz z ps)) _=_;simp only[ev];cases ia z (ps.map λp=>(p.1,p.2.1,rv vars env p.2.2))<;>rfl
def acB{i:Nat}:ck L vars (.ext x i) false env aL σ K=Xw (rv vars env x) i λa=>K (a::env) aL σ:=by
 show aS (ev L σ σ.length [] (rv vars env) (.ext x i)) _=_;simp only[ev,Xw];generalize rv vars env x=p;cases p<;>try rfl
 rename_i l;dsimp only[oK];cases pa l i<;>rfl
def acC{f:Nat}{cs:List Rf}:ck L vars (.BG f cs) false env aL σ K=K (.func f (cs.map (rv vars env))::env) aL σ:=(rfl)
def acD{t:Nat}:ck L vars (.Mm t x) false env aL σ K=K (.iface t (rv vars env x)::env) aL σ:=(rfl)
variable{ps:List Rf}
def acE:ck L vars (.bN ps st) false env aL σ K=bB (aC (ps.map (rv vars env))=true/\fitAll st (ps.map (rv vars env))=true) (K (.aF false (ps.map (rv vars env))::env) aL σ):=by
 show aS (ev L σ σ.length [] (rv vars env) (.bN ps st)) _=_;simp only[ev,pA,dV,aH]
def acF:ck L vars (.bW ps st) false env aL σ K=bB (fitAll st (ps.map (rv vars env))=true) (K (.arr (ps.map (rv vars env))::env) aL σ):=by
 show aS (ev L σ σ.length [] (rv vars env) (.bW ps st)) _=_;simp only[ev,pA,dV]
variable{args:List Rf}
def acG{f:Nat}:ck L vars (.k9 f args) false env aL σ K=rX L f (args.map (rv vars env)) λv=>K (v::env) aL σ:=(rfl)
def acH:ck L vars (.l5 x args) false env aL σ K=Py (rv vars env x) λf a=>rX L f (args.map (rv vars env)++a) λv=>K (v::env) aL σ:=(rfl)
def acI{a:List (Nat×Nat)}:ck L vars (.inv x a args) false env aL σ K=Xz (rv vars env x) a λf v=>rX L f (v::args.map (rv vars env)) λv=>K (v::env) aL σ:=(rfl)
def acJ{n:Bool}:ck L vars (.oy n x) false env aL σ K=sw σ (rv vars env x) λa=>K (.bool (a != n)::env) aL σ:=by
 show aS (ev L σ σ.length [] (rv vars env) (.oy n x)) _=_;cases h:rv vars env x with
 |ag=>simp[ev,h,sw,aS,dV]
 |aF q l=>
  cases q with
  |true=>simp[ev,h,sw,aS,dV]
  |false=>cases l<;>simp[ev,h,sw,aS,dV]
 |sl b u o n=>
  simp only[ev,h,sw];cases upto σ b u with
  |none=>rfl
  |some B=>obtain⟨q,cs,st⟩:=B;cases st<;>simp[aS,dV]
 |_=>simp[ev,h,sw,aS]
def acK{n:Bool}:ck L vars (.oy n x) true env aL σ K=sw aL (rv vars env x) λa=>K (.bool (a != n)::env) aL σ:=by
 show aS (ev L aL σ.length [] (rv vars env) (.oy n x)) _=_;cases h:rv vars env x with
 |ag=>simp[ev,h,sw,aS,dV]
 |aF q l=>
  cases q with
  |true=>simp[ev,h,sw,aS,dV]
  |false=>cases l<;>simp[ev,h,sw,aS,dV]
 |sl b u o n=>
  simp only[ev,h,sw];cases upto aL b u with
  |none=>rfl
  |some B=>obtain⟨q,cs,st⟩:=B;cases st<;>simp[aS,dV]
 |_=>simp[ev,h,sw,aS]
theorem acL{k:Option Nat}:ck L vars (.cW x k) false env aL σ K=sv (rv vars env x) k λa=>K (a::env) aL σ:=by
 show aS (ev L σ σ.length [] (rv vars env) (.cW x k)) _=_;simp only[ev,sv];generalize rv vars env x=p;cases p<;>try rfl
 rename_i v;cases k with
 |none=>cases v<;>rfl
 |some n=>
  cases v with
  |agg l=>by_cases h:l.length=n<;>simp[h,aS,dV]
  |_=>rfl
def ld1 (σ:List al) (x:AV) (k:Option Nat) (K:AV->Prop):Prop:=match x with
 |.a8 v=>sv (.a8 v) k K
 |.ptr b u o=>aS (upto σ b u) λB=>B.st.isLive=true/\y9 B.cells o k K
 |_=>False
def acM{k:Option Nat}:ck L vars (.ld x k) false env aL σ K=ld1 σ (rv vars env x) k λa=>K (a::env) aL σ:=by
 show qt L σ σ.length (rv vars env) (.ld x k) _=_;cases h:rv vars env x with
 |a8 v=>cases k<;>cases v<;>simp[qt,h,ld1,sv,dV]
 |ptr b u o=>simp[qt,h,ld1,dV]
 |_=>simp[qt,h,ld1]
def acN{k:Option Nat}:ck L vars (.ld x k) true env aL σ K=ld1 aL (rv vars env x) k λa=>K (a::env) aL σ:=by
 show qt L aL σ.length (rv vars env) (.ld x k) _=_;cases h:rv vars env x with
 |a8 v=>cases k<;>cases v<;>simp[qt,h,ld1,sv,dV]
 |ptr b u o=>simp[qt,h,ld1,dV]
 |_=>simp[qt,h,ld1]
def acO:ck L vars (.Et x) false env aL σ K=i1 (rv vars env x) λn=>qp n λv=>K (v::env) aL σ:=(rfl)
def sl1 (σ:List al) (x:AV) (a:Int) (b:Option Int) (st:Nat) (K:AV->Prop):Prop:=match x with
 |.aF e l=>bB ((0<=a/\a<=b.getD l.length/\b.getD l.length<=l.length)/\gv st l=true) (K (.aF (e&&decide (0<l.length)) ((l.drop a.toNat).take ((b.getD l.length).toNat-a.toNat))))
 |.sl d u off len=>aS (upto σ d u) λB=>bB ((0<=a/\a<=b.getD len/\b.getD len<=len)/\aM B.k=st) (K (.sl d u (off+a.toNat*st) ((b.getD len).toNat-a.toNat)))
 |_=>False
variable{lo hi:Option Rf}
theorem acP:ck L vars (.qX x lo hi st) false env aL σ K=aS (uD (rv vars env) lo) λa=>aS (uE (rv vars env) hi) λb=>sl1 σ (rv vars env x) a b st λv=>K (v::env) aL σ:=by
 show qt L σ σ.length (rv vars env) (.qX x lo hi st) _=_;unfold qt;simp only;cases uD (rv vars env) lo with
 |none=>rfl
 |some a=>cases uE (rv vars env) hi with
  |none=>rfl
  |some b=>rfl
theorem acQ:ck L vars (.qX x lo hi st) true env aL σ K=aS (uD (rv vars env) lo) λa=>aS (uE (rv vars env) hi) λb=>sl1 aL (rv vars env x) a b st λv=>K (v::env) aL σ:=by
 show qt L aL σ.length (rv vars env) (.qX x lo hi st) _=_;unfold qt;simp only;cases uD (rv vars env) lo with
 |none=>rfl
 |some a=>cases uE (rv vars env) hi with
  |none=>rfl
  |some b=>rfl
def acR{f:Nat}:ck L vars (.rp f args) false env aL σ K=aS (bJ (λx=>view σ false vd (rv vars env x)) args) λvs=>LX L f vs [] λv cR =>aS (bP cR true v) λu=>K (u::env) aL σ:=(rfl)
def acS{f:Nat}:ck L vars (.rp f args) true env aL σ K=aS (bJ (λx=>view aL false vd (rv vars env x)) args) λvs=>LX L f vs [] λv cR =>aS (bP cR true v) λu=>K (u::env) aL σ:=(rfl)
def acT{f:Nat}:ck L vars (.can f args) false env aL σ K=bB (aC (args.map (rv vars env))=true) (LX L f (args.map (rv vars env)) [] λv cR =>K (js σ.length v::env) σ (σ++cR.map (gH σ.length))):=(rfl)
def acU{k:Option Nat}:ck L vars (.vw x k) false env aL σ K=bB ((rv vars env x).cells.length=aM k/\bg (rv vars env x)=true) (K (.ptr σ.length (aM k) 0::env) σ (σ ++ [⟨k,(rv vars env x).cells,.live⟩])):=by
 show aS (ev L σ σ.length [] (rv vars env) (.vw x k)) _=_;simp only[ev,pA,dV,gk,aH,cT]
def acV{k:Option Nat}:ck L vars (.lW z k) false env aL σ K=bB (z.length=aM k) (K (.ptr σ.length (aM k) 0::env) σ (σ ++ [⟨k,z,.live⟩])):=by
 show aS (ev L σ σ.length [] (rv vars env) (.lW z k)) _=_;simp only[ev,pA,dV,gk,cT]
def acW{n:Rf}{k:Option Nat}:ck L vars (.jc n c z k) false env aL σ K=ii (rv vars env n) (rv vars env c) λn c=>bB (0<=n/\n<=c/\c<=dK/\z.length=aM k) (K (.sl σ.length (eK c.toNat z).length 0 n.toNat::env) σ (σ ++ [⟨k,eK c.toNat z,.live⟩])):=(rfl)
def acX{k:Option Nat}:ck L vars (.lz ps k) false env aL σ K=bB (fitAll (aM k) (ps.map (rv vars env))=true) (K (.sl σ.length ((ps.map (rv vars env)).flatMap AV.cells).length 0 ps.length::env) σ (σ ++ [⟨k,(ps.map (rv vars env)).flatMap AV.cells,.live⟩])):=by
 show aS (ev L σ σ.length [] (rv vars env) (.lz ps k)) _=_;simp only[ev,pA,dV,gk]
def acY{k:Option Nat}:ck L vars (.nl k) false env aL σ K=K (.sl σ.length 0 0 0::env) σ (σ ++ [⟨k,[],.gN⟩]):=(rfl)
def XA (σ:List al) (s:AV) (k:Option Nat) (n:Nat) (cs:List AV) (K:AV->List al->Prop):Prop:=match s with
 |.sl b u off len=>aS (upto σ b u) λB=>bB (off=0/\u=len*aM k/\len+n<=dK/\tX B.k k=true) ((n=0->K (.sl b u off len) σ)/\(n ≠ 0->cs.length ≠ 0/\K (.sl b (u+cs.length) 0 (len+n)) (sV σ b cs)))
 |.ag=>(n=0->K .ag σ)/\(n ≠ 0->n<=dK/\K (.sl σ.length cs.length 0 n) (σ ++ [⟨k,cs,.live⟩]))
 |.emp=>(n=0->K .emp σ)/\(n ≠ 0->n<=dK/\K (.sl σ.length cs.length 0 n) (σ ++ [⟨k,cs,.live⟩]))
 |.arr l=>(n=0->K (if aC l then .aF true l else .arr l) σ)/\(n ≠ 0->(fitAll (aM k) l=true/\l.length+n<=dK)/\K (.sl σ.length (l.flatMap AV.cells++cs).length 0 (l.length+n)) (σ ++ [⟨k,l.flatMap AV.cells++cs,.live⟩]))
 |_=>False
variable{b u len:Nat}{cs:List AV}
def acZ{k:Option Nat}{K:AV->List al->Prop}:XA σ (.sl b u off len) k n cs K=aS (upto σ b u) λB=>bB (off=0/\u=len*aM k/\len+n<=dK/\tX B.k k=true) ((n=0->K (.sl b u off len) σ)/\(n ≠ 0->cs.length ≠ 0/\K (.sl b (u+cs.length) 0 (len+n)) (sV σ b cs))):=(rfl)
variable{s:Rf}
def ac0{k:Option Nat}:ck L vars (.app s x k) false env aL σ K=aS (aP σ k (rv vars env x)) λp=>XA σ (rv vars env s) k p.1 p.2 λv τ=>K (v::env) σ τ:=by
 show qt L σ σ.length (rv vars env) (.app s x k) _=_;unfold qt;simp only;cases aP σ k (rv vars env x)with
 |none=>rfl
 |some p=>
  obtain⟨n,cs⟩:=p;cases h:rv vars env s<;>rfl
def ac1:ck L vars (.st p x n) false env aL σ K=st1 σ (rv vars env p) (rv vars env x) n λτ=>K (.aO::env) [] τ:=(rfl)
def XB (σ:List al) (s:AV) (k:Option Nat) (n:Nat) (cs:List AV) (K:AV->List al->Prop):Prop:=match s with
 |.sl b u off len=>aS (upto σ b u) λB=>bB (off=0/\len+n<=dK/\tX B.k k=true/\(n ≠ 0->cs.length ≠ 0)) ((n=0->K (.sl b u off len) σ)/\(n ≠ 0->u=len*aM k->K (.sl b (u+cs.length) 0 (len+n)) (ar σ b ⟨B.k,B.cells++cs,.live⟩))/\(n ≠ 0->u ≠ len*aM k->(len+n)*aM k<=u/\K (.sl b u 0 (len+n)) (ar σ b ⟨B.k,putAt B.cells (len*aM k) cs,B.st⟩)))
 |.ag=>(n=0->K .ag σ)/\(n ≠ 0->n<=dK/\K (.sl σ.length cs.length 0 n) (σ ++ [⟨k,cs,.live⟩]))
 |.emp=>(n=0->K .emp σ)/\(n ≠ 0->n<=dK/\K (.sl σ.length cs.length 0 n) (σ ++ [⟨k,cs,.live⟩]))
 |.arr l=>(n=0->K (if aC l then .aF true l else .arr l) σ)/\(n ≠ 0->(fitAll (aM k) l=true/\l.length+n<=dK)/\K (.sl σ.length (l.flatMap AV.cells++cs).length 0 (l.length+n)) (σ ++ [⟨k,l.flatMap AV.cells++cs,.live⟩]))
 |_=>False
def ac2{k:Option Nat}{K:AV->List al->Prop}:XB σ (.sl b u off len) k n cs K=aS (upto σ b u) λB=>bB (off=0/\len+n<=dK/\tX B.k k=true/\(n ≠ 0->cs.length ≠ 0)) ((n=0->K (.sl b u off len) σ)/\(n ≠ 0->u=len*aM k->K (.sl b (u+cs.length) 0 (len+n)) (ar σ b ⟨B.k,B.cells++cs,.live⟩))/\(n ≠ 0->u ≠ len*aM k->(len+n)*aM k<=u/\K (.sl b u 0 (len+n)) (ar σ b ⟨B.k,putAt B.cells (len*aM k) cs,B.st⟩))):=(rfl)
def ac3{k:Option Nat}:ck L vars (.cp s x k) false env aL σ K=aS (aP σ k (rv vars env x)) λp=>XB σ (rv vars env s) k p.1 p.2 λv τ=>K (v::env) [] τ:=by
 show zd L σ (rv vars env) (.cp s x k) (λv cR =>K (v::env) [] cR)=_;unfold zd;simp only;cases aP σ k (rv vars env x)with
 |none=>rfl
 |some p=>
  obtain⟨n,cs⟩:=p;cases h:rv vars env s<;>rfl
def ac4{f:Nat}:ck L vars (.fE f args) false env aL σ K=LX L f (args.map (rv vars env)) σ λv τ=>K (v::env) [] τ:=(rfl)
def ac5:ck L vars (.lE x args) false env aL σ K=Py (rv vars env x) λf a=>LX L f (args.map (rv vars env)++a) σ λv τ=>K (v::env) [] τ:=(rfl)
end
section
variable{L:CE}{vars env:List AV}{aL σ:List al}{K:List AV->List al->List al->Prop}
def ac6{x:Rf}:ck L vars (.mv x) false env aL σ K=nx (rv vars env x) (λv=>K (v::env) aL σ) .k:=acj
def Pz{o:AP}{x y:Rf}:ck L vars (.bin o x y) false env aL σ K=nx (rv vars env x) (λx=>nx (rv vars env y) (λy=>ii x y λa b=>wV o a b λv=>K (v::env) aL σ) .k) .k:=ack
def PA{n:Bool}{x y:Rf}:ck L vars (.beq n x y) false env aL σ K=nx (rv vars env x) (λx=>nx (rv vars env y) (λy=>bb x y λa b=>K (.bool ((a==b) != n)::env) aL σ) .k) .k:=acm
def PB{x:Rf}:ck L vars (.not x) false env aL σ K=nx (rv vars env x) (λx=>b1 x λa=>K (.bool (!a)::env) aL σ) .k:=acn
def pk (b:Bool) (x y:AV):AV:=match b with
 |true=>x
 |false=>y
def ac7{x y:AV}:pk true x y=x:=(rfl)
def ac8{x y:AV}:pk false x y=y:=(rfl)
variable{b:Bool}
def ac9{x y:Int}:pk b (.int x) (.int y) = .int (if b=true then x else y):=by cases b<;>rfl
def ada{x y:Bool}:pk b (.bool x) (.bool y) = .bool (if b=true then x else y):=by cases b<;>rfl
def pq (b:Bool) (x y:AV) (K:AV->Prop) (_:Tk K):Prop:=K (pk b x y)
def PD{x y:AV}{K:AV->Prop}{t:Tk K}:pq true x y K t=nx x K .k:=(rfl)
def PG{x y:AV}{K:AV->Prop}{t:Tk K}:pq false x y K t=nx y K .k:=(rfl)
def PH{b:Bool}{x y:Int}{K:AV->Prop}{t:Tk K}:pq b (.int x) (.int y) K t=K (.int (if b=true then x else y)):=by unfold pq;rw[ac9]
def PI{b:Bool}{x y:Bool}{K:AV->Prop}{t:Tk K}:pq b (.bool x) (.bool y) K t=K (.bool (if b=true then x else y)):=by unfold pq;rw[ada]
def adb{b:Bool}{x y:AV}{K:AV->Prop}{t:Tk K}:pq b x y K t=K (pk b x y):=(rfl)
def ade{c x y:Rf}:ck L vars (.pick c x y) false env aL σ K=nx (rv vars env c) (λc=>b1 c λa=>pq a (rv vars env x) (rv vars env y) (λv=>K (v::env) aL σ) .k) .k:=aco
def PJ{x:Rf}:ck L vars (.len x) false env aL σ K=nx (rv vars env x) (λx=>ED x λa=>K (.int a::env) aL σ) .k:=acp
def PK{x y:Rf}:ck L vars (.mx true x y) false env aL σ K=nx (rv vars env x) (λx=>nx (rv vars env y) (λy=>ii x y λa b=>K (.int (max a b)::env) aL σ) .k) .k:=acq
def PL{x y:Rf}:ck L vars (.mx false x y) false env aL σ K=nx (rv vars env x) (λx=>nx (rv vars env y) (λy=>ii x y λa b=>K (.int (min a b)::env) aL σ) .k) .k:=acr
def PM{x:Rf}{off:Nat}{k:Option Nat}:ck L vars (.cV x off k) false env aL σ K=nx (rv vars env x) (λx=>Pu x off k λa=>K (a::env) aL σ) .k:=acs
def PN{x i:Rf}{st:Nat}:ck L vars (.bu x i st) false env aL σ K=nx (rv vars env x) (λx=>nx (rv vars env i) (λi=>Xx x i st λv=>K (v::env) aL σ) .k) .k:=acu
def adf{x i:Rf}{n:Nat}{k:Option Nat}:ck L vars (.fN x i n k) false env aL σ K=nx (rv vars env x) (λx=>nx (rv vars env i) (λi=>Xy x i n k λv=>K (v::env) aL σ) .k) .k:=acv
def PO{x:Rf}:ck L vars (.o9 x) false env aL σ K=nx (rv vars env x) (λx=>Px x λa=>K (a::env) aL σ) .k:=acw
def PQ{x:Rf}:ck L vars (.fD x) false env aL σ K=nx (rv vars env x) (λx=>bB (aR x=true) (K (.a8 x::env) aL σ)) .k:=acx
def PS{p x:Rf}{n:Nat}:ck L vars (.jX p x n) false env aL σ K=nx (rv vars env x) (λx=>bB (aR x=true/\x.cells.length=n) (K (.a8 x::env) aL σ)) .k:=acz
def PT{z:List AV}{ps:List (Nat×Nat×Rf)}:ck L vars (.iz z ps) false env aL σ K=oK (ia z (ig (λp=>(p.1,p.2.1,rv vars env p.2.2)) ps)) (λl=>nL l (λl=>K (.agg l::env) aL σ) .k) .k:=by rw[<-iF];exact acA
def PU{x:Rf}{i:Nat}:ck L vars (.ext x i) false env aL σ K=nx (rv vars env x) (λx=>Xw x i λa=>nx a (λa=>K (a::env) aL σ) .k) .k:=acB
def PV{f:Nat}{cs:List Rf}:ck L vars (.BG f cs) false env aL σ K=nL (ig (rv vars env) cs) (λl=>K (.func f l::env) aL σ) .k:=by rw[<-iF];exact acC
def PW{t:Nat}{x:Rf}:ck L vars (.Mm t x) false env aL σ K=nx (rv vars env x) (λx=>K (.iface t x::env) aL σ) .k:=acD
def adg{ps:List Rf}{st:Nat}:ck L vars (.bN ps st) false env aL σ K=nL (ig (rv vars env) ps) (λl=>bB (aC l=true/\fitAll st l=true) (K (.aF false l::env) aL σ)) .k:=by rw[<-iF];exact acE
def adh{ps:List Rf}{st:Nat}:ck L vars (.bW ps st) false env aL σ K=nL (ig (rv vars env) ps) (λl=>bB (fitAll st l=true) (K (.arr l::env) aL σ)) .k:=by rw[<-iF];exact acF
def cl (L:CE) (f:Nat) (args:List AV) (K:AV->Prop) (_:Tk K):Prop:=rX L f args K
def PX{f:Nat}{args:List AV}{K:AV->Prop}{t:Tk K}:cl L f args K t=(aC args=true/\nL (ig wk args) (λas=>oK (rW L f as) (λv=>nx v K .k) .k) .k):=by rw[<-iF];rfl
def PY{f:Nat}{args:List Rf}:ck L vars (.k9 f args) false env aL σ K=nL (ig (rv vars env) args) (λas=>cl L f as (λv=>K (v::env) aL σ) .k) .k:=by rw[<-iF];exact acG
def adi{x:Rf}{args:List Rf}:ck L vars (.l5 x args) false env aL σ K=nx (rv vars env x) (λx=>Py x λf a=>nL (gR (ig (rv vars env) args) a) (λas=>cl L f as (λv=>K (v::env) aL σ) .k) .k) .k:=by unfold nx nL cl;simp only[<-iF,<-iC];exact acH
def PZ{x:Rf}{a:List (Nat×Nat)}{args:List Rf}:ck L vars (.inv x a args) false env aL σ K=nx (rv vars env x) (λx=>Xz x a λf v=>nL (v::ig (rv vars env) args) (λas=>cl L f as (λv=>K (v::env) aL σ) .k) .k) .k:=by unfold nx nL cl;simp only[<-iF];exact acI
def P0{n:Bool}{x:Rf}:ck L vars (.oy n x) false env aL σ K=nx (rv vars env x) (λx=>sw σ x λa=>K (.bool (a != n)::env) aL σ) .k:=acJ
def adj{n:Bool}{x:Rf}:ck L vars (.oy n x) true env aL σ K=nx (rv vars env x) (λx=>sw aL x λa=>K (.bool (a != n)::env) aL σ) .k:=acK
def P1{x:Rf}{k:Option Nat}:ck L vars (.cW x k) false env aL σ K=nx (rv vars env x) (λx=>sv x k λa=>K (a::env) aL σ) .k:=acL
def P2 (σ:List al) (x:AV) (k:Option Nat) (K:AV->Prop):Prop:=match x with
 |.a8 v=>nx v (λv=>sv (.a8 v) k K) .k
 |.ptr b u o=>bk (aq σ b) u (λ_ cs st=>st.isLive=true/\pT cs o k (λv=>nx v K .k) .k) .k
 |_=>False
def adk{v:AV}{k:Option Nat}{K:AV->Prop}:P2 σ (.a8 v) k K=nx v (λv=>sv (.a8 v) k K) .k:=(rfl)
def adl{b u o:Nat}{k:Option Nat}{K:AV->Prop}:P2 σ (.ptr b u o) k K=bk (aq σ b) u (λ_ cs st=>st.isLive=true/\pT cs o k (λv=>nx v K .k) .k) .k:=(rfl)
variable{x:AV}
theorem P3{σ:List al}{k:Option Nat}{K:AV->Prop}:ld1 σ x k K=P2 σ x k K:=by
 cases x with
 |ptr b u o=>exact uO
 |_=>rfl
def adm{x:Rf}{k:Option Nat}:ck L vars (.ld x k) false env aL σ K=nx (rv vars env x) (λx=>P2 σ x k λa=>K (a::env) aL σ) .k:=by unfold nx;simp only[<-P3];exact acM
def P4{x:Rf}{k:Option Nat}:ck L vars (.ld x k) true env aL σ K=nx (rv vars env x) (λx=>P2 aL x k λa=>K (a::env) aL σ) .k:=by unfold nx;simp only[<-P3];exact acN
def P5{x:Rf}:ck L vars (.Et x) false env aL σ K=nx (rv vars env x) (λx=>i1 x λn=>qp n λv=>K (v::env) aL σ) .k:=acO
def P6 (σ:List al) (x:AV) (a:Int) (b:Option Int) (st:Nat) (K:AV->Prop):Prop:=match x with
 |.aF e l=>bB ((0<=a/\a<=b.getD l.length/\b.getD l.length<=l.length)/\gv st l=true) (nC ((l.drop a.toNat).take ((b.getD l.length).toNat-a.toNat)) (λg =>K (.aF (e&&decide (0<l.length)) g)) .k)
 |.sl d u off len=>bk (aq σ d) u (λk _ _=>bB ((0<=a/\a<=b.getD len/\b.getD len<=len)/\aM k=st) (K (.sl d u (off+a.toNat*st) ((b.getD len).toNat-a.toNat)))) .k
 |_=>False
def adn{d:Bool}{l:List AV}{a:Int}{b:Option Int}{st:Nat}{K:AV->Prop}:P6 σ (.aF d l) a b st K=bB ((0<=a/\a<=b.getD l.length/\b.getD l.length<=l.length)/\gv st l=true) (nC ((l.drop a.toNat).take ((b.getD l.length).toNat-a.toNat)) (λl' =>K (.aF (d&&decide (0<l.length)) l')) .k):=(rfl)
def ado{d u off len:Nat}{a:Int}{b:Option Int}{st:Nat}{K:AV->Prop}:P6 σ (.sl d u off len) a b st K=bk (aq σ d) u (λk _ _=>bB ((0<=a/\a<=b.getD len/\b.getD len<=len)/\aM k=st) (K (.sl d u (off+a.toNat*st) ((b.getD len).toNat-a.toNat)))) .k:=(rfl)
theorem P7{σ:List al}{a:Int}{b:Option Int}{st:Nat}{K:AV->Prop}:sl1 σ x a b st K=P6 σ x a b st K:=by
 cases x with
 |sl b u o n=>exact uO
 |_=>rfl
def GD:List AV->List AV->(Bool->Prop)->Prop
 | [],[],K=>K true
 |.int a::xs,.int b::ys,K=>GD xs ys λc=>K (decide (a=b)&&c)
 |_,_,_=>False
def adp{K:Bool->Prop}:GD [] [] K=K true:=(rfl)
def P8{a b:Int}{xs ys:List AV}{K:Bool->Prop}:GD (.int a::xs) (.int b::ys) K=GD xs ys λc=>K (decide (a=b)&&c):=(rfl)
def adq:∀{xs ys:List AV}{K:Bool->Prop},aS (fk xs ys) K=GD xs ys K:=by
 intro xs
 induction xs with
 |nil=>intro ys K;cases ys<;>rfl
 |cons x xs d=>
  intro ys K;cases ys with
  |nil=>cases x<;>rfl
  |cons y ys=>
   cases x<;>try rfl
   cases y<;>try rfl
   rename_i a b;rw[P8,<-d];simp only[fk];cases fk xs ys<;>rfl
def sq1 (n:Nat) (x y:AV) (K:Bool->Prop):Prop:=match x,y with
 |.agg xs,.agg a=>xs.length=n/\GD xs a K
 |_,_=>False
def P9{n:Nat}{xs ys:List AV}{K:Bool->Prop}:sq1 n (.agg xs) (.agg ys) K=(xs.length=n/\GD xs ys K):=(rfl)
def Qa{g:Bool}{n:Nat}{x y:Rf}:ck L vars (.seq g n x y) false env aL σ K=nx (rv vars env x) (λx=>nx (rv vars env y) (λy=>sq1 n x y λb=>K (.bool (b != g)::env) aL σ) .k) .k:=by
 show aS (ev L σ σ.length [] (rv vars env) (.seq g n x y)) _=_;simp only[nx];generalize d:rv vars env x=p;generalize e:rv vars env y=q;simp only[ev,d,e];cases p<;>try rfl
 cases q<;>try rfl
 rename_i xs i;rw[P9,<-adq]
 by_cases a:xs.length=n
 .simp only[ae a,a,true_and]
  cases fk xs i<;>rfl
 .simp only[ad a]
  exact propext ⟨λh=>h.elim,λh=>a h.1⟩
def mp (o:Option al) (K:Option Nat->List AV->List (AV×AV)->Prop) (_:Tk K):Prop:=match o with
 |some ⟨k,cs,.map es⟩=>cs.length=0/\K k cs es
 |_=>False
def adr{k:Option Nat}{cs:List AV}{es:List (AV×AV)}{K:Option Nat->List AV->List (AV×AV)->Prop}{t:Tk K}:mp (some ⟨k,cs,.map es⟩) K t=(cs.length=0/\K k cs es):=(rfl)
theorem EF{σ:List al}{b:Nat}{K:List (AV×AV)->Prop}:aS (fc σ b) K=mp (aq σ b) (λ_ _ es=>K es) .k:=by
 unfold mp fc;cases aq σ b with
 |none=>rfl
 |some B=>
  obtain⟨k,cs,st⟩:=B;cases st with
  |map es=>
   by_cases h:cs.length=0
   .simp[h,aS]
   .simp[h,aS]
  |_=>rfl
def GF (z:AV) (ok:Bool):Option AV->AV
 |some v=>if ok then .bM [v,.bool true]else v
 |none=>if ok then .bM [z,.bool false]else z
theorem ads{z v:AV}:GF z false (some v)=v:=rfl
theorem adt{z:AV}:GF z false none=z:=rfl
theorem adu{z v:AV}:GF z true (some v) = .bM [v,.bool true]:=rfl
theorem adv{z:AV}:GF z true none = .bM [z,.bool false]:=rfl
def Qb (σ:List al) (x:AV) (a:Nat) (k z:AV) (ok:Bool) (K:AV->Prop):Prop:=match x with
 |.cP b=>aS (fc σ b) λes=>bB (ba a k=true) (oK (cL es k) (λo=>nx (GF z ok o) K .k) .k)
 |_=>False
def adw{σ:List al}{b a:Nat}{k z:AV}{ok:Bool}{K:AV->Prop}:Qb σ (.cP b) a k z ok K=mp (aq σ b) (λ_ _ es=>bB (ba a k=true) (oK (cL es k) (λo=>nx (GF z ok o) K .k) .k)) .k:=EF
def Qc{x k:Rf}{a:Nat}{z:AV}{ok:Bool}:ck L vars (.vB x a k z ok) false env aL σ K=nx (rv vars env x) (λx=>nx (rv vars env k) (λk=>Qb σ x a k z ok λv=>K (v::env) aL σ) .k) .k:=by
 show aS (ev L σ σ.length [] (rv vars env) (.vB x a k z ok)) _=_;simp only[nx];generalize d:rv vars env x=p;generalize e:rv vars env k=q;simp only[ev,d,e];cases p<;>try rfl
 simp only[Qb];cases fc σ _ with
 |none=>rfl
 |some es=>
  simp only[BX,bB]
  by_cases b:ba a q=true
  .simp only[ae b,b,true_and]
   cases cL es q with
   |none=>rfl
   |some o=>cases o<;>rfl
  .simp only[ad b]
   exact propext ⟨λh=>h.elim,λh=>b h.1⟩
def adx{x k:Rf}{a:Nat}{z:AV}{ok:Bool}:ck L vars (.vB x a k z ok) true env aL σ K=nx (rv vars env x) (λx=>nx (rv vars env k) (λk=>Qb aL x a k z ok λv=>K (v::env) aL σ) .k) .k:=by
 show aS (ev L aL σ.length [] (rv vars env) (.vB x a k z ok)) _=_;simp only[nx];generalize d:rv vars env x=p;generalize e:rv vars env k=q;simp only[ev,d,e];cases p<;>try rfl
 simp only[Qb];cases fc aL _ with
 |none=>rfl
 |some es=>
  simp only[BX,bB]
  by_cases b:ba a q=true
  .simp only[ae b,b,true_and]
   cases cL es q with
   |none=>rfl
   |some o=>cases o<;>rfl
  .simp only[ad b]
   exact propext ⟨λh=>h.elim,λh=>b h.1⟩
def Qd (σ:List al) (x:AV) (K:Int->Prop):Prop:=match x with
 |.cP b=>aS (fc σ b) λes=>K es.length
 |_=>False
def ady{σ:List al}{b:Nat}{K:Int->Prop}:Qd σ (.cP b) K=mp (aq σ b) (λ_ _ es=>K es.length) .k:=EF
def Qe{x:Rf}:ck L vars (.AO x) false env aL σ K=nx (rv vars env x) (λx=>Qd σ x λn=>K (.int n::env) aL σ) .k:=by
 show aS (ev L σ σ.length [] (rv vars env) (.AO x)) _=_;simp only[nx];generalize a:rv vars env x=p;simp only[ev,a];cases p<;>try rfl
 simp only[Qd];cases fc σ _<;>rfl
def adz{x:Rf}:ck L vars (.AO x) true env aL σ K=nx (rv vars env x) (λx=>Qd aL x λn=>K (.int n::env) aL σ) .k:=by
 show aS (ev L aL σ.length [] (rv vars env) (.AO x)) _=_;simp only[nx];generalize a:rv vars env x=p;simp only[ev,a];cases p<;>try rfl
 simp only[Qd];cases fc aL _<;>rfl
def Qf:ck L vars .yr false env aL σ K=nB (gR σ [⟨some 0,[],.map []⟩]) (λτ=>K (.cP σ.length::env) σ τ) .k:=by rw[<-iC];rfl
def mu1 (σ:List al) (m:AV) (a:Nat) (k x:AV) (K:List al->Prop):Prop:=match m with
 |.cP b=>mp (aq σ b) (λd cs es=>bB (ba a k=true/\aR x=true) (oK (cL es k) (λo=>o=none/\nB (ar σ b ⟨d,cs,.map (es ++ [(k,x)])⟩) K .k) .k)) .k
 |_=>False
theorem adA{σ:List al}{b a:Nat}{k x:AV}{K:List al->Prop}:mu1 σ (.cP b) a k x K=mp (aq σ b) (λd cs es=>bB (ba a k=true/\aR x=true) (oK (cL es k) (λo=>o=none/\nB (ar σ b ⟨d,cs,.map (es ++ [(k,x)])⟩) K .k) .k)) .k:=rfl
def Qg{m k x:Rf}{a:Nat}:ck L vars (.vz m a k x) false env aL σ K=nx (rv vars env m) (λm=>nx (rv vars env k) (λk=>nx (rv vars env x) (λx=>mu1 σ m a k x λτ=>K (.aO::env) [] τ) .k) .k) .k:=by
 show aS (gf L σ (rv vars env) (.vz m a k x)) _=_;simp only[nx];generalize g:rv vars env m=p;generalize i:rv vars env k=q;generalize j:rv vars env x=r;simp only[gf,g,i,j];cases p<;>try rfl
 rename_i b;simp only[mu1,mp,fc,o5];cases n:aq σ b with
 |none=>rfl
 |some B=>
  obtain⟨s,cs,st⟩:=B;cases st<;>try rfl
  rename_i es
  by_cases e:cs.length=0
  .by_cases d:ba a q=true/\aR r=true
   .simp only[e,d.1,d.2,bB,true_and,lH,dD,Bool.and_self]
    cases cL es q with
    |none=>exact propext ⟨λh=>h.elim,λh=>h.elim⟩
    |some o=>cases o with
     |none=>exact propext ⟨λh=>⟨rfl,h⟩,λh=>h.2⟩
     |some y=>exact propext ⟨λh=>h.elim,λh=>by have:=h.1;simp at this⟩
   .have l : ¬(ba a q&&aR r)=true:=λh=>d cq
    simp only[e,lH,dD,ad l, bB];exact propext ⟨λh=>h.elim,λh=>d h.2.1⟩
  .simp only[e,cT,eI,false_and]
   rfl
@[reducible] def XC (x:Option AV):Option Int:=match x with
 |none=>some 0
 |some (.int n)=>some n
 |some _=>none
@[reducible] def XD (x:Option AV):Option (Option Int):=match x with
 |none=>some none
 |some (.int n)=>some (some n)
 |some _=>none
@[reducible] def EG (f:Rf->AV):Option Rf->Option AV
 |none=>none
 |some x=>some (f x)
variable{r:Rf->AV}{o:Option Rf}
def Qh:uD r o=XC (EG r o):=by
 cases o with
 |none=>rfl
 |some y=>simp only[uD,XC,EG];cases r y<;>rfl
def Qi:uE r o=XD (EG r o):=by
 cases o with
 |none=>rfl
 |some y=>simp only[uE,XD,EG];cases r y<;>rfl
def Qj{x:Rf}{d e:Option Rf}{st:Nat}:ck L vars (.qX x d e st) false env aL σ K=oK (XC (EG (rv vars env) d)) (λa=>oK (XD (EG (rv vars env) e)) (λb=>nx (rv vars env x) (λx=>P6 σ x a b st λv=>K (v::env) aL σ) .k) .k) .k:=by unfold oK nx;simp only[<-Qh,<-Qi,<-P7];exact acP
def adB{x:Rf}{d e:Option Rf}{st:Nat}:ck L vars (.qX x d e st) true env aL σ K=oK (XC (EG (rv vars env) d)) (λa=>oK (XD (EG (rv vars env) e)) (λb=>nx (rv vars env x) (λx=>P6 aL x a b st λv=>K (v::env) aL σ) .k) .k) .k:=by unfold oK nx;simp only[<-Qh,<-Qi,<-P7];exact acQ
def GG{a b d:Type}{f:b->Option d}{g:a->b}:∀{l:List a},bJ (λx=>f (g x)) l=bJ f (ig g l)
 | []=>rfl
 |x::r=>by simp only[bJ,ig];rw[GG (l:=r)]
def Qk{f:Nat}{args:List Rf}:ck L vars (.rp f args) false env aL σ K=nL (ig (rv vars env) args) (λas=>oK (bJ (view σ false vd) as) (λvs=>lX L f vs [] (λv cR =>oK (bP cR true v) (λu=>K (u::env) aL σ) .k) .k) .k) .k:=by unfold nL;dsimp only;rw[<-GG];exact acR
def adC{f:Nat}{args:List Rf}:ck L vars (.rp f args) true env aL σ K=nL (ig (rv vars env) args) (λas=>oK (bJ (view aL false vd) as) (λvs=>lX L f vs [] (λv cR =>oK (bP cR true v) (λu=>K (u::env) aL σ) .k) .k) .k) .k:=by unfold nL;dsimp only;rw[<-GG];exact acS
def Ql{f:Nat}{args:List Rf}:ck L vars (.can f args) false env aL σ K=nL (ig (rv vars env) args) (λas=>bB (aC as=true) (lX L f as [] (λv cR =>nx (js σ.length v) (λv=>nB (σ++cR.map (gH σ.length)) (λτ=>K (v::env) σ τ) .k) .k) .k)) .k:=by rw[<-iF];exact acT
def Qm{x:Rf}{k:Option Nat}:ck L vars (.vw x k) false env aL σ K=nx (rv vars env x) (λx=>bB (x.cells.length=aM k/\bg x=true) (nB (gR σ [⟨k,x.cells,.live⟩]) (λτ=>K (.ptr σ.length (aM k) 0::env) σ τ) .k)) .k:=by unfold nx nB;simp only[<-iC];exact acU
def Qn{z:List AV}{k:Option Nat}:ck L vars (.lW z k) false env aL σ K=bB (z.length=aM k) (nB (gR σ [⟨k,z,.live⟩]) (λτ=>K (.ptr σ.length (aM k) 0::env) σ τ) .k):=by rw[<-iC];exact acV
def Qo{n c:Rf}{z:List AV}{k:Option Nat}:ck L vars (.jc n c z k) false env aL σ K=nx (rv vars env n) (λn=>nx (rv vars env c) (λc=>ii n c λn c=>bB (0<=n/\n<=c/\c<=dK/\z.length=aM k) (nC (eK c.toNat z) (λcs=>nB (gR σ [⟨k,cs,.live⟩]) (λτ=>K (.sl σ.length cs.length 0 n.toNat::env) σ τ) .k) .k)) .k) .k:=by
 unfold nx nC nB;simp only[<-iC];exact acW
@[reducible] def te:List AV->List AV
 | []=>[]
 |x::r=>gR x.cells (te r)
def tf:∀l:List AV,l.flatMap AV.cells=te l
 | []=>rfl
 |x::r=>by simp only[iI,te,tf r,iC]
def adD{ps:List Rf}{k:Option Nat}:ck L vars (.lz ps k) false env aL σ K=nL (ig (rv vars env) ps) (λl=>bB (fitAll (aM k) l=true) (nC (te l) (λcs=>nB (gR σ [⟨k,cs,.live⟩]) (λτ=>K (.sl σ.length cs.length 0 ps.length::env) σ τ) .k) .k)) .k:=by
 unfold nL nC nB;simp only[<-iC,<-iF,<-tf];exact acX
def adE{k:Option Nat}:ck L vars (.nl k) false env aL σ K=nB (gR σ [⟨k,[],.gN⟩]) (λτ=>K (.sl σ.length 0 0 0::env) σ τ) .k:=by rw[<-iC];exact acY
def src (σ:List al) (k:Option Nat) (x:AV) (K:Nat->List AV->Prop) (_:Tk K):Prop:=aS (aP σ k x) λp=>K p.1 p.2
def adF{k:Option Nat}{K:Nat->List AV->Prop}{t:Tk K}:src σ k .ag K t=K 0 []:=(rfl)
def adG{k:Option Nat}{q:Bool}{l:List AV}{K:Nat->List AV->Prop}{t:Tk K}:src σ k (.aF q l) K t=bB (fitAll (aM k) l=true) (nC (l.flatMap AV.cells) (λcs=>K l.length cs) .k):=by
 unfold src aP;by_cases h:fitAll (aM k) l=true<;>simp[h,aS,bB,nC]
def adH{k:Option Nat}{K:Nat->List AV->Prop}{t:Tk K}:src σ k .emp K t=K 0 []:=(rfl)
def adI{k:Option Nat}{l:List AV}{K:Nat->List AV->Prop}{t:Tk K}:src σ k (.arr l) K t=bB (fitAll (aM k) l=true) (nL (te l) (λcs=>K l.length cs) .k):=by
 rw[<-tf];unfold src aP;by_cases h:fitAll (aM k) l=true<;>simp[h,aS,bB,nL]
def adJ{k:Option Nat}{b u off len:Nat}{K:Nat->List AV->Prop}{t:Tk K}:src σ k (.sl b u off len) K t=bk (aq σ b) u (λa cs _=>bB (off+len*aM k<=cs.length/\aM a = aM k) (nC ((cs.drop off).take (len*aM k)) (λcs=>K len cs) .k)) .k:=by
 rw[<-uO (K:=λB=>bB (off+len*aM k<=B.cells.length/\aM B.k=aM k) (nC ((B.cells.drop off).take (len*aM k)) (λcs=>K len cs) .k))];unfold src aP;simp only;cases upto σ b u with
 |none=>rfl
 |some B=>by_cases h:off+len*aM k<=B.cells.length/\aM B.k=aM k<;>simp[h,aS,bB,nC]
def ap (σ:List al) (s:AV) (k:Option Nat) (n:Nat) (cs:List AV) (K:AV->List al->Prop) (_:Tk K):Prop:=XA σ s k n cs K
def nz (n:Nat) (A B:Prop) (_:Tk A) (_:Tk B):Prop:=(n=0->A)/\(n ≠ 0->B)
def Qp{A B:Prop}{t:Tk A}{u:Tk B}:nz 0 A B t u=A:=by simp[nz]
def Qq{A B:Prop}{t:Tk A}{u:Tk B}:nz 1 A B t u=B:=by simp[nz]
def Qr{n:Nat}{A B:Prop}{t:Tk A}{u:Tk B}:nz (n+1) A B t u=B:=by simp[nz]
def adK{n:Nat}{A B:Prop}{t:Tk A}{u:Tk B}:nz n A B t u=(im (n=0) A .k/\im (n ≠ 0) B .k):=(rfl)
def Qs{b u off len:Nat}{k:Option Nat}{n:Nat}{cs:List AV}{K:AV->List al->Prop}{t:Tk K}:ap σ (.sl b u off len) k n cs K t=bk (aq σ b) u (λd a st=>bB (off=0/\u=len*aM k/\len+n<=dK/\tX d k=true) (nz n (K (.sl b u off len) σ) (cs.length ≠ 0/\nC (a ++ cs) (λc=>nB (ar σ b ⟨d, c,.live⟩) (λτ=>K (.sl b c.length 0 (len+n)) τ) .k) .k) .k .k)) .k:=by
 show XA σ (.sl b u off len) k n cs K=_;rw[acZ,uO];cases h:aq σ b with
 |none=>rfl
 |some B=>
  obtain⟨d, a, st⟩:=B;simp only[bk,nz,nC,nB,bB,sV,h,aU];apply propext;constructor
  .rintro⟨⟨rfl,e⟩,g,i,j⟩;exact⟨⟨rfl,e⟩,g,i,j⟩
  .rintro⟨⟨rfl,e⟩,g,i,j⟩;exact⟨⟨rfl,e⟩,g,i,j⟩
def adL{k:Option Nat}{n:Nat}{cs:List AV}{K:AV->List al->Prop}{t:Tk K}:ap σ .ag k n cs K t=nz n (K .ag σ) (n<=dK/\nB (gR σ [⟨k,cs,.live⟩]) (λτ=>K (.sl σ.length cs.length 0 n) τ) .k) .k .k:=rG
def adM{k:Option Nat}{n:Nat}{cs:List AV}{K:AV->List al->Prop}{t:Tk K}:ap σ .emp k n cs K t=nz n (K .emp σ) (n<=dK/\nB (gR σ [⟨k,cs,.live⟩]) (λτ=>K (.sl σ.length cs.length 0 n) τ) .k) .k .k:=rG
def adN{l:List AV}{k:Option Nat}{n:Nat}{cs:List AV}{K:AV->List al->Prop}{t:Tk K}:ap σ (.arr l) k n cs K t=nz n (K (if aC l then .aF true l else .arr l) σ) ((fitAll (aM k) l=true/\l.length+n<=dK)/\nC (gR (te l) cs) (λc=>nB (gR σ [⟨k,c,.live⟩]) (λτ=>K (.sl σ.length c.length 0 (l.length+n)) τ) .k) .k) .k .k:=by
 unfold nz nC nB;simp only[<-iC,<-tf];rfl
def Qt{s x:Rf}{k:Option Nat}:ck L vars (.app s x k) false env aL σ K=nx (rv vars env x) (λx=>src σ k x (λn cs=>nx (rv vars env s) (λs=>ap σ s k n cs (λv τ=>K (v::env) σ τ) .k) .k) .k) .k:=ac0
def adO{p x:Rf}{n:Nat}:ck L vars (.st p x n) false env aL σ K=nx (rv vars env p) (λp=>nx (rv vars env x) (λx=>st1 σ p x n λτ=>K (.aO::env) [] τ) .k) .k:=ac1
def aw (σ:List al) (s:AV) (k:Option Nat) (n:Nat) (cs:List AV) (K:AV->List al->Prop) (_:Tk K):Prop:=XB σ s k n cs K
def Qu{b u off len:Nat}{k:Option Nat}{n:Nat}{cs:List AV}{K:AV->List al->Prop}{t:Tk K}:aw σ (.sl b u off len) k n cs K t=bk (aq σ b) u (λe a st=>bB (off=0/\len+n<=dK/\tX e k=true/\(n ≠ 0->cs.length ≠ 0)) (nz n (K (.sl b u off len) σ) (gT (decide (u=len*aM k)) (nC (a ++ cs) (λc=>nB (ar σ b ⟨e, c,.live⟩) (λτ=>K (.sl b c.length 0 (len+n)) τ) .k) .k) ((len+n)*aM k<=u/\nC (putAt a (len*aM k) cs) (λc=>nB (ar σ b ⟨e, c,st⟩) (λτ=>K (.sl b u 0 (len+n)) τ) .k) .k) .k .k) .k .k)) .k:=by
 show XB σ (.sl b u off len) k n cs K=_;rw[ac2,uO];cases h:aq σ b with
 |none=>rfl
 |some B=>
  obtain⟨e, a, st⟩:=B;simp only[bk,nz,nC,nB,bB,aU,GC,im];apply propext;constructor
  .rintro⟨⟨rfl,i⟩,j,l,g,m⟩;exact⟨⟨rfl,i⟩,j,l,λd=>⟨g d,m d⟩⟩
  .rintro⟨⟨rfl,i⟩,j,l,g⟩;exact⟨⟨rfl,i⟩,j,l,λd=>(g d).1,λd=>(g d).2⟩
def adP{k:Option Nat}{n:Nat}{cs:List AV}{K:AV->List al->Prop}{t:Tk K}:aw σ .ag k n cs K t=nz n (K .ag σ) (n<=dK/\nB (gR σ [⟨k,cs,.live⟩]) (λτ=>K (.sl σ.length cs.length 0 n) τ) .k) .k .k:=rG
def adQ{k:Option Nat}{n:Nat}{cs:List AV}{K:AV->List al->Prop}{t:Tk K}:aw σ .emp k n cs K t=nz n (K .emp σ) (n<=dK/\nB (gR σ [⟨k,cs,.live⟩]) (λτ=>K (.sl σ.length cs.length 0 n) τ) .k) .k .k:=rG
def adR{l:List AV}{k:Option Nat}{n:Nat}{cs:List AV}{K:AV->List al->Prop}{t:Tk K}:aw σ (.arr l) k n cs K t=nz n (K (if aC l then .aF true l else .arr l) σ) ((fitAll (aM k) l=true/\l.length+n<=dK)/\nC (gR (te l) cs) (λc=>nB (gR σ [⟨k,c,.live⟩]) (λτ=>K (.sl σ.length c.length 0 (l.length+n)) τ) .k) .k) .k .k:=by
 unfold nz nC nB;simp only[<-iC,<-tf];rfl
def adS{s x:Rf}{k:Option Nat}:ck L vars (.cp s x k) false env aL σ K=nx (rv vars env x) (λx=>src σ k x (λn cs=>nx (rv vars env s) (λs=>aw σ s k n cs (λv τ=>K (v::env) [] τ) .k) .k) .k) .k:=ac3
def c81 (x:AV) (K:AV->Prop):Prop:=match x with
 |.int n=>bB (0<=n/\n<=255) (K (.ik 4 n))
 |_=>False
def oC{n:Int}{K:AV->Prop}:c81 (.int n) K=bB (0<=n/\n<=255) (K (.ik 4 n)):=(rfl)
def Qv{x:Rf}:ck L vars (.Mj x) false env aL σ K=nx (rv vars env x) (λx=>c81 x λv=>K (v::env) aL σ) .k:=by
 show aS (ev L σ σ.length [] (rv vars env) (.Mj x)) _=_;simp only[nx];generalize a:rv vars env x=p;simp only[ev,a];cases p<;>try rfl
 rename_i n;rw[oC];simp only[pA];rfl
def Qw{x:Rf}:ck L vars (.Bu x) false env aL σ K=nx (rv vars env x) (λx=>src σ none x (λ_ cs=>aS (bytesOf cs) λs=>K (.str s::env) aL σ) .k) .k:=by
 show aS (ev L σ σ.length [] (rv vars env) (.Bu x)) _=_;simp only[nx,src];generalize a:rv vars env x=p;simp only[ev,a];cases aP σ none p with
 |none=>rfl
 |some q=>
  obtain⟨n,cs⟩:=q;simp only[BX];cases bytesOf cs<;>rfl
def ik1 (x y:AV) (K:Bool->Prop):Prop:=match x,y with
 |.ik k a,.ik j b=>bB (k=j) (K (a==b))
 |_,_=>False
def Qx{k j:Nat}{a b:Int}{K:Bool->Prop}:ik1 (.ik k a) (.ik j b) K=bB (k=j) (K (a==b)):=(rfl)
def Qy{g:Bool}{x y:Rf}:ck L vars (.Ml g x y) false env aL σ K=nx (rv vars env x) (λx=>nx (rv vars env y) (λy=>ik1 x y λb=>K (.bool (b != g)::env) aL σ) .k) .k:=by
 show aS (ev L σ σ.length [] (rv vars env) (.Ml g x y)) _=_;simp only[nx];generalize a:rv vars env x=p;generalize d:rv vars env y=q;simp only[ev,a,d];cases p<;>try rfl
 cases q<;>try rfl
 rw[Qx];simp only[pA];rfl
def si2 (x:AV) (a:Int) (b:Option Int) (st:Nat) (K:AV->Prop):Prop:=match x with
 |.aF d l=>bB ((0<=a/\a<=b.getD l.length/\b.getD l.length<=l.length)/\gv st l=true) (nC ((l.drop a.toNat).take ((b.getD l.length).toNat-a.toNat)) (λe =>K (.aF (d&&decide (0<l.length)) e)) .k)
 |_=>False
def adT{d:Bool}{l:List AV}{a:Int}{b:Option Int}{st:Nat}{K:AV->Prop}:si2 (.aF d l) a b st K=bB ((0<=a/\a<=b.getD l.length/\b.getD l.length<=l.length)/\gv st l=true) (nC ((l.drop a.toNat).take ((b.getD l.length).toNat-a.toNat)) (λl' =>K (.aF (d&&decide (0<l.length)) l')) .k):=(rfl)
def adU{st:Nat}:ck L vars (.sB st) false env aL σ K=K (.emp::env) aL σ:=(rfl)
def bs1 (x:AV) (K:AV->Prop):Prop:=match x with
 |.str s=>nx (.aF false (s.map λb=>.ik 4 (b.toNat:Int))) K .k
 |_=>False
def adV{s:List UInt8}{K:AV->Prop}:bs1 (.str s) K=nx (.aF false (s.map λb=>.ik 4 (b.toNat:Int))) K .k:=(rfl)
def Qz{x:Rf}:ck L vars (.Mb x) false env aL σ K=nx (rv vars env x) (λx=>bs1 x λv=>K (v::env) aL σ) .k:=by
 show aS (ev L σ σ.length [] (rv vars env) (.Mb x)) _=_;simp only[nx];generalize a:rv vars env x=p;simp only[ev,a];cases p<;>rfl
def si1 (x i:AV) (K:AV->Prop):Prop:=match x,i with
 |.str s,.int n=>0<=n/\aS (s[n.toNat]?) λb=>K (.ik 4 (b.toNat:Int))
 |_,_=>False
def GH{s:List UInt8}{n:Int}{K:AV->Prop}:si1 (.str s) (.int n) K=(0<=n/\aS (s[n.toNat]?) λb=>K (.ik 4 (b.toNat:Int))):=(rfl)
def QA{x i:Rf}:ck L vars (.Mk x i) false env aL σ K=nx (rv vars env x) (λx=>nx (rv vars env i) (λi=>si1 x i λv=>K (v::env) aL σ) .k) .k:=by
 show aS (ev L σ σ.length [] (rv vars env) (.Mk x i)) _=_;simp only[nx];generalize a:rv vars env x=p;generalize b:rv vars env i=q;simp only[ev,a,b];cases p<;>try rfl
 cases q<;>try rfl
 rename_i s n;rw[GH]
 by_cases h:0<=n
 .simp only[ae h,h,true_and]
  cases s[n.toNat]?<;>rfl
 .simp only[ad h]
  exact propext ⟨λe=>e.elim,λe=>h e.1⟩
def cw1 (x:AV) (K:AV->Prop):Prop:=match x with
 |.int n=>K (.ik 4 (n%256))
 |_=>False
def adW{n:Int}{K:AV->Prop}:cw1 (.int n) K=K (.ik 4 (n%256)):=(rfl)
def QB{x:Rf}:ck L vars (.BD x) false env aL σ K=nx (rv vars env x) (λx=>cw1 x λv=>K (v::env) aL σ) .k:=by
 show aS (ev L σ σ.length [] (rv vars env) (.BD x)) _=_;simp only[nx];generalize a:rv vars env x=p;simp only[ev,a];cases p<;>rfl
def XE (x y:AV) (K:AV->Prop):Prop:=match x,y with
 |.int a,.int n=>bB (0<=n/\n<64) (K (.int (a.fdiv (2^n.toNat))))
 |.int a,.ik 7 n=>bB (0<=n/\n<64) (K (.int (a.fdiv (2^n.toNat))))
 |_,_=>False
def adX{a n:Int}{K:AV->Prop}:XE (.int a) (.int n) K=bB (0<=n/\n<64) (K (.int (a.fdiv (2^n.toNat)))):=(rfl)
def adY{a n:Int}{K:AV->Prop}:XE (.int a) (.ik 7 n) K=bB (0<=n/\n<64) (K (.int (a.fdiv (2^n.toNat)))):=(rfl)
def QC{x y:Rf}:ck L vars (.FJ x y) false env aL σ K=nx (rv vars env x) (λx=>nx (rv vars env y) (λy=>XE x y λv=>K (v::env) aL σ) .k) .k:=by
 show aS (ev L σ σ.length [] (rv vars env) (.FJ x y)) _=_;simp only[nx];generalize b:rv vars env x=p;generalize d:rv vars env y=q;simp only[ev,b,d,XE];split
 .simp only[pA];rfl
 .simp only[pA];rfl
 .rename_i e g
  split
  .rename_i a n;exact absurd rfl (e a n rfl)
  .rename_i a n;exact absurd rfl (g a n rfl)
  .rfl
def ss1 (n:Nat) (x y:AV) (K:Bool->Prop):Prop:=match x,y with
 |.agg xs,.agg a=>xs.length=n/\aS (iO xs a) K
 |_,_=>False
def QD{n:Nat}{xs ys:List AV}{K:Bool->Prop}:ss1 n (.agg xs) (.agg ys) K=(xs.length=n/\aS (iO xs ys) K):=(rfl)
def QE{g:Bool}{n:Nat}{x y:Rf}:ck L vars (.Mp g n x y) false env aL σ K=nx (rv vars env x) (λx=>nx (rv vars env y) (λy=>ss1 n x y λb=>K (.bool (b != g)::env) aL σ) .k) .k:=by
 show aS (ev L σ σ.length [] (rv vars env) (.Mp g n x y)) _=_;simp only[nx];generalize d:rv vars env x=p;generalize e:rv vars env y=q;simp only[ev,d,e];cases p<;>try rfl
 cases q<;>try rfl
 rename_i xs i;rw[QD]
 by_cases a:xs.length=n
 .simp only[ae a,a,true_and]
  cases iO xs i<;>rfl
 .simp only[ad a]
  exact propext ⟨λh=>h.elim,λh=>a h.1⟩
def uP (es:List (AV×AV)) (k x:AV) (o:Option AV):List (AV×AV):=match o with
 |none=>es ++ [(k,x)]
 |some _=>jf es k x
theorem adZ{es:List (AV×AV)}{k x:AV}:uP es k x none=es ++ [(k,x)]:=rfl
theorem ad0{es:List (AV×AV)}{k x y:AV}:uP es k x (some y)=jf es k x:=rfl
def ms1 (σ:List al) (m:AV) (a:Nat) (k x:AV) (K:List al->Prop):Prop:=match m with
 |.cP b=>mp (aq σ b) (λd cs es=>bB (ba a k=true/\bg x=true) (oK (cL es k) (λo=>nB (ar σ b ⟨d,cs,.map (uP es k x o)⟩) K .k) .k)) .k
 |_=>False
theorem ad1{σ:List al}{b a:Nat}{k x:AV}{K:List al->Prop}:ms1 σ (.cP b) a k x K=mp (aq σ b) (λd cs es=>bB (ba a k=true/\bg x=true) (oK (cL es k) (λo=>nB (ar σ b ⟨d,cs,.map (uP es k x o)⟩) K .k) .k)) .k:=rfl
def QF{m k x:Rf}{a:Nat}:ck L vars (.xV m a k x) false env aL σ K=nx (rv vars env m) (λm=>nx (rv vars env k) (λk=>nx (rv vars env x) (λx=>ms1 σ m a k x λτ=>K (.aO::env) [] τ) .k) .k) .k:=by
 show aS (gf L σ (rv vars env) (.xV m a k x)) _=_;simp only[nx];generalize g:rv vars env m=p;generalize i:rv vars env k=q;generalize j:rv vars env x=r;simp only[gf,g,i,j];cases p<;>try rfl
 rename_i b;simp only[ms1,mp,fc,o5];cases n:aq σ b with
 |none=>rfl
 |some B=>
  obtain⟨s,cs,st⟩:=B;cases st<;>try rfl
  rename_i es
  by_cases e:cs.length=0
  .by_cases d:ba a q=true/\bg r=true
   .simp only[e,d.1,d.2,bB,true_and,lH,dD,Bool.and_self]
    cases cL es q with
    |none=>exact propext ⟨λh=>h.elim,λh=>h.elim⟩
    |some o=>cases o<;>rfl
   .have l : ¬(ba a q&&bg r)=true:=λh=>d cq
    simp only[e,lH,dD,ad l, bB];exact propext ⟨λh=>h.elim,λh=>d h.2.1⟩
  .simp only[e,cT,eI,false_and]
   rfl
def QG{f:Nat}{args:List Rf}:ck L vars (.fE f args) false env aL σ K=nL (ig (rv vars env) args) (λas=>lX L f as σ (λv τ=>nx v (λv=>nB τ (λτ=>K (v::env) [] τ) .k) .k) .k) .k:=by rw[<-iF];exact ac4
def ad2{x:Rf}{args:List Rf}:ck L vars (.lE x args) false env aL σ K=nx (rv vars env x) (λx=>Py x λf a=>nL (gR (ig (rv vars env) args) a) (λas=>lX L f as σ (λv τ=>nx v (λv=>nB τ (λτ=>K (v::env) [] τ) .k) .k) .k) .k) .k:=by unfold nx nL lX;simp only[<-iF,<-iC];exact ac5
end
section
variable{L:CE}{vars env:List AV}{aL σ:List al}{K:List AV->List al->Prop}{ls:List Ln}{op:dh}{prev:Bool}
def ad3:LK L vars [] env aL σ K=K env σ:=by unfold LK;rfl
def ad4:LK L vars (⟨op,none,prev⟩::ls) env aL σ K=ck L vars op prev env aL σ λenv aL σ=>LK L vars ls env aL σ K:=by conv=>lhs;unfold LK
def zf (x:AV) (w:Bool) (go skip go' a : Prop) (_:Tk go) (_:Tk skip) (_:Tk go') (_:Tk a):Prop:=match x with
 |.bool b=>match w with
  |true=>gK b go' a
  |false=>gK b a go'
 |.bM []=>skip
 |_=>False
def ad5{w:Bool}{A B C D:Prop}{s:Tk A}{t:Tk B}{u:Tk C}{v:Tk D}:zf (.bM []) w A B C D s t u v=B:=(rfl)
def ad6{b:Bool}{A B C D:Prop}{s:Tk A}{t:Tk B}{u:Tk C}{v:Tk D}:zf (.bool b) true A B C D s t u v=gT b C D .k .k:=(rfl)
def ad7{b:Bool}{A B C D:Prop}{s:Tk A}{t:Tk B}{u:Tk C}{v:Tk D}:zf (.bool b) false A B C D s t u v=gT b D C .k .k:=(rfl)
def ad8{A B C D:Prop}{s:Tk A}{t:Tk B}{u:Tk C}{v:Tk D}:zf (.bool true) true A B C D s t u v=C:=GA
def ad9{A B C D:Prop}{s:Tk A}{t:Tk B}{u:Tk C}{v:Tk D}:zf (.bool true) false A B C D s t u v=D:=GA
def aea{A B C D:Prop}{s:Tk A}{t:Tk B}{u:Tk C}{v:Tk D}:zf (.bool false) true A B C D s t u v=D:=GB
def aeb{A B C D:Prop}{s:Tk A}{t:Tk B}{u:Tk C}{v:Tk D}:zf (.bool false) false A B C D s t u v=C:=GB
theorem aec{d:Nat}{w:Bool}:LK L vars (⟨op,some (.t d,w),prev⟩::ls) env aL σ K=nx (nth env d) (λx=>zf x w
   (ck L vars op prev env aL σ λenv aL σ=>LK L vars ls env aL σ K)
   (LK L vars ls (.bM []::env) aL σ K)
   (nL (eu env d (.bool w)) (λenv=>ck L vars op prev env aL σ λenv aL σ=>LK L vars ls env aL σ K) .k)
   (nL (eu env d (.bool (!w))) (λenv=>LK L vars ls (.bM []::env) aL σ K) .k) .k .k .k .k) .k:=by
 conv=>lhs;unfold LK
 simp only[zf,nx,nL];cases nth env d with
 |bool b=>cases w<;>rfl
 |bM l=>cases l<;>rfl
 |_=>rfl
def aed{d:Nat}{w:Bool}:LK L vars (⟨op,some (.v d,w),prev⟩::ls) env aL σ K=nx (nth vars d) (λx=>zf x w
   (ck L vars op prev env aL σ λenv aL σ=>LK L vars ls env aL σ K)
   (LK L vars ls (.bM []::env) aL σ K)
   (ck L vars op prev env aL σ λenv aL σ=>LK L vars ls env aL σ K)
   (LK L vars ls (.bM []::env) aL σ K) .k .k .k .k) .k:=by
 conv=>lhs;unfold LK
 simp only[zf,nx]
 all_goals (cases nth vars d with
  |bool b=>cases w<;>rfl
  |bM l=>cases l<;>rfl
  |_=>rfl)
end
def nF (a:Option (Nat×AV)) (K:Option (Nat×AV)->Prop) (_:Tk K):Prop:=K a
def aee{K:Option (Nat×AV)->Prop}{t:Tk K}:nF none K t=K none:=(rfl)
def aef{n:Nat}{x:AV}{K:Option (Nat×AV)->Prop}{t:Tk K}:nF (some (n,x)) K t=nx x (λx=>K (some (n,x))) .k:=(rfl)
section
variable{L:CE}{vars:List AV}{fl:Option (Nat×AV)}{σ:List al}{Q:Ex->St->Prop}
def aeg{ls:List Ln}{os:List (Nat×Nat)}{a:List Nat}{f:Option (Nat×Nat)}:WK L (.cF ⟨ls,os,a,f⟩) vars fl σ Q=LK L vars ls [] σ σ λenv σ=>nL (dM a (outs env os vars)) (λvs=>nF (ze env f) (λf=>Q .eQ ⟨vs,f,σ⟩) .k) .k:=abc
def aeh{t:Nat}{a b:IC}{c:Bool}:WK L (.cond t a b) vars (some (t,.bool c)) σ Q=gT c (WK L a vars none σ Q) (WK L b vars none σ Q) .k .k:=abe
def aei{k:Nat}{a b:IC}:WK L (.jN k a b) vars fl σ Q=nx (nth vars k) (λx=>b1 x λc=>gT c (WK L a vars fl σ Q) (WK L b vars fl σ Q) .k .k) .k:=by
 rw[abf];unfold nx b1;cases nth vars k<;>rfl
end
attribute [simp ↓] Qx adT abO     adM adQ adH adV GH adW adX adY QD ad1 adZ ad0       adr adw ady adA abK abL abM ach EE   P9 adp P8 abN abP abQ abR abS abT abU abV abW abX abY abZ ab0 ab1 ab2 ab3 ab4 ab5 ab6 ab7 ab8 ab9 adk adl adn ado aca acb acd ace acf acg aci
attribute [simp ↓] OU EB OV OW OX OY OZ O1 O2 EC O3 O4 O5 O6 O7 O8 O9 Pa Pb Pc Pd Pe Pf Pg Ph Pj Pm Pn Po Pp GC Pq Pr abI abJ
attribute [simp] Pe Pf Pg Ph Pj Pm Pn Po Pp GC abF abG Pq Pr
attribute [simp] OU EB OV OW OX OY OZ O1 O2 EC O3 O4 O5 O6 O7 O8 O9 Pa Pb Pc Pd
attribute [simp low] abA abB abC abD abE abH adb adK
attribute [simp ↓] PD PG PH PI PX adF adG adI adJ Qp Qq Qr Qs adL adN Qu adP adR
attribute [simp] ads adt adu adv PD PG PH PI Qp Qq Qr ac7 ac8
attribute [simp ↓] Qy  adU  Qz QA QB QC QE QF  Qv Qw    Qf Qc adx Qe adz Qg ac6 Pz PA Qa  PB ade PJ PK PL PM PN adf PO PQ acy PS PT  PU PV PW adg adh PY adi PZ P0 adj P1 adm P4 P5 Qj adB  Qk adC Ql Qm Qn Qo adD adE Qt adO adS QG ad2  ad3 ad4 aec aed ad5 ad8 ad9 aea aeb
attribute [simp ↓ low] ad6 ad7
attribute [simp ↓] aee aef aeg aeh aei
def aej{a b:Type}{f:a->b}:ig f []=[]:=(rfl)
def aek{a b:Type}{f:a->b}{x:a}{l:List a}:ig f (x::l)=f x::ig f l:=(rfl)
def ael{a b:Type}{f:a->b}{l:List a}:ig f l=l.map f:=(iF f l).symm
def aem{a:Type}{l:List a}:gR [] l=l:=(rfl)
def aen{a:Type}{x:a}{l m:List a}:gR (x::l) m=x::gR l m:=(rfl)
def aeo{a:Type}{l m:List a}:gR l m=l++m:=(iC l m).symm
attribute [simp] aej aek aem aen BX
attribute [simp low] ael aeo
def ix{a:Type} [Inhabited a] (l:List a) (n:Int):a:=l.getD n.toNat default
abbrev iL (l:List Int):AV:=.aF false (l.map .int)
abbrev bL (l:List Bool):AV:=.aF false (l.map .bool)
abbrev b8 (l:List (List Int)):AV:=.aF false (l.map iL)
abbrev fv (l:List (List (List Int))):AV:=.aF false (l.map b8)
def zg:∀(l:List AV) (i:Nat),pa l i=l[i]?
 | [],i=>by simp[pa]
 |x::r,0=>rfl
 |x::r,i+1=>by simp[pa,zg r i]
section
variable{α:Type} [Inhabited α]
variable{n:Int}
theorem aJ{l:List α}(a:0<=n) (b:n<l.length):ix l n∈l:=by
 unfold ix;rw[gD,db aa]
 simp
theorem mw{l:List α}(a:0<=n) (b:n<l.length):l[n.toNat]? = some (ix l n):=by
 unfold ix;rw[gD,db aa]
 simp
theorem aB{l:List α}{n:Nat}(a:n<l.length):ix l (n:Int)=l[n]:=by
 unfold ix;rw[gD,lA,db aa]
 simp
theorem aep{f:α->AV}{xs:List α}{K:AV->Prop}:BW (xs.map f) n K=((0<=n/\n<xs.length)/\K (f (ix xs n))):=by
 apply propext;unfold BW;constructor
 .rintro⟨b,y,a,d⟩
  rw[zg,iv]at a
  by_cases e:n<xs.length
  .rw[mw b e]at a
   simp at a;subst a;exact⟨⟨b,e⟩,d⟩
  .rw[jg aa]at a;simp at a
 .rintro⟨⟨b,a⟩,d⟩
  exact⟨b,_,by rw[zg,iv,mw b a];rfl,d⟩
end
def aeq{fn:Fn}{K:AV->List al->Prop}{s:St}:ie fn K .ret s=oK (results fn s) (λv=>K v s.σ) .k:=(rfl)
def aer{fn:Fn}{K:AV->List al->Prop}{s:St}:ie fn K .eQ s=oK (results fn s) (λv=>K v s.σ) .k:=(rfl)
def aes{a:Type} [Inhabited a]{f:a->AV}{xs:List a}{n:Int}{K:AV->Prop}{t:Tk K}:xK (xs.map f) n K t=((0<=n/\n<xs.length)/\K (f (ix xs n))):=aep
variable{i:Int}
def BY{a:Type} [Inhabited a]{l:List a}(b:0<=i) (d:i<l.length):l.drop i.toNat=ix l i::l.drop (i+1).toNat:=by
 have e:(i+1).toNat=i.toNat+1:=aa
 rw[e,qj aa,ix,gD,db aa]
 simp
def GI{a:Type}{l:List a}(b:l.length<=i):l.drop i.toNat=[]:=jY aa
def du:List (Nat×AV)->List AV->List AV
 | [],vs=>vs
 |(k,x)::r,vs=>du r (eu vs k x)
def More{b:Type}(f:b->List (Nat×AV)) (g:b->List al) (I:b->Prop) (d:b->Nat) (m:Nat) (vs:List AV) (Q:Ex->St->Prop):Ex->St->Prop:=λe s=>match e with
 |.eQ=>∃a,s=⟨du (f a) vs,none,g a⟩/\I a/\d a<m
 |e=>Q e s
section
variable{L:CE}{α:Type}{f:α->List (Nat×AV)}{g:α->List al}{I:α->Prop}{μ:α->Nat}{m:Nat}{vs:List AV}{Q:Ex->St->Prop}
def aj{s:St}:More f g I μ m vs Q .eQ s=∃a,s=⟨du (f a) vs,none,g a⟩/\I a/\μ a<m:=(rfl)
def aet{s:St}:More f g I μ m vs Q .ret s=Q .ret s:=(rfl)
def aeu{s:St}{j:Nat}:More f g I μ m vs Q (.exit j) s=Q (.exit j) s:=(rfl)
def aK{c:IC}{p:Option (Nat×AV)}{σ:List al}(f:α->List (Nat×AV)) (g:α->List al) (I:α->Prop) (μ:α->Nat) (d:α) (u:(⟨vs,p,σ⟩:St)=⟨du (f d) vs,none,g d⟩) (i:I d)
  (w:∀a,I a->WK L c (du (f a) vs) none (g a) (More f g I μ (μ a) vs Q)):W L (.loop c) ⟨vs,p,σ⟩ Q:=by
 have go:∀(k:Nat) (a:α),μ a<k->I a->W L (.loop c) ⟨du (f a) vs,none,g a⟩ Q:=by
  intro k
  induction k with
  |zero=>intro a h;omega
  |succ k y=>
   intro a D i;obtain⟨n,e,q, l,m⟩:=pz (w a i);cases e with
   |eQ=>
    obtain⟨z, rfl,A,E⟩:=m;obtain⟨b, B, o, r,C⟩:=y z aa A
    refine⟨max n b + 1,B, o, ?_,C⟩;simp only[exec]at r ⊢;simp only[iter];rw[rU (wU L) (show n<=max n b + 1 by omega) _ _ _ l]
    exact y6 (λs x h=>rU (wU L) (show b <=max n b + 1 by omega) _ _ _ h) (show b <=max n b by omega) r
   |exit j=>exact⟨n+1,.exit j,q, by simp only[exec,iter];rw[rU (wU L) (Nat.le_succ n) _ _ _ l],m⟩
   |ret=>exact⟨n+1,.ret,q, by simp only[exec,iter];rw[rU (wU L) (Nat.le_succ n) _ _ _ l],m⟩
 rw[u];exact go _ d (Nat.lt_succ_self _) i
end
section
variable{σ:List al}{fr:Bool}{k:Nat}
def aev{n:Int}:view σ fr (k+1) (.int n)=some (.int n):=(rfl)
def aew{n:Bool}:view σ fr (k+1) (.bool n)=some (.bool n):=(rfl)
def aex{n:List UInt8}:view σ fr (k+1) (.str n)=some (.str n):=(rfl)
def aey:view σ fr (k+1) .ag=some (.aF false []):=(rfl)
def aez:view σ fr (k+1) .hY=some .hY:=(rfl)
def aeA{b:Bool}{l:List AV}:view σ false (k+1) (.aF b l)=some (.aF false l):=(rfl)
def aeB{l:List AV}:view σ fr (k+1) (.agg l)=match bJ (view σ fr k) l with
 |none=>none
 |some l=>some (.agg l):=(rfl)
def aeC{n:Int}:view σ fr vd (.int n)=some (.int n):=(rfl)
def aeD{n:Bool}:view σ fr vd (.bool n)=some (.bool n):=(rfl)
def aeE{n:List UInt8}:view σ fr vd (.str n)=some (.str n):=(rfl)
def aeF:view σ fr vd .ag=some (.aF false []):=(rfl)
def aeG:view σ fr vd .hY=some .hY:=(rfl)
def aeH{b:Bool}{l:List AV}:view σ false vd (.aF b l)=some (.aF false l):=(rfl)
def aeI{l:List AV}:view σ fr vd (.agg l)=match bJ (view σ fr 11) l with
 |none=>none
 |some l=>some (.agg l):=(rfl)
end
section
variable{σ:List al}{fr:Bool}
def aeJ{n:Int}:bP σ fr (.int n)=some (.int n):=(rfl)
def aeK{n:Bool}:bP σ fr (.bool n)=some (.bool n):=(rfl)
def aeL{n:List UInt8}:bP σ fr (.str n)=some (.str n):=(rfl)
def aeM:bP σ fr .ag=some (.aF false []):=(rfl)
def aeN:bP σ fr .hY=some .hY:=(rfl)
def aeO{b:Bool}{l:List AV}:bP σ false (.aF b l)=some (.aF false l):=(rfl)
def aeP{b u off len:Nat}:bP σ fr (.sl b u off len)=view σ fr vd (.sl b u off len):=(rfl)
def aeQ{b u off:Nat}:bP σ fr (.ptr b u off)=view σ fr vd (.ptr b u off):=(rfl)
def BZ{l:List AV}:bP σ fr (.agg l)=view σ fr vd (.agg l):=(rfl)
def aeR{t:Nat}{l:AV}:bP σ fr (.iface t l)=view σ fr vd (.iface t l):=(rfl)
def aeS{l:List AV}:bP σ fr (.bM l)=match bJ (view σ fr vd) l with
  |none=>none
  |some l=>some (.bM l):=(rfl)
end
attribute [simp] aeJ aeK aeL aeM aeN aeO aeP aeQ BZ aeR aeS
attribute [simp] aev aew aex aey aez aeA aeB aeC aeD aeE aeF aeG aeH aeI du
attribute [simp ↓] aj aet aeu abm abn abo abb abd abg abh abi abj abk abl abp abq abr abt abu abv abw abx aby aeq aer aes
def aeT (n:Int):AV.cells (.int n)=[(.int n)]:=(rfl)
def aeU (n:Int):bg (.int n)=true:=(rfl)
def aeV (n:Int):wk (.int n)=(.int n):=(rfl)
def aeW (n:Int):gh (.int n)=(.int n):=(rfl)
def aeX (k:Nat) (n:Int):AV.cells (.ik k n)=[(.ik k n)]:=(rfl)
def aeY (k:Nat) (n:Int):bg (.ik k n)=true:=(rfl)
def QH (k:Nat) (n:Int):wk (.ik k n)=(.ik k n):=(rfl)
def aeZ (k:Nat) (n:Int):gh (.ik k n)=(.ik k n):=(rfl)
def ae0 (b:Bool):AV.cells (.bool b)=[(.bool b)]:=(rfl)
def ae1 (b:Bool):bg (.bool b)=true:=(rfl)
def ae2 (b:Bool):wk (.bool b)=(.bool b):=(rfl)
def ae3 (b:Bool):gh (.bool b)=(.bool b):=(rfl)
def ae4 (l:List UInt8):AV.cells (.str l)=[(.str l)]:=(rfl)
def ae5 (l:List UInt8):bg (.str l)=true:=(rfl)
def ae6 (l:List UInt8):wk (.str l)=(.str l):=(rfl)
def ae7 (l:List UInt8):gh (.str l)=(.str l):=(rfl)
def ae8  : AV.cells .ag=[.ag]:=(rfl)
def ae9  : bg .ag=true:=(rfl)
def afa  : wk .ag=(.aF false []):=(rfl)
def afb  : gh .ag=(.aF false []):=(rfl)
def afc (b:Bool) (l:List AV):AV.cells (.aF b l)=[(.aF b l)]:=(rfl)
def afd (b:Bool) (l:List AV):bg (.aF b l)=true:=(rfl)
def afe (b:Bool) (l:List AV):wk (.aF b l)=(.aF false l):=(rfl)
def aff (b:Bool) (l:List AV):gh (.aF b l)=(.aF false l):=(rfl)
def afg (l:List AV):AV.cells (.arr l)=[(.arr l)]:=(rfl)
def afh (l:List AV):bg (.arr l)=true:=(rfl)
def afi (l:List AV):wk (.arr l)=(.arr l):=(rfl)
def afj (l:List AV):gh (.arr l)=(.arr l):=(rfl)
def afk (b u o n:Nat):AV.cells (.sl b u o n)=[(.sl b u o n)]:=(rfl)
def afl (b u o n:Nat):bg (.sl b u o n)=true:=(rfl)
def QI (b u o n:Nat):wk (.sl b u o n)=(.sl b u o n):=(rfl)
def afm (b u o n:Nat):gh (.sl b u o n)=(.sl b u o n):=(rfl)
def afn  : AV.cells .iy=[.iy]:=(rfl)
def afo  : bg .iy=true:=(rfl)
def afp  : wk .iy = .iy:=(rfl)
def afq  : gh .iy = .iy:=(rfl)
def afr (v:AV):AV.cells (.a8 v)=[(.a8 v)]:=(rfl)
def afs (v:AV):bg (.a8 v)=true:=(rfl)
def afu (v:AV):wk (.a8 v)=(.a8 v):=(rfl)
def afv (v:AV):gh (.a8 v)=(.a8 v):=(rfl)
def afw (b:Nat):AV.cells (.cP b)=[(.cP b)]:=(rfl)
def afx (b:Nat):bg (.cP b)=true:=(rfl)
def afy (b:Nat):wk (.cP b)=(.cP b):=(rfl)
def afz (b:Nat):gh (.cP b)=(.cP b):=(rfl)
def afA (b u o:Nat):AV.cells (.ptr b u o)=[(.ptr b u o)]:=(rfl)
def afB (b u o:Nat):bg (.ptr b u o)=true:=(rfl)
def afC (b u o:Nat):wk (.ptr b u o)=(.ptr b u o):=(rfl)
def afD (b u o:Nat):gh (.ptr b u o)=(.ptr b u o):=(rfl)
def afE  : AV.cells .kS=[.kS]:=(rfl)
def afF  : bg .kS=true:=(rfl)
def afG  : wk .kS = .kS:=(rfl)
def afH  : gh .kS = .kS:=(rfl)
def afI (f:Nat) (l:List AV):AV.cells (.func f l)=[(.func f l)]:=(rfl)
def afJ (f:Nat) (l:List AV):bg (.func f l)=true:=(rfl)
def afK (f:Nat) (l:List AV):wk (.func f l)=(.func f l):=(rfl)
def afL (f:Nat) (l:List AV):gh (.func f l)=(.func f l):=(rfl)
def afM  : AV.cells .hY=[.hY]:=(rfl)
def afN  : bg .hY=true:=(rfl)
def afO  : wk .hY = .hY:=(rfl)
def afP  : gh .hY = .hY:=(rfl)
def afQ (t:Nat) (v:AV):AV.cells (.iface t v)=[(.iface t v)]:=(rfl)
def afR (t:Nat) (v:AV):bg (.iface t v)=true:=(rfl)
def afS (t:Nat) (v:AV):wk (.iface t v)=(.iface t v):=(rfl)
def afT (t:Nat) (v:AV):gh (.iface t v)=(.iface t v):=(rfl)
def afU (l:List AV):AV.cells (.agg l)=l:=(rfl)
def afV (l:List AV):wk (.agg l) = .agg (l.map gh):=(rfl)
def afW (l:List AV):gh (.agg l) = .agg l:=(rfl)
def dO:AV->Bool
 |.aO | .bM _ | .agg _=>false
 |_=>true
def afX (l:List AV):bg (.agg l)=l.all dO:=by
 rfl
def afY (n:Int):dO (.int n)=true:=(rfl)
def afZ (k:Nat) (n:Int):dO (.ik k n)=true:=(rfl)
def af0 (b:Bool):dO (.bool b)=true:=(rfl)
def af1 (l:List UInt8):dO (.str l)=true:=(rfl)
def af2  : dO .ag=true:=(rfl)
def af3 (b:Bool) (l:List AV):dO (.aF b l)=true:=(rfl)
def af4 (l:List AV):dO (.arr l)=true:=(rfl)
def af5 (b u o n:Nat):dO (.sl b u o n)=true:=(rfl)
def af6  : dO .iy=true:=(rfl)
def af7 (v:AV):dO (.a8 v)=true:=(rfl)
def af8 (b u o:Nat):dO (.ptr b u o)=true:=(rfl)
def af9  : dO .kS=true:=(rfl)
def aga (f:Nat) (l:List AV):dO (.func f l)=true:=(rfl)
def agb  : dO .hY=true:=(rfl)
def agc (t:Nat) (v:AV):dO (.iface t v)=true:=(rfl)
attribute [simp] afw afx afy afz aeT aeU aeV aeW aeX aeY QH aeZ ae0 ae1 ae2 ae3 ae4 ae5 ae6 ae7 ae8 ae9 afa afb afc afd afe aff afg afh afi afj afk afl QI afm afn afo afp afq afr afs afu afv afA afB afC afD afE afF afG afH afI afJ afK afL afM afN afO afP afQ afR afS afT afU afV afW afX afY afZ af0 af1 af2 af3 af4 af5 af6 af7 af8 af9 aga agb agc
attribute [simp] results bJ lg rv nth eu dM outs ze part pa aC aR
def agd{st:Nat}:fitAll st []=true:=(rfl)
def QJ{st:Nat}{x:AV}{l:List AV}:fitAll st (x::l)=(x.cells.length==st&&bg x&&fitAll st l):=(rfl)
def B3{a:Type}{f:a->AV}{st:Nat}(h:∀x,(f x).cells.length=st/\bg (f x)=true):∀{l:List a},fitAll st (l.map f)=true
 | []=>rfl
 |x::l=>by simp only[cS,QJ,h x,B3 h (l:=l),lH,Bool.and_self]
def age{l:List Int}:fitAll 1 (l.map .int)=true:=B3 (f:=AV.int) λ_=>⟨rfl,rfl⟩
def agf{l:List Bool}:fitAll 1 (l.map .bool)=true:=B3 (f:=AV.bool) λ_=>⟨rfl,rfl⟩
def agh{a:Type}{b:Bool}{f:a->List AV}{l:List a}:fitAll 1 (l.map λx=>.aF b (f x))=true:=B3 (f:=λx=>AV.aF b (f x)) λ_=>⟨rfl,rfl⟩
def zh{a:Type}{f:a->AV}(h:∀x,(f x).cells=[f x]):∀{l:List a},(l.map f).flatMap AV.cells=l.map f
 | []=>rfl
 |x::l=>by simp only[cS,iI,h x,zh h (l:=l)];rfl
theorem agi{l:List Int}:(l.map AV.int).flatMap AV.cells=l.map .int:=zh (f:=AV.int) λ_=>rfl
theorem agj{l:List Bool}:(l.map AV.bool).flatMap AV.cells=l.map .bool:=zh (f:=AV.bool) λ_=>rfl
theorem agk{a:Type}{b:Bool}{f:a->List AV}{l:List a}:(l.map λx=>AV.aF b (f x)).flatMap AV.cells=l.map λx=>.aF b (f x):=zh (f:=λx=>AV.aF b (f x)) λ_=>rfl
attribute [simp] agd QJ age agf agh agi agj agk
def agl:fb.isLive .live=true:=(rfl)
def agm:fb.isLive .gN=false:=(rfl)
def agn:aM none=1:=(rfl)
def ago{n:Nat}:aM (some n)=n:=(rfl)
def agp:tX none none=true:=(rfl)
def agq{a b:Nat}:tX (some a) (some b)=(a==b):=(rfl)
attribute [simp] agl agm agn ago agp agq
@[reducible] def qZ:List AV->List AV->List AV
 |cs,[]=>cs
 | [],_=>[]
 |_::cs,y::new=>y::qZ cs new
@[reducible] def ny:List AV->Nat->List AV->List AV
 |cs,0,new=>qZ cs new
 | [],_,_=>[]
 |x::cs,n+1,new=>x::ny cs n new
def QK:∀{cs new:List AV},new.length<=cs.length->qZ cs new=new++cs.drop new.length
 |cs,[],_=>by cases cs<;>simp[qZ]
 | [],y::new,h=>by simp at h
 |c::cs,y::new,h=>by simp[qZ,QK (cs:=cs) (new:=new) cq]
def vO:∀{cs:List AV}{o:Nat}{new:List AV},o+new.length<=cs.length->putAt cs o new=ny cs o new
 |cs,0,new,h=>by
  have e:ny cs 0 new=qZ cs new:=by cases cs<;>rfl
  rw[e,QK cq];simp[putAt]
 | [],o+1,new,h=>by simp at h
 |c::cs,o+1,new,h=>by
  have e:=vO (cs:=cs) (o:=o) (new:=new) (by simp at h;omega)
  simp only[ny];rw[<-e];simp only[putAt,List.take_succ_cons,jD]
  congr 2
  rw[show o+1+new.length=(o+new.length)+1 by omega,List.drop_succ_cons]
section
variable{K:List AV->Prop}{t:Tk K}
def QL{cs:List AV}{o:Nat}{new:List AV}:pU cs o new K t=(o+new.length<=cs.length/\nL (ny cs o new) K .k):=by
 unfold pU zb nL
 by_cases h:o+new.length<=cs.length
 .simp only[h,true_and];rw[vO h]
 .simp[h]
variable{o:Nat}
def QM{a:Type}{f:a->AV}{xs:List a}{y:a}(h:o<xs.length):putAt (xs.map f) o [f y]=(xs.set o y).map f:=by
 unfold putAt;rw[List.set_eq_take_append_cons_drop,ae h];simp[List.map_take,List.map_drop]
def uQ{a:Type}{f:a->AV}{xs:List a}{y:a}:pU (xs.map f) o [f y] K t=(o<xs.length/\K ((xs.set o y).map f)):=by
 unfold pU zb
 by_cases h:o<xs.length
 .simp only[dA,List.length_singleton,QM h]
  simp[h];omega
 .simp[h]
  intro b; omega
def agr{xs:List Int}{o:Nat}{y:Int}:pU (xs.map .int) o [AV.int y] K t=(o<xs.length/\K ((xs.set o y).map .int)):=uQ
def ags{xs:List Bool}{o:Nat}{y:Bool}:pU (xs.map .bool) o [AV.bool y] K t=(o<xs.length/\K ((xs.set o y).map .bool)):=uQ
def QN{xs:List (List Int)}{o:Nat}{y:List Int}:pU (xs.map iL) o [AV.aF false (y.map .int)] K t=(o<xs.length/\K ((xs.set o y).map iL)):=uQ
def QO{xs:List (List Bool)}{o:Nat}{y:List Bool}:pU (xs.map bL) o [AV.aF false (y.map .bool)] K t=(o<xs.length/\K ((xs.set o y).map bL)):=uQ
def agt{xs:List Int}{n:Int}{y:Int}:pU (xs.map .int) (0+n.toNat*1) [AV.int y] K t=(n.toNat<xs.length/\K ((xs.set n.toNat y).map .int)):=by
 rw[show 0+n.toNat*1=n.toNat by omega];exact uQ
def agu{xs:List Bool}{n:Int}{y:Bool}:pU (xs.map .bool) (0+n.toNat*1) [AV.bool y] K t=(n.toNat<xs.length/\K ((xs.set n.toNat y).map .bool)):=by
 rw[show 0+n.toNat*1=n.toNat by omega];exact uQ
def agv{xs:List Int}:nC (xs.map .int) K t=K (xs.map .int):=(rfl)
def agw{xs:List Bool}:nC (xs.map .bool) K t=K (xs.map .bool):=(rfl)
def QP{xs:List (List Int)}:nC (xs.map iL) K t=K (xs.map iL):=(rfl)
def B4{a:Type}{f:a->AV}{xs:List a}{y:a}:nC (xs.map f ++ [f y]) K t=K ((xs ++ [y]).map f):=by simp[nC]
def agx{xs:List Int}{y:Int}:nC (xs.map .int ++ [.int y]) K t=K ((xs ++ [y]).map .int):=B4
def agy{xs:List Bool}{y:Bool}:nC (xs.map .bool ++ [.bool y]) K t=K ((xs ++ [y]).map .bool):=B4
def agz{xs:List (List Int)}{y:List Int}:nC (xs.map iL ++ [.aF false (y.map .int)]) K t=K ((xs ++ [y]).map iL):=B4
def agA{xs:List (List Bool)}{y:List Bool}:nC (xs.map bL ++ [.aF false (y.map .bool)]) K t=K ((xs ++ [y]).map bL):=B4
def agB{a:Type}{f:a->AV}{xs ys:List a}:nC (xs.map f++ys.map f) K t=K ((xs++ys).map f):=by simp[nC]
def agC{y:AV}:nC ([] ++ [y]) K t=K [y]:=(rfl)
def agD{ys:List AV}:nC ([]++ys) K t=K ys:=(rfl)
def agE:nC [] K t=K []:=(rfl)
def agF{x:AV}:nC [x] K t=K [x]:=(rfl)
def agG{xs:List Int}{o:Nat}{y:Int}(h:o<xs.length):nC (putAt (xs.map .int) o [.int y]) K t=K ((xs.set o y).map .int):=by
 unfold nC;rw[QM h]
def GJ{n:Nat}{x:AV}:nC (eK n [x]) K t=K (List.replicate n x):=by
 unfold nC eK;congr 1;simp
def agH{n:Nat}{b:Bool}:nC (eK n [.bool b]) K t=K ((List.replicate n b).map .bool):=by rw[GJ];simp
def agI{n:Nat}{b:Int}:nC (eK n [.int b]) K t=K ((List.replicate n b).map .int):=by rw[GJ];simp
def GK{a:Type}{f:a->AV}(h:∀x,(f x).cells=[f x]){xs:List a}:nC ((xs.map f).flatMap AV.cells) K t=K (xs.map f):=by rw[zh h];rfl
theorem agJ{xs:List Int}:nC ((xs.map AV.int).flatMap AV.cells) K t=K (xs.map .int):=GK λ_=>rfl
theorem agK{xs:List Bool}:nC ((xs.map AV.bool).flatMap AV.cells) K t=K (xs.map .bool):=GK λ_=>rfl
theorem agL{xs:List (List Int)}:nC ((xs.map iL).flatMap AV.cells) K t=K (xs.map iL):=GK λ_=>rfl
end
section
variable{K:AV->Prop}{t:Tk K}
def EH{a:Type} [Inhabited a]{f:a->AV}{xs:List a}{n:Int}:pT (xs.map f) (0+n.toNat*1) none K t=(n.toNat<xs.length/\K (f (ix xs n))):=by
 unfold pT part;rw[show 0+n.toNat*1=n.toNat by omega]
 simp only[zg,iv,ix,gD]
 by_cases h:n.toNat<xs.length
 .rw[db h];simp[aS,h]
 .rw[jg aa];simp[aS,h]
def agM{a:Type} [Inhabited a]{f:a->AV}{xs:List a}{n:Nat}:pT (xs.map f) n none K t=(n<xs.length/\K (f (ix xs n))):=by
 have:=EH (K:=K) (t:=t) (f:=f) (xs:=xs) (n:=n);simpa using this
end
section
variable{K:AV->Prop}{t:Tk K}
end
def QQ{L:CE}{f:Nat}{l:List AV}{σ:List al}{K:AV->List al->Prop}{t:Tk K}:lX L f l σ K t=oK (L f l σ) (λp=>K p.1 p.2) .k:=(rfl)
attribute [simp ↓ 20000] agr ags QN QO agt agu EH agv agw QP agx agy agz agA agB agC agD agE agF agG agH agI agJ agK agL
attribute [simp ↓] QL GJ QQ
attribute [simp ↓ 10500] agM
def agN:dK=1073741824:=(rfl)
attribute [simp] agN
def qv{a:Type}:List a->fb
 | []=>.gN
 |_::_=>.live
def agO{a:Type}:qv ([]:List a) = .gN:=(rfl)
def agP{a:Type}{x:a}{l:List a}:qv (x::l) = .live:=(rfl)
def agQ{a:Type}{l:List a}:(qv l).fG=true:=by cases l<;>rfl
theorem agR:fb.fG .live=true:=rfl
theorem agS:fb.fG .gN=true:=rfl
theorem agT:fb.fG .dead=false:=rfl
theorem agU{es:List (AV×AV)}:fb.fG (.map es)=false:=rfl
def agV{a:Type}{x:a}{l:List a}:qv (l ++ [x]) = .live:=by cases l<;>rfl
def agW{a:Type}{k:Nat}{x:a}{l:List a}:qv (l.set k x)=qv l:=by cases l<;>cases k<;>rfl
def agX{a:Type}{l:List a}:((qv l).isLive=true)=(l ≠ []):=by cases l<;>simp[qv,fb.isLive]
def agY{a b:Type}{f:a->b}{l:List a}:qv (l.map f)=qv l:=by cases l<;>rfl
attribute [simp] agO agP agQ agR agS agT agU agV agW agX agY
def aD{b:Type}{f:b->List (Nat×AV)}{g:b->List al}{I:b->Prop}{e:b->Nat}{m:Nat}{vs d : List AV}{σ:List al}{Q:Ex->St->Prop}(a:b) (h:d = du (f a) vs) (i:σ=g a) (j:I a) (l:e a<m):More f g I e m vs Q .eQ ⟨d, none,σ⟩:=⟨a,by rw[h,i],j,l⟩
def agZ{cs:List AV}{K:List AV->Prop}{t:Tk K}:oK (ia cs []) K t=K cs:=(rfl)
def ag0{cs:List AV}{o n:Nat}{x:AV}{r:List (Nat×Nat×AV)}{K:List AV->Prop}{t:Tk K}:oK (ia cs ((o,n,x)::r)) K t=nx x (λx=>(x.cells.length=n/\o+n<=cs.length/\bg x=true)/\nL (ny cs o x.cells) (λcs=>oK (ia cs r) K .k) .k) .k:=by
 unfold nx nL oK
 by_cases h:x.cells.length=n/\o+n<=cs.length/\bg x=true
 .have e:=vO (cs:=cs) (o:=o) (new:=x.cells) (by rw[h.1];exact h.2.1)
  simp only[h,and_self,true_and,ia,<-e];simp[h]
 .have e:ia cs ((o,n,x)::r)=none:=by
   unfold ia;rw[ad];simp only[aH,cT,eo,and_assoc];exact h
  rw[e];simp only[h,false_and,aS]
attribute [simp ↓] agZ ag0
end Ab
