/- The interpreter with as much fuel as is wanted: more fuel gives the same answer; the limit, and that it is reached. What is to be shown of a run of the interpreter, as a formula that simp can print. How each line of a region reads: one rule a kind of line. Rules for simp: how the conditions of a run read. More rules for simp: cells of blocks as lists of numbers. Condition: none. -/
import Derived.Test.YtdenhmniigikcaaGreatAbCore
set_option linter.all false
namespace Ab
def CE.le (a b:CE):Prop:=∀f args σ x,a f args σ=some x->b f args σ=some x
variable{a b:CE}
theorem sS(h:CE.le a b){f:Nat}{args:List AV}{x:AV}(e:iE a f args=some x):iE b f args=some x:=by
 unfold iE at e ⊢;split at e
 case isFalse=>simp at e
 rename_i hn;rw[ab hn];cases hc:a f (args.map wk) []with
 |none=>simp[hc]at e
 |some r=>rw[h _ _ _ _ hc];simpa[hc]using e
variable{r:Rf->AV}{o:cS}
theorem Ag(h:CE.le a b){σ:List ah}{nl:Nat}{ps:List cD}{x:AV×Option cD}(e:ev a σ nl ps r o=some x):ev b σ nl ps r o=some x:=by
 cases o
 case kl f args=>
  simp only[ev,mH]at e ⊢;obtain⟨y,h1,h2⟩:=e;exact⟨y,sS h h1,h2⟩
 case kR y args=>
  simp only[ev]at e ⊢;cases hr:r y<;>simp only[hr]at e<;>try(simp at e;done)
  simp only[mH]at e ⊢;obtain⟨y,h1,h2⟩:=e;exact⟨y,sS h h1,h2⟩
 case inv y pA args=>
  simp only[ev]at e ⊢;cases hr:r y<;>simp only[hr]at e<;>try(simp at e;done)
  rename_i t v;cases ht:eA pA t with
  |none=>simp[ht]at e
  |some f=>
   simp only[ht,mH]at e ⊢;obtain⟨y,h1,h2⟩:=e;exact⟨y,sS h h1,h2⟩
 case can f args=>
  simp only[ev]at e ⊢;split at e
  case isFalse=>simp at e
  rename_i hn;rw[ab hn];cases hc:a f (args.map r) []with
  |none=>simp[hc]at e
  |some q=>rw[h _ _ _ _ hc];simpa[hc]using e
 case qN f args=>
  simp only[ev]at e ⊢;cases hm:bI (λx=>view σ false vd (r x)) args with
  |none=>simp[hm]at e
  |some vs=>
   simp only[hm]at e ⊢;cases hc:a f vs []with
   |none=>simp[hc]at e
   |some q=>rw[h _ _ _ _ hc];simpa[hc]using e
 all_goals exact e
theorem X3(h:CE.le a b){σ:List ah}{x:AV×List ah}(e:fI a σ r o=some x):fI b σ r o=some x:=by
 cases o
 case eZ f args=>exact h _ _ _ _ e
 case kB y args=>
  simp only[fI]at e ⊢;cases hr:r y<;>simp only[hr]at e<;>try(simp at e;done)
  exact h _ _ _ _ e
 case rm y pA args=>
  simp only[fI]at e ⊢;cases hr:r y<;>simp only[hr]at e<;>try(simp at e;done)
  rename_i t v;cases ht:eA pA t with
  |none=>simp[ht]at e
  |some f=>simp only[ht]at e ⊢;exact h _ _ _ _ e
 case st=>exact e
 case cu=>exact e
 case tY=>exact e
 case tX=>exact e
 case wg=>exact e
 case JR=>exact e
 all_goals
  simp only[fI]at e ⊢;split at e
  .rename_i hc;rw[Ag h hc];exact e
  .rename_i hc;rw[Ag h hc];exact e
  .simp at e
theorem Mg(h:CE.le a b){vars:List AV}{s s' : LS}{l:Ln}(e:cT a vars s l=some s'):cT b vars s l=some s' :=by
 unfold cT at e ⊢;split at e
 .simp at e
 .exact e
 .split at e
  .rename_i g
   rw[ab g];split at e
   .rename_i d;rw[X3 h d];exact e
   .simp at e
  .rename_i g
   rw[aa g];split at e
   .rename_i d;rw[Ag h d];exact e
   .rename_i d;rw[Ag h d];exact e
   .simp at e
theorem Ep{a b:CE}(h:CE.le a b){vars:List AV}:∀{ls:List Ln}{s s' : LS},lines a vars ls s=some s' ->lines b vars ls s=some s'
 | [],_,_,e=>e
 |l::ls,s,s', e=>by
  simp only[lines]at e ⊢;cases d:cT a vars s l with
  |none=>simp[d]at e
  |some q=>rw[Mg h d];simp only[d]at e;exact Ep h e
theorem X4(h:CE.le a b){r:fQ}{s s' : St}(e:da a r s=some s'):da b r s=some s' :=by
 unfold da at e ⊢;cases d:lines a s.vars r.ls ⟨[],s.σ,s.σ⟩with
 |none=>simp[d]at e
 |some q=>rw[Ep h d];simpa[d]using e
theorem xq{f g:St->Option (Ex×St)}(h:∀s x,f s=some x->g s=some x):∀{n m:Nat}{s:St}{x:Ex×St},n<=m->iter f n s=some x->iter g m s=some x
 |0,_,_,_,_,e=>by simp[iter]at e
 |n+1,0,_,_,b,_=>by omega
 |n+1,m+1,s,x,b,e=>by
  simp only[iter]at e ⊢;cases a:f s with
  |none=>simp[a]at e
  |some q=>
   rw[h _ _ a];obtain⟨d,i⟩:=q;cases d with
   |eU=>simp only[a]at e ⊢;exact xq h (by omega) e
   |exit j=>simpa[a]using e
   |ret=>simpa[a]using e
theorem qp(h:CE.le a b){n m:Nat}(w:n<=m):∀(c:IC) (s:St) (x:Ex×St),exec n a c s=some x->exec m b c s=some x:=by
 intro c
 induction c with
 |skip=>intro s x e;simpa[exec]using e
 |cq r=>
  intro s x e;simp only[exec]at e ⊢;cases g:da a r s with
  |none=>simp[g]at e
  |some q=>rw[X4 h g];simpa[g]using e
 |seq c d i l=>
  intro s x e;simp only[exec]at e ⊢;cases g:exec n a c s with
  |none=>simp[g]at e
  |some q=>
   rw[i _ _ g];obtain⟨y,z⟩:=q;cases y with
   |eU=>simp only[g]at e ⊢;exact l _ _ e
   |exit j=>simpa[g]using e
   |ret=>simpa[g]using e
 |cond t c d i l=>
  intro s x e;simp only[exec]at e ⊢;split at e
  .split at e
   .split at e
    .rename_i g p u;rw[ab p,ab u];exact i _ _ e
    .rename_i g p u;rw[ab p,aa u];exact l _ _ e
   .simp at e
  .simp at e
 |iX k c d i l=>
  intro s x e;simp only[exec]at e ⊢;split at e
  .split at e
   .rename_i g p;rw[ab p];exact i _ _ e
   .rename_i g p;rw[aa p];exact l _ _ e
  .simp at e
 |block id c o=>
  intro s x e;simp only[exec]at e ⊢;cases g:exec n a c s with
  |none=>simp[g]at e
  |some q=>rw[o _ _ g];simpa[g]using e
 |loop c o=>
  intro s x e;simp only[exec]at e ⊢;exact xq o w e
 |exit id=>intro s x e;simpa[exec]using e
 |ret=>intro s x e;simpa[exec]using e
 |kO k=>intro s x e;simpa[exec]using e
 |bad=>intro s x e;simp[exec]at e
 |cut b c o=>intro s x e;simp only[exec]at e ⊢;exact o _ _ e
 |CD c o=>intro s x e;simp only[exec]at e ⊢;exact o _ _ e
 |lex c o=>
  intro s x e;simp only[exec]at e ⊢;cases g:exec n a c s with
  |none=>simp[g]at e
  |some q=>rw[o _ _ g];simpa[g]using e
def dL (Q:jF):Prop:=∀f p,Q f=some p->∀a b:CE,CE.le a b->∀args σ v,p a args σ=some v->p b args σ=some v
section
variable{G:Nat->Option Fn}{Q:jF}
theorem Ah (hQ:dL Q){n m:Nat}(hn:n<=m):∀{d e:Nat},d<=e->CE.le (dD G Q n d) (dD G Q m e)
 |0,_,_=>λf args σ x h=>by simp[dD]at h
 |d+1,0,h=>by omega
 |d+1,e+1,hd=>λf args σ x h=>by
  have ih:=Ah hQ hn (show d<=e by omega)
  simp only[dD]at h ⊢;cases hq:Q f with
  |some p=>
   simp only[hq]at h ⊢;exact hQ f p hq _ _ ih _ _ _ h
  |none=>
   simp only[hq]at h ⊢;cases hg:G f with
   |none=>simp[hg]at h
   |some fn=>
    simp only[hg]at h ⊢;split at h
    case isFalse=>simp at h
    rename_i hl;rw[ab hl];cases he:exec n (dD G Q n d) fn.body {vars:=args++List.replicate (fn.nv-fn.np) .aF,fl:=none,σ}with
    |none=>simp[he]at h
    |some q=>rw[qp ih hn _ _ _ he];simpa[he]using h
def cN (G:Nat->Option Fn) (Q:jF) (n:Nat):CE:=dD G Q n n
theorem q9 (b:dL Q){n m:Nat}(a:n<=m):CE.le (cN G Q n) (cN G Q m):=Ah b a a
open Classical in
noncomputable def lim (G:Nat->Option Fn) (Q:jF):CE:=λf args σ=>if h:∃x,∃N,cN G Q N f args σ=some x then some (choose h)else none
variable{args:List AV}{x:AV×List ah}
theorem Aj (a:dL Q){N f:Nat}{σ:List ah}(h:cN G Q N f args σ=some x):lim G Q f args σ=some x:=by
 have b:∃x,∃N,cN G Q N f args σ=some x:=⟨x,N,h⟩;unfold lim;rw[dif_pos b];obtain⟨M,e⟩:=Classical.choose_spec b;have g:=q9 (G:=G) a (Nat.le_max_left N M) _ _ _ _ h;have d:=q9 (G:=G) a (Nat.le_max_right N M) _ _ _ _ e;rw[g]at d;exact d.symm
theorem tf{f:Nat}{σ:List ah}(h:lim G Q f args σ=some x):∃N,cN G Q N f args σ=some x:=by
 unfold lim at h;split at h
 .rename_i a
  obtain⟨M,b⟩:=Classical.choose_spec a;exact⟨M,by rw[b];exact h⟩
 .simp at h
variable (hQ:dL Q)
include hQ
variable{args:List AV}
theorem w4{f:Nat}{x:AV}(e:iE (lim G Q) f args=some x):∃N,iE (cN G Q N) f args=some x:=by
 unfold iE at e;split at e
 case isFalse=>simp at e
 rename_i hn;cases hc:lim G Q f (args.map wk) []with
 |none=>simp[hc]at e
 |some r=>
  obtain⟨N,hN⟩:=tf hc;exact⟨N,by unfold iE;rw[ab hn,hN];simpa[hc]using e⟩
variable{r:Rf->AV}{o:cS}
theorem Ak{σ:List ah}{nl:Nat}{ps:List cD}{x:AV×Option cD}(e:ev (lim G Q) σ nl ps r o=some x):∃N,ev (cN G Q N) σ nl ps r o=some x:=by
 cases o
 case kl f args=>
  simp only[ev,mH]at e ⊢;obtain⟨y,h1,h2⟩:=e;obtain⟨N,hN⟩:=w4 hQ h1;exact⟨N,y,hN,h2⟩
 case kR y args=>
  simp only[ev]at e ⊢;cases hr:r y<;>simp only[hr]at e<;>try(simp at e;done)
  simp only[mH]at e ⊢;obtain⟨y,h1,h2⟩:=e;obtain⟨N,hN⟩:=w4 hQ h1;exact⟨N,y,hN,h2⟩
 case inv y pA args=>
  simp only[ev]at e ⊢;cases hr:r y<;>simp only[hr]at e<;>try(simp at e;done)
  rename_i t v;cases ht:eA pA t with
  |none=>simp[ht]at e
  |some f=>
   simp only[ht,mH]at e ⊢;obtain⟨y,h1,h2⟩:=e;obtain⟨N,hN⟩:=w4 hQ h1;exact⟨N,y,hN,h2⟩
 case can f args=>
  simp only[ev]at e ⊢;split at e
  case isFalse=>simp at e
  rename_i hn;cases hc:lim G Q f (args.map r) []with
  |none=>simp[hc]at e
  |some q=>
   obtain⟨N,hN⟩:=tf hc;exact⟨N,by rw[ab hn,hN];simpa[hc]using e⟩
 case qN f args=>
  simp only[ev]at e ⊢;cases hm:bI (λx=>view σ false vd (r x)) args with
  |none=>simp[hm]at e
  |some vs=>
   simp only[hm]at e ⊢;cases hc:lim G Q f vs []with
   |none=>simp[hc]at e
   |some q=>
    obtain⟨N,hN⟩:=tf hc;exact⟨N,by rw[hN];simpa[hc]using e⟩
 all_goals exact⟨0,e⟩
theorem X5{σ:List ah}{x:AV×List ah}(e:fI (lim G Q) σ r o=some x):∃N,fI (cN G Q N) σ r o=some x:=by
 cases o
 case eZ f args=>exact tf e
 case kB y args=>
  simp only[fI]at e ⊢;cases hr:r y<;>simp only[hr]at e<;>try(simp at e;done)
  exact tf e
 case rm y pA args=>
  simp only[fI]at e ⊢;cases hr:r y<;>simp only[hr]at e<;>try(simp at e;done)
  rename_i t v;cases ht:eA pA t with
  |none=>simp[ht]at e
  |some f=>simp only[ht]at e ⊢;exact tf e
 case st=>exact⟨0,e⟩
 case cu=>exact⟨0,e⟩
 case tY=>exact⟨0,e⟩
 case tX=>exact⟨0,e⟩
 case wg=>exact⟨0,e⟩
 case JR=>exact⟨0,e⟩
 all_goals
  simp only[fI]at e ⊢;split at e
  .rename_i hc;obtain⟨N,hN⟩:=Ak hQ hc;exact⟨N,by rw[hN];exact e⟩
  .rename_i hc;obtain⟨N,hN⟩:=Ak hQ hc;exact⟨N,by rw[hN];exact e⟩
  .simp at e
theorem X6{vars:List AV}{s s' : LS}{l:Ln}(e:cT (lim G Q) vars s l=some s'):∃N,cT (cN G Q N) vars s l=some s' :=by
 unfold cT at e ⊢;cases i:want vars s.env l.g with
 |none=>simp[i]at e
 |some b=>
  cases b with
  |false=>exact⟨0,by simpa[i]using e⟩
  |true=>
   simp only[i]at e ⊢;split at e
   .rename_i h
    split at e
    .rename_i a;obtain⟨N,d⟩:=X5 hQ a;exact⟨N,by rw[ab h,d];exact e⟩
    .simp at e
   .rename_i h
    split at e
    .rename_i a;obtain⟨N,d⟩:=Ak hQ a;exact⟨N,by rw[aa h,d];exact e⟩
    .rename_i a;obtain⟨N,d⟩:=Ak hQ a;exact⟨N,by rw[aa h,d];exact e⟩
    .simp at e
theorem Mh{vars:List AV}:∀{ls:List Ln}{s s' : LS},lines (lim G Q) vars ls s=some s' ->∃N,lines (cN G Q N) vars ls s=some s'
 | [],_,_,e=>⟨0,e⟩
 |l::ls,s,s', e=>by
  simp only[lines]at e ⊢;cases a:cT (lim G Q) vars s l with
  |none=>simp[a]at e
  |some q=>
   simp only[a]at e;obtain⟨N,b⟩:=X6 hQ a;obtain⟨M,d⟩:=Mh e;refine⟨max N M,?_⟩;rw[Mg (q9 hQ (Nat.le_max_left N M)) b];exact Ep (q9 hQ (Nat.le_max_right N M)) d
theorem X7{r:fQ}{s s' : St}(e:da (lim G Q) r s=some s'):∃N,da (cN G Q N) r s=some s' :=by
 unfold da at e ⊢;cases a:lines (lim G Q) s.vars r.ls ⟨[],s.σ,s.σ⟩with
 |none=>simp[a]at e
 |some q=>
  obtain⟨N,b⟩:=Mh hQ a;exact⟨N,by rw[b];simpa[a]using e⟩
def oY (G:Nat->Option Fn) (Q:jF) (N:Nat) (c:IC) (s:St):Option (Ex×St):=exec N (cN G Q N) c s
omit hQ in
theorem xr (hQ:dL Q){n m:Nat}(a:n<=m){c:IC}{s:St}{x:Ex×St}(h:oY G Q n c s=some x):oY G Q m c s=some x:=qp (q9 hQ a) a _ _ _ h
variable{n:Nat}
theorem X8:∀(c:IC) (s:St) (x:Ex×St),exec n (lim G Q) c s=some x->∃N,oY G Q N c s=some x:=by
 intro c
 induction c with
 |skip=>intro s x e;exact⟨0,by simpa[exec,oY]using e⟩
 |cq r=>
  intro s x e;simp only[exec,oY]at e ⊢;cases g:da (lim G Q) r s with
  |none=>simp[g]at e
  |some q=>obtain⟨N,a⟩:=X7 hQ g;exact⟨N,by rw[a];simpa[g]using e⟩
 |seq c d l m=>
  intro s x e;simp only[exec]at e;cases g:exec n (lim G Q) c s with
  |none=>simp[g]at e
  |some q=>
   obtain⟨N,a⟩:=l _ _ g;obtain⟨u,C⟩:=q;cases u with
   |eU=>
    simp only[g]at e;obtain⟨M,w⟩:=m _ _ e;refine⟨max N M,?_⟩;have A:=xr (G:=G) hQ (Nat.le_max_left N M) a;have B:=xr (G:=G) hQ (Nat.le_max_right N M) w;simp only[oY,exec]at A B ⊢;rw[A];exact B
   |exit j=>exact⟨N,by simp only[oY,exec]at a ⊢;rw[a];simpa[g]using e⟩
   |ret=>exact⟨N,by simp only[oY,exec]at a ⊢;rw[a];simpa[g]using e⟩
 |cond t c d l m=>
  intro s x e;simp only[exec]at e;split at e
  .split at e
   .split at e
    .rename_i g p y;obtain⟨N,a⟩:=l _ _ e;exact⟨N,by simp only[oY,exec,g,p,dt]at a ⊢;rw[ab y];exact a⟩
    .rename_i g p y;obtain⟨N,a⟩:=m _ _ e;exact⟨N,by simp only[oY,exec,g,p,dt]at a ⊢;rw[aa y];exact a⟩
   .simp at e
  .simp at e
 |iX k c d l m=>
  intro s x e;simp only[exec]at e;split at e
  .split at e
   .rename_i g p;obtain⟨N,a⟩:=l _ _ e;exact⟨N,by simp only[oY,exec,g]at a ⊢;rw[ab p];exact a⟩
   .rename_i g p;obtain⟨N,a⟩:=m _ _ e;exact⟨N,by simp only[oY,exec,g]at a ⊢;rw[aa p];exact a⟩
  .simp at e
 |block id c o=>
  intro s x e;simp only[exec]at e;cases g:exec n (lim G Q) c s with
  |none=>simp[g]at e
  |some q=>obtain⟨N,a⟩:=o _ _ g;exact⟨N,by simp only[oY,exec]at a ⊢;rw[a];simpa[g]using e⟩
 |loop c o=>
  intro s x e;simp only[exec]at e;have go:∀(k:Nat) (s:St),iter (exec n (lim G Q) c) k s=some x->∃N,∃j,iter (oY G Q N c) j s=some x:=by
   intro k
   induction k with
   |zero=>intro s e;simp[iter]at e
   |succ k z=>
    intro s e;simp only[iter]at e;cases g:exec n (lim G Q) c s with
    |none=>simp[g]at e
    |some q=>
     obtain⟨N,a⟩:=o _ _ g;obtain⟨u,C⟩:=q;cases u with
     |eU=>
      simp only[g]at e;obtain⟨M,j,w⟩:=z _ e;refine⟨max N M,j+1,?_⟩;simp only[iter];rw[xr (G:=G) hQ (Nat.le_max_left N M) a];exact xq (λs x h=>xr (G:=G) hQ (Nat.le_max_right N M) h) (aT _) w
     |exit i=>exact⟨N,1,by simp only[iter];rw[a];simpa[g]using e⟩
     |ret=>exact⟨N,1,by simp only[iter];rw[a];simpa[g]using e⟩
  obtain⟨N,j,h⟩:=go n s e;refine⟨max N j,?_⟩;simp only[oY,exec];exact xq (λs x h=>xr (G:=G) hQ (Nat.le_max_left N j) h) (Nat.le_max_right N j) h
 |exit id=>intro s x e;exact⟨0,by simpa[exec,oY]using e⟩
 |ret=>intro s x e;exact⟨0,by simpa[exec,oY]using e⟩
 |kO k=>intro s x e;exact⟨0,by simpa[exec,oY]using e⟩
 |bad=>intro s x e;simp[exec]at e
 |cut b c o=>intro s x e;simp only[exec]at e;obtain⟨N,a⟩:=o _ _ e;exact⟨N,by simp only[oY,exec]at a ⊢;exact a⟩
 |CD c o=>intro s x e;simp only[exec]at e;obtain⟨N,a⟩:=o _ _ e;exact⟨N,by simp only[oY,exec]at a ⊢;exact a⟩
 |lex c o=>
  intro s x e;simp only[exec]at e;cases g:exec n (lim G Q) c s with
  |none=>simp[g]at e
  |some q=>obtain⟨N,a⟩:=o _ _ g;exact⟨N,by simp only[oY,exec]at a ⊢;rw[a];simpa[g]using e⟩
theorem Mi{f:Nat}{fn:Fn}{σ:List ah}{e:Ex}{s:St}{r:AV}(b:Q f=none) (d:G f=some fn) (g:args.length=fn.np)
  (h:exec n (lim G Q) fn.body {vars:=args++List.replicate (fn.nv-fn.np) .aF,fl:=none,σ}=some (e,s)) (i:∀j,e ≠ .exit j) (a:results fn s=some r) :
  lim G Q f args σ=some (r,s.σ):=by
 obtain⟨N,l⟩:=X8 hQ _ _ _ h;refine Aj hQ (N:=N+1) ?_;have m:exec (N+1) (dD G Q (N+1) N) fn.body {vars:=args++List.replicate (fn.nv-fn.np) .aF,fl:=none,σ}=some (e,s):=
  qp (Ah hQ (Nat.le_succ N) (aT N)) (Nat.le_succ N) _ _ _ l
 simp only[cN,dD,b,d,g,kE,dt,m];cases e with
 |exit j=>exact absurd rfl (i j)
 |eU=>simp[a]
 |ret=>simp[a]
omit hQ in
theorem th (hQ:dL Q){N f:Nat}{p:CE->List AV->List ah->Option (AV×List ah)}{args:List AV}{σ:List ah}{x:AV×List ah}(a:Q f=some p) (b:p (cN G Q N) args σ=some x):lim G Q f args σ=some x:=by
 refine Aj hQ (N:=N+1) ?_;simp only[cN,dD,a];exact hQ f p a _ _ (Ah hQ (Nat.le_succ N) (aT N)) _ _ _ b
end
def W (L:CE) (c:IC) (s:St) (Q:Ex->St->Prop):Prop:=∃n e s', exec n L c s=some (e,s')/\Q e s'
section
variable{L:CE}
theorem u7 (L:CE):CE.le L L:=λ_ _ _ _ h=>h
variable{c:IC}{s:St}
theorem W.mono{Q R:Ex->St->Prop}(h:W L c s Q) (U:∀e s', Q e s' ->R e s'):W L c s R:=by
 obtain⟨n,e,s', h1,h2⟩:=h;exact⟨n,e,s', h1,U e s' h2⟩
theorem X9{Q:Ex->St->Prop}(h:Q .eU s):W L .skip s Q:=⟨0,.eU,s,rfl,h⟩
theorem Mj{Q:Ex->St->Prop}(h:Q .ret s):W L .ret s Q:=⟨0,.ret,s,rfl,h⟩
variable{id:Nat}
theorem Ya{Q:Ex->St->Prop}(h:Q (.exit id) s):W L (.exit id) s Q:=⟨0,.exit id,s,rfl,h⟩
theorem Mk{r:fQ}{s s' : St}{Q:Ex->St->Prop}(h:da L r s=some s') (a:Q .eU s'):W L (.cq r) s Q:=⟨0,.eU,s', by simp[exec,h],a⟩
def Yb (L:CE) (d:IC) (Q:Ex->St->Prop):Ex->St->Prop
 |.eU,s=>W L d s Q
 |e,s=>Q e s
variable{d:IC}
theorem Ml{Q:Ex->St->Prop}(h:W L c s (Yb L d Q)):W L (.seq c d) s Q:=by
 obtain⟨n,e,g,a,b⟩:=h;cases e with
 |eU=>
  obtain⟨m,i, s', l,o⟩:=b;refine⟨max n m,i, s', ?_,o⟩;simp only[exec];rw[qp (u7 L) (Nat.le_max_left n m) _ _ _ a];exact qp (u7 L) (Nat.le_max_right n m) _ _ _ l
 |exit j=>exact⟨n,.exit j,g,by simp[exec,a],b⟩
 |ret=>exact⟨n,.ret,g,by simp[exec,a],b⟩
variable{b:Bool}
theorem Yc{t:Nat}{vars:List AV}{σ:List ah}{Q:Ex->St->Prop}(h:b=true->W L c ⟨vars,none,σ⟩ Q) (i:b=false->W L d ⟨vars,none,σ⟩ Q):W L (.cond t c d) ⟨vars,some (t,.bool b),σ⟩ Q:=by
 cases b with
 |true=>
  obtain⟨n,e,s', a,g⟩:=h rfl;exact⟨n,e,s', by simp[exec,a],g⟩
 |false=>
  obtain⟨n,e,s', a,g⟩:=i rfl;exact⟨n,e,s', by simp[exec,a],g⟩
theorem Yd{k:Nat}{Q:Ex->St->Prop}(h:nth s.vars k = .bool b) (i:b=true->W L c s Q) (j:b=false->W L d s Q):W L (.iX k c d) s Q:=by
 cases b with
 |true=>
  obtain⟨n,e,s', a,g⟩:=i rfl;exact⟨n,e,s', by simp[exec,h,a],g⟩
 |false=>
  obtain⟨n,e,s', a,g⟩:=j rfl;exact⟨n,e,s', by simp[exec,h,a],g⟩
def Out (id:Nat) (Q:Ex->St->Prop):Ex->St->Prop
 |.exit j,s=>if j=id then Q .eU s else Q (.exit j) s
 |e,s=>Q e s
theorem Ye{Q:Ex->St->Prop}(h:W L c s (Out id Q)):W L (.block id c) s Q:=by
 obtain⟨n,e,a,b,d⟩:=h;cases e with
 |eU=>exact⟨n,.eU,a,by simp[exec,b],d⟩
 |exit j=>
  by_cases g:j=id
  .exact⟨n,.eU,a,by simp[exec,b,g],by simpa[Out,g]using d⟩
  .exact⟨n,.exit j,a,by simp[exec,b,g],by simpa[Out,g]using d⟩
 |ret=>exact⟨n,.ret,a,by simp[exec,b],d⟩
def xt (I:St->Prop) (a:St->Nat) (m:Nat) (Q:Ex->St->Prop):Ex->St->Prop
 |.eU,s=>I s/\a s<m
 |e,s=>Q e s
end
def Am (l:List AV) (n:Int) (K:AV->Prop):Prop:=0<=n/\∃y,lQ l n.toNat=some y/\K y
def oZ (n:Int) (K:AV->Prop):Prop:=(-9223372036854775808<=n/\n<=9223372036854775807)/\K (.int n)
def u9 (o:zf) (x y:Int) (K:AV->Prop):Prop:=
 match o with
 |.add=>oZ (x+y) K
 |.sub=>oZ (x-y) K
 |.mul=>oZ (x*y) K
 |.quo=>y ≠ 0/\oZ (x.tdiv y) K
 |.rem=>y ≠ 0/\K (.int (x.tmod y))
 |.lss=>K (.bool (decide (x<y)))
 |.leq=>K (.bool (decide (x<=y)))
 |.gtr=>K (.bool (decide (y<x)))
 |.geq=>K (.bool (decide (y<=x)))
 |.eql=>K (.bool (decide (x=y)))
 |.neq=>K (.bool (!decide (x=y)))
 |.sV=>K (.int (wr (x+y)))
def wj (L:CE) (f:Nat) (args:List AV):Option AV:=
 match L f args []with
 |some (v,a)=>bV a false v
 |none=>none
def aL{a:Type}(o:Option a) (K:a->Prop):Prop:=
 match o with
 |some u=>K u
 |none=>False
theorem kg{a:Type}{o:Option a}{K:a->Prop}(h:aL o K):∃u,o=some u/\K u:=by
 cases o with
 |none=>exact h.elim
 |some u=>exact⟨u,rfl,h⟩
theorem Ao{a:Type}{u:a}{K:a->Prop}:aL (some u) K=K u:=(rfl)
def qs (L:CE) (f:Nat) (args:List AV) (K:AV->Prop):Prop:=ax args=true/\aL (wj L f (args.map wk)) K
def LX (L:CE) (f:Nat) (args:List AV) (σ:List ah) (K:AV->List ah->Prop):Prop:=aL (L f args σ) λp=>K p.1 p.2
def xu (cs:List AV) (off:Nat) (k:Option Nat) (K:AV->Prop):Prop:=aL (part cs off k) K
def bj (c:Prop) (K:Prop):Prop:=c/\K
def o5 (L:CE) (σ:List ah) (nl:Nat) (r:Rf->AV) (op:cS) (K:AV->Option cD->Prop):Prop:=
 match op with
 |.bin o x y=>match r x,r y with
  |.int a,.int b=>u9 o a b λv=>K v none
  |_,_=>False
 |.bd x i st=>match r x,r i with
  |.au _ l,.int n=>Am l n λy=>y.cells.length=st/\K (.aV y) none
  |.sl b u off len,.int n=>bj (0<=n/\n<len) (K (.ptr b u (off+n.toNat*st)) none)
  |_,_=>False
 |.fg x i n k=>match r x,r i with
  |.ptr b u o,.int j=>bj (0<=j/\j<n) (K (.ptr b u (o+j.toNat*aE k)) none)
  |.aV v,.int j=>bj (0<=j/\j<n) (aL (part v.cells (j.toNat*aE k) k) λy=>K (.aV y) none)
  |_,_=>False
 |.kl f args=>qs L f (args.map r) λv=>K v none
 |.kR x args=>match r x with
  |.func f e=>qs L f (args.map r++e) λv=>K v none
  |_=>False
 |.inv x g args=>match r x with
  |.iface t v=>match eA g t with
   |some f=>qs L f (v::args.map r) λv=>K v none
   |none=>False
  |_=>False
 |.ld x k=>match r x with
  |.aV v=>match k,v with
   |none,.agg _=>False
   |none,v=>K v none
   |some n,.agg l=>l.length=n/\K (.agg l) none
   |some _,_=>False
  |.ptr b u o=>aL (upto σ b u) λB=>B.st.isLive=true/\xu B.cells o k λy=>K y none
  |_=>False
 |.CC x=>match r x with
  |.int n=>oZ n λv=>K v none
  |.ik _ n=>oZ n λv=>K v none
  |_=>False
 |.pI x m q st=>match sW r m,sX r q with
  |some a,some b=>(match r x with
   |.au w l=>bj ((0<=a/\a<=b.getD l.length/\b.getD l.length<=l.length)/\fR st l=true) (K (.au (w&&decide (0<l.length)) ((l.drop a.toNat).take ((b.getD l.length).toNat-a.toNat))) none)
   |.sl h u off len=>aL (upto σ h u) λB=>bj ((0<=a/\a<=b.getD len/\b.getD len<=len)/\aE B.k=st) (K (.sl h u (off+a.toNat*st) ((b.getD len).toNat-a.toNat)) none)
   |_=>False)
  |_,_=>False
 |.qN f args=>aL (bI (λx=>view σ false vd (r x)) args) λvs=>LX L f vs [] λv d =>aL (bV d true v) λu=>K u none
 |.can f args=>bj (ax (args.map r)=true) (LX L f (args.map r) [] λv d =>K (iW nl v) (some (.news (d.map (gm nl)))))
 |.iH n c z k=>match r n,r c with
  |.int n,.int c=>bj (0<=n/\n<=c/\c<=dz/\z.length=aE k) (K (.sl nl (dI c.toNat z).length 0 n.toNat) (some (.new ⟨k,dI c.toNat z,.live⟩)))
  |_,_=>False
 |.app s x k=>match aJ σ k (r x)with
  |none=>False
  |some (n,cs)=>match r s with
   |.sl b u off len=>aL (upto σ b u) λB=>bj (off=0/\u=len*aE k/\len+n<=dz/\sz B.k k=true) ((n=0->K (.sl b u off len) none)/\(n ≠ 0->cs.length ≠ 0/\K (.sl b (u+cs.length) 0 (len+n)) (some (.grow b cs))))
   |.ae=>(n=0->K .ae none)/\(n ≠ 0->n<=dz/\K (.sl nl cs.length 0 n) (some (.new ⟨k,cs,.live⟩)))
   |.emp=>(n=0->K .emp none)/\(n ≠ 0->n<=dz/\K (.sl nl cs.length 0 n) (some (.new ⟨k,cs,.live⟩)))
   |.arr l=>(n=0->K (if ax l then .au true l else .arr l) none)/\(n ≠ 0->(fitAll (aE k) l=true/\l.length+n<=dz)/\K (.sl nl (l.flatMap AV.cells++cs).length 0 (l.length+n)) (some (.new ⟨k,l.flatMap AV.cells++cs,.live⟩)))
   |_=>False
 |op=>aL (ev L σ nl [] r op) λp=>K p.1 p.2
variable{n:Int}
theorem o6:ka n=true↔-9223372036854775808<=n/\n<=9223372036854775807:=by
 simp[ka]
theorem vc{K:AV->Prop}(h:oZ n K):ka n=true/\K (.int n):=⟨o6.2 h.1,h.2⟩
theorem Yf{o:zf}{x y:Int}{K:AV->Prop}(h:u9 o x y K):∃v,bin o x y=some v/\K v:=by
 cases o<;>simp only[u9]at h<;>simp only[bin]
 case add=>obtain⟨h1,h2⟩:=vc h;exact⟨_,by rw[ab h1],h2⟩
 case sub=>obtain⟨h1,h2⟩:=vc h;exact⟨_,by rw[ab h1],h2⟩
 case mul=>obtain⟨h1,h2⟩:=vc h;exact⟨_,by rw[ab h1],h2⟩
 case quo=>obtain⟨h0,h1,h2⟩:=And.intro h.1 (vc h.2);exact⟨_,by simp[h0,h1],h2⟩
 case rem=>exact⟨_,by simp[h.1],h.2⟩
 case eql=>exact⟨_,rfl,by rwa [show(x==y)=decide (x=y)from rfl]⟩
 case neq=>exact⟨_,rfl,by rwa [show(x==y)=decide (x=y)from rfl]⟩
 all_goals exact⟨_,rfl,h⟩
variable{args:List AV}
theorem Er{L:CE}{f:Nat}{K:AV->Prop}(h:qs L f args K):∃v,iE L f args=some v/\K v:=by
 obtain⟨a,b⟩:=h;obtain⟨u,d,e⟩:=kg b;exact⟨u,by unfold iE;rw[ab a];exact d,e⟩
theorem dh{L:CE}{f:Nat}{σ:List ah}{K:AV->List ah->Prop}(h:LX L f args σ K):∃v a, L f args σ=some (v,a)/\K v a :=by
 obtain⟨⟨v,a⟩,b,d⟩:=kg h;exact⟨v,a, b,d⟩
variable{cG: List ah}{v:AV}
theorem uj{L:CE}{f:Nat}{σ: List ah}{K:AV->List ah->Prop}(h:L f args σ=some (v,cG)) (k:K v cG):LX L f args σ K:=by unfold LX;rw[h];exact k
theorem bP{L:CE}{f:Nat}{r:AV}(h:LX L f args [] λv cG =>aL (bV cG false v) (·= r)):wj L f args=some r:=by
 obtain⟨v,cG, a,b⟩:=dh h;obtain⟨u,d,rfl⟩:=kg b;simp only[wj,a,d]
theorem nU{L:CE}{f:Nat}{σ: List ah}(h:LX L f args σ λa τ=>a = v/\τ=cG):L f args σ=some (v,cG):=by
 obtain⟨a, τ,b,rfl,rfl⟩:=dh h;exact b
variable{r:Rf->AV}
theorem Mm{L:CE}{σ:List ah}{nl:Nat}{op:cS}{K:AV->Option cD->Prop}(h:o5 L σ nl r op K):∃v p,ev L σ nl [] r op=some (v,p)/\K v p:=by
 unfold o5 at h;cases op
 case bin o x y=>
  simp only at h;split at h
  .rename_i a b ha hb
   obtain⟨v,h1,h2⟩:=Yf h;exact⟨v,none,by simp only[ev,ha,hb,h1];rfl,h2⟩
  .exact h.elim
 case bd x i st=>
  simp only at h;split at h
  .rename_i q l n ha hb
   obtain⟨h0,y,h1,h2,h3⟩:=h;exact⟨_,_,by simp[ev,ha,hb,h0,h1,h2],h3⟩
  .rename_i b u off len n ha hb
   obtain⟨h0,h1⟩:=h;exact⟨_,_,by simp only[ev,ha,hb];rw[ab h0],h1⟩
  .exact h.elim
 case fg x i n k=>
  simp only at h;split at h
  .rename_i b u o j ha hb
   obtain⟨h0,h1⟩:=h;exact⟨_,_,by simp only[ev,ha,hb];rw[ab h0],h1⟩
  .rename_i v j ha hb
   obtain⟨h0,h1⟩:=h;obtain⟨y,h2,h3⟩:=kg h1;exact⟨_,_,by simp only[ev,ha,hb];rw[ab h0,h2];rfl,h3⟩
  .exact h.elim
 case kl f args=>
  obtain⟨v,h1,h2⟩:=Er h;exact⟨v,none,by simp[ev,h1],h2⟩
 case kR x args=>
  simp only at h;split at h
  .rename_i f cc ha
   obtain⟨v,h1,h2⟩:=Er h;exact⟨v,none,by simp only[ev,ha,h1];rfl,h2⟩
  .exact h.elim
 case inv x pA args=>
  simp only at h;split at h
  .rename_i t q ha
   split at h
   .rename_i f hf
    obtain⟨v,h1,h2⟩:=Er h;exact⟨v,none,by simp only[ev,ha,hf,h1];rfl,h2⟩
   .exact h.elim
  .exact h.elim
 case ld x k=>
  simp only at h;split at h
  .rename_i v ha
   split at h
   .exact h.elim
   .rename_i v hv;exact⟨_,none,by simp only[ev,ha],h⟩
   .obtain⟨h1,h2⟩:=h;exact⟨_,none,by simp[ev,ha,h1],h2⟩
   .exact h.elim
  .rename_i b u o ha
   obtain⟨B,hB,h⟩:=kg h;obtain⟨h1,h⟩:=h;obtain⟨y,h2,h3⟩:=kg h;exact⟨y,none,by simp only[ev,ha,hB];rw[ab h1,h2];rfl,h3⟩
  .exact h.elim
 case CC x=>
  simp only at h;split at h
  .rename_i n ha
   obtain⟨h1,h2⟩:=vc h;exact⟨_,none,by simp only[ev,ha];rw[ab h1],h2⟩
  .rename_i k n ha
   obtain⟨h1,h2⟩:=vc h;exact⟨_,none,by simp only[ev,ha];rw[ab h1],h2⟩
  .exact h.elim
 case pI x lo hi st=>
  simp only at h;split at h
  .rename_i a b ha hb
   split at h
   .rename_i nn l hx
    obtain⟨h0,h1⟩:=h;exact⟨_,_,by simp only[ev,ha,hb,hx];rw[ab h0],h1⟩
   .rename_i b' u off len hx
    obtain⟨B,hB,h0,h1⟩:=kg h;exact⟨_,_,by simp only[ev,ha,hb,hx,hB];rw[ab h0],h1⟩
   .exact h.elim
  .exact h.elim
 case qN f args=>
  obtain⟨vs,h1,h2⟩:=kg h;obtain⟨v,cG, h3,h4⟩:=dh h2;obtain⟨u,h5,h6⟩:=kg h4;exact⟨u,none,by simp only[ev,h1,h3,h5];rfl,h6⟩
 case can f args=>
  obtain⟨h1,h2⟩:=h;obtain⟨v,cG, h3,h4⟩:=dh h2;exact⟨_,_,by simp only[ev];rw[ab h1,h3],h4⟩
 case iH n c z k=>
  simp only at h;split at h
  .rename_i n c ha hb
   obtain⟨h0,h1⟩:=h;exact⟨_,_,by simp only[ev,ha,hb];rw[ab h0],h1⟩
  .exact h.elim
 case app s x k=>
  simp only at h;split at h
  .exact h.elim
  .rename_i n cs hx
   split at h
   .rename_i b u off len hs
    obtain⟨B,hB,⟨h1,h2,h3,h4⟩,h5,h6⟩:=kg h
    by_cases hn:n=0
    .subst hn
     exact⟨_,_,by simp only[ev,hx,hs,hB];rw[ab (by simp[h1,h2,h4,ny];omega)];simp,h5 rfl⟩
    .obtain⟨h7,h8⟩:=h6 hn
     exact⟨_,_,by simp only[ev,hx,hs,hB];rw[ab (by simp[h1,h2,h4,ny];omega)];rw[aa (by simpa using hn),aa (by simpa using h7)],h8⟩
   .rename_i hs
    by_cases hn:n=0
    .subst hn
     exact⟨_,_,by simp only[ev,hx,hs];simp,h.1 rfl⟩
    .obtain⟨h7,h8⟩:=h.2 hn
     exact⟨_,_,by simp only[ev,hx,hs];rw[aa (by simpa using hn),ab h7],h8⟩
   .rename_i hs
    by_cases hn:n=0
    .subst hn
     exact⟨_,_,by simp only[ev,hx,hs];simp,h.1 rfl⟩
    .obtain⟨h7,h8⟩:=h.2 hn
     exact⟨_,_,by simp only[ev,hx,hs];rw[aa (by simpa using hn),ab h7],h8⟩
   .rename_i l hs
    by_cases hn:n=0
    .subst hn
     exact⟨_,_,by simp only[ev,hx,hs];simp,h.1 rfl⟩
    .obtain⟨⟨h7,h9⟩,h8⟩:=h.2 hn
     exact⟨_,_,by simp only[ev,hx,hs];rw[aa (by simpa using hn),ab (by simp[h7,h9])],h8⟩
   .exact h.elim
 all_goals
  obtain⟨⟨v,p⟩,h1,h2⟩:=kg h;exact⟨v,p,h1,h2⟩
def xx (cs:List AV) (o:Nat) (new:List AV) (K:List AV->Prop):Prop:=o+new.length<=cs.length/\K (putAt cs o new)
def xz (L:CE) (σ:List ah) (r:Rf->AV) (op:cS) (K:AV->List ah->Prop):Prop:=
 match op with
 |.st p x n=>match r p with
  |.ptr b u o=>aL (upto σ b u) λB=>((r x).cells.length=n/\B.st.isLive=true/\bg (r x)=true)/\xx B.cells o (r x).cells λcs=>K .aF (ar σ b ⟨B.k,cs,B.st⟩)
  |_=>False
 |.cu s x k=>match aJ σ k (r x)with
  |none=>False
  |some (n,cs)=>match r s with
   |.sl b u off len=>aL (upto σ b u) λB=>bj (off=0/\len+n<=dz/\sz B.k k=true/\(n ≠ 0->cs.length ≠ 0)) ((n=0->K (.sl b u off len) σ)/\(n ≠ 0->u=len*aE k->K (.sl b (u+cs.length) 0 (len+n)) (ar σ b ⟨B.k,B.cells++cs,.live⟩))/\(n ≠ 0->u ≠ len*aE k->(len+n)*aE k<=u/\K (.sl b u 0 (len+n)) (ar σ b ⟨B.k,putAt B.cells (len*aE k) cs,B.st⟩)))
   |.ae=>(n=0->K .ae σ)/\(n ≠ 0->n<=dz/\K (.sl σ.length cs.length 0 n) (σ ++ [⟨k,cs,.live⟩]))
   |.emp=>(n=0->K .emp σ)/\(n ≠ 0->n<=dz/\K (.sl σ.length cs.length 0 n) (σ ++ [⟨k,cs,.live⟩]))
   |.arr l=>(n=0->K (if ax l then .au true l else .arr l) σ)/\(n ≠ 0->(fitAll (aE k) l=true/\l.length+n<=dz)/\K (.sl σ.length (l.flatMap AV.cells++cs).length 0 (l.length+n)) (σ ++ [⟨k,l.flatMap AV.cells++cs,.live⟩]))
   |_=>False
 |.eZ f args=>LX L f (args.map r) σ K
 |.kB x args=>match r x with
  |.func f a=>LX L f (args.map r++a) σ K
  |_=>False
 |.rm x d args=>match r x with
  |.iface t v=>match eA d t with
   |some f=>LX L f (v::args.map r) σ K
   |none=>False
  |_=>False
 |op=>aL (fI L σ r op) λp=>K p.1 p.2
theorem Yg{L:CE}{σ:List ah}{op:cS}{K:AV->List ah->Prop}(h:xz L σ r op K):∃v cG, fI L σ r op=some (v,cG)/\K v cG :=by
 unfold xz at h;cases op
 case st p x n=>
  simp only at h;split at h
  .rename_i b u o ha
   obtain⟨B,hB,⟨h1,h2,h3⟩,h4,h5⟩:=kg h;exact⟨.aF,_,by simp only[fI,ha,hB];simp[h1,h2,h3,show o+n<=B.cells.length by rw[<-h1];exact h4],h5⟩
  .exact h.elim
 case cu s x k=>
  simp only at h;split at h
  .exact h.elim
  .rename_i n cs hx
   split at h
   .rename_i b u off len hs
    obtain⟨B,hB,⟨h1,h2,h3,h4⟩,h5,h6,h7⟩:=kg h
    by_cases hn:n=0
    .subst hn
     exact⟨_,_,by simp only[fI,hx,hs,hB];rw[ab (by simp[h1,h3];omega)];simp,h5 rfl⟩
    .have hc:=h4 hn
     by_cases hu:u=len*aE k
     .exact⟨_,_,by simp only[fI,hx,hs,hB];rw[ab (by simp[h1,h3];omega)];rw[aa (by simpa using hn),aa (by simpa using hc),ab (by simpa using hu)],h6 hn hu⟩
     .obtain⟨h8,h9⟩:=h7 hn hu
      exact⟨_,_,by simp only[fI,hx,hs,hB];rw[ab (by simp[h1,h3];omega)];rw[aa (by simpa using hn),aa (by simpa using hc),aa (by simpa using hu),ab h8],h9⟩
   .rename_i hs
    by_cases hn:n=0
    .subst hn
     exact⟨_,_,by simp only[fI,hx,hs];simp,h.1 rfl⟩
    .obtain⟨h7,h8⟩:=h.2 hn
     exact⟨_,_,by simp only[fI,hx,hs];rw[aa (by simpa using hn),ab h7],h8⟩
   .rename_i hs
    by_cases hn:n=0
    .subst hn
     exact⟨_,_,by simp only[fI,hx,hs];simp,h.1 rfl⟩
    .obtain⟨h7,h8⟩:=h.2 hn
     exact⟨_,_,by simp only[fI,hx,hs];rw[aa (by simpa using hn),ab h7],h8⟩
   .rename_i l hs
    by_cases hn:n=0
    .subst hn
     exact⟨_,_,by simp only[fI,hx,hs];simp,h.1 rfl⟩
    .obtain⟨⟨h7,h9⟩,h8⟩:=h.2 hn
     exact⟨_,_,by simp only[fI,hx,hs];rw[aa (by simpa using hn),ab (by simp[h7,h9])],h8⟩
   .exact h.elim
 case eZ f args=>
  obtain⟨v,cG, h1,h2⟩:=dh h;exact⟨v,cG, h1,h2⟩
 case kB x args=>
  simp only at h;split at h
  .rename_i f cc ha
   obtain⟨v,cG, h1,h2⟩:=dh h;exact⟨v,cG, by simp only[fI,ha];exact h1,h2⟩
  .exact h.elim
 case rm x pA args=>
  simp only at h;split at h
  .rename_i t q ha
   split at h
   .rename_i f hf
    obtain⟨v,cG, h1,h2⟩:=dh h;exact⟨v,cG, by simp only[fI,ha,hf];exact h1,h2⟩
   .exact h.elim
  .exact h.elim
 all_goals
  obtain⟨⟨v,p⟩,h1,h2⟩:=kg h;exact⟨v,p,h1,h2⟩
def dJ (K:List AV->List ah->List ah->Prop) (env:List AV) (a σ:List ah) (v:AV):Option cD->Prop
 |none=>K (v::env) a σ
 |some p=>K (v::env) σ (fK σ p)
def bY (L:CE) (vars:List AV) (op:cS) (prev:Bool) (env:List AV) (a σ:List ah) (K:List AV->List ah->List ah->Prop):Prop:=
 match op.kn,prev,op.kP with
 |true,_,_=>xz L σ (rv vars env) op λv cG =>K (v::env) [] cG
 |false,true,true=>o5 L a σ.length (rv vars env) op (dJ K env σ σ)
 |false,true,false=>o5 L a σ.length (rv vars env) op (dJ K env a σ)
 |false,false,true=>o5 L σ σ.length (rv vars env) op (dJ K env σ σ)
 |false,false,false=>o5 L σ σ.length (rv vars env) op (dJ K env a σ)
def gK (b:Bool) (A B:Prop):Prop:=(b=true->A)/\(b=false->B)
variable{A B:Prop}
theorem Es:gK true A B=A:=by simp[gK]
theorem Et:gK false A B=B:=by simp[gK]
def LK (L:CE) (vars:List AV):List Ln->List AV->List ah->List ah->(List AV->List ah->Prop)->Prop
 | [],env,_,σ,K=>K env σ
 |⟨op,g,prev⟩::ls,env,a,σ,K=>match g with
  |none=>bY L vars op prev env a σ λenv a σ=>LK L vars ls env a σ K
  |some (.t d,w)=>match nth env d with
   |.bool b=>match w with
    |true=>gK b (bY L vars op prev (eu env d (.bool true)) a σ λenv a σ=>LK L vars ls env a σ K) (LK L vars ls (.bF []::eu env d (.bool false)) a σ K)
    |false=>gK b (LK L vars ls (.bF []::eu env d (.bool true)) a σ K) (bY L vars op prev (eu env d (.bool false)) a σ λenv a σ=>LK L vars ls env a σ K)
   |.bF []=>LK L vars ls (.bF []::env) a σ K
   |_=>False
  |some (.v k,w)=>match nth vars k with
   |.bool b=>match w with
    |true=>gK b (bY L vars op prev env a σ λenv a σ=>LK L vars ls env a σ K) (LK L vars ls (.bF []::env) a σ K)
    |false=>gK b (LK L vars ls (.bF []::env) a σ K) (bY L vars op prev env a σ λenv a σ=>LK L vars ls env a σ K)
   |.bF []=>LK L vars ls (.bF []::env) a σ K
   |_=>False
  |some (.c _,_)=>False
theorem Mn:∀{l:List AV}{d:Nat}{x:AV},x ≠ .aF->nth l d=x->eu l d x=l
 | [],d,x,a,h=>by simp[nth]at h;exact absurd h.symm a
 |y::r,0,x,_,h=>by simp[nth]at h;simp[eu,h]
 |y::r,d+1,x,a,h=>by simp only[nth]at h;simp[eu,Mn a h]
theorem Mp{L:CE}{vars:List AV}{op:cS}{g:Option (Rf×Bool)}{prev:Bool}{env:List AV}{a σ:List ah}{K:List AV->List ah->List ah->Prop}(l:want vars env g=some true) (h:bY L vars op prev env a σ K) :
  ∃s,cT L vars ⟨env,a,σ⟩ ⟨op,g,prev⟩=some s/\K s.env s.aC s.σ:=by
 unfold bY at h;unfold cT;simp only[l];have fin:∀e i,(if prev=true then a else σ)=e->(if op.kP=true then σ else a)=i->op.kn=false->o5 L e σ.length (rv vars env) op (dJ K env i σ)->
   ∃s,(if op.kn=true then match fI L σ (rv vars env) op with
    |some (v,cG)=>some (⟨v::env,[],cG⟩:LS)
    |none=>none
   else match ev L (if prev=true then a else σ) σ.length [] (rv vars env) op with
    |some (v,none)=>some ⟨v::env,if op.kP=true then σ else a,σ⟩
    |some (v,some p)=>some ⟨v::env,σ,fK σ p⟩
    |none=>none)=some s/\K s.env s.aC s.σ:=λe i e0 m j h=>by
  obtain⟨v,p,d,b⟩:=Mm h;rw[aa (by simp[j]),e0,m,d]
  cases p with
  |none=>exact⟨_,rfl,b⟩
  |some p=>exact⟨_,rfl,b⟩
 split at h
 .rename_i j
  obtain⟨v,cG, d,b⟩:=Yg h;rw[ab j,d];exact⟨_,rfl,b⟩
 .rename_i d b;exact fin _ _ (by simp) (by simp[b]) d h
 .rename_i d b;exact fin _ _ (by simp) (by simp[b]) d h
 .rename_i d b;exact fin _ _ (by simp) (by simp[b]) d h
 .rename_i d b;exact fin _ _ (by simp) (by simp[b]) d h
variable{ve: List AV}
theorem vf{L:CE}{vars:List AV}{op:cS}{g:Option (Rf×Bool)}{prev:Bool}{ls:List Ln}{env: List AV}{a σ:List ah}{K:List AV->List ah->Prop}(e:ve = env) (b:want vars ve g=some false)
  (h:∃q,lines L vars ls ⟨.bF []::ve, a,σ⟩=some q/\K q.env q.σ):∃q,lines L vars (⟨op,g,prev⟩::ls) ⟨env,a,σ⟩=some q/\K q.env q.σ:=by
 subst e;obtain⟨q,d,i⟩:=h;exact⟨q,by simp only[lines,cT,b];exact d,i⟩
theorem rC{L:CE}{vars:List AV}{op:cS}{g:Option (Rf×Bool)}{prev:Bool}{ls:List Ln}{env: List AV}{a σ:List ah}{K:List AV->List ah->Prop}{J:List AV->List ah->List ah->Prop}(e:ve = env) (b:want vars ve g=some true)
  (h:bY L vars op prev ve a σ J) (d:∀env a σ,J env a σ->∃q,lines L vars ls ⟨env,a,σ⟩=some q/\K q.env q.σ):∃q,lines L vars (⟨op,g,prev⟩::ls) ⟨env,a,σ⟩=some q/\K q.env q.σ:=by
 subst e;obtain⟨s,i,j⟩:=Mp b h;obtain⟨q,l,m⟩:=d _ _ _ j;exact⟨q,by simp only[lines,i];exact l,m⟩
theorem mS{L:CE}{vars:List AV}:∀{ls:List Ln}{env:List AV}{i σ:List ah}{K:List AV->List ah->Prop},LK L vars ls env i σ K->∃q,lines L vars ls ⟨env,i,σ⟩=some q/\K q.env q.σ
 | [],env,i,σ,K,h=>⟨_,rfl,h⟩
 |⟨op,g,prev⟩::ls,env,i,σ,K,h=>by
  unfold LK at h;split at h
  .exact rC rfl rfl h λ_ _ _ h=>mS h
  .rename_i d w
   split at h
   .rename_i b a
    have e:∀q,b=q->eu env d (.bool q)=env:=λq j=>Mn (by simp) (j▸a)
    cases w with
    |true=>
     simp only[gK]at h;cases b with
     |true=>exact rC (e true rfl) (by rw[e true rfl];simp[want,rv,a]) (h.1 rfl) λ_ _ _ h=>mS h
     |false=>exact vf (e false rfl) (by rw[e false rfl];simp[want,rv,a]) (mS (h.2 rfl))
    |false=>
     simp only[gK]at h;cases b with
     |true=>exact vf (e true rfl) (by rw[e true rfl];simp[want,rv,a]) (mS (h.1 rfl))
     |false=>exact rC (e false rfl) (by rw[e false rfl];simp[want,rv,a]) (h.2 rfl) λ_ _ _ h=>mS h
   .rename_i a
    exact vf rfl (by simp[want,rv,a]) (mS h)
   .exact h.elim
  .rename_i k w
   split at h
   .rename_i b a
    cases w with
    |true=>
     simp only[gK]at h;cases b with
     |true=>exact rC rfl (by simp[want,rv,a]) (h.1 rfl) λ_ _ _ h=>mS h
     |false=>exact vf rfl (by simp[want,rv,a]) (mS (h.2 rfl))
    |false=>
     simp only[gK]at h;cases b with
     |true=>exact vf rfl (by simp[want,rv,a]) (mS (h.1 rfl))
     |false=>exact rC rfl (by simp[want,rv,a]) (h.2 rfl) λ_ _ _ h=>mS h
   .rename_i a
    exact vf rfl (by simp[want,rv,a]) (mS h)
   .exact h.elim
  .exact h.elim
@[reducible] def xA (env:List AV):Option (Nat×Nat)->Option (Nat×AV)
 |some (t,d)=>some (t,nth env d)
 |none=>none
def WK (L:CE):IC->List AV->Option (Nat×AV)->List ah->(Ex->St->Prop)->Prop
 |.skip,vars,d,σ,Q=>Q .eU ⟨vars,d,σ⟩
 |.cq r,vars,_,σ,Q=>LK L vars r.ls [] σ σ λenv σ=>Q .eU ⟨dC r.dC (outs env r.outs vars),xA env r.fl,σ⟩
 |.seq a b,vars,d,σ,Q=>WK L a vars d σ λe s=>match e with
  |.eU=>WK L b s.vars s.fl s.σ Q
  |e=>Q e s
 |.cond t a b,vars,d,σ,Q=>match d with
  |some (g, .bool c)=>g = t/\gK c (WK L a vars none σ Q) (WK L b vars none σ Q)
  |_=>False
 |.iX k a b,vars,d,σ,Q=>match nth vars k with
  |.bool c=>gK c (WK L a vars d σ Q) (WK L b vars d σ Q)
  |_=>False
 |.block id c,vars,d,σ,Q=>WK L c vars d σ (Out id Q)
 |.exit id,vars,d,σ,Q=>Q (.exit id) ⟨vars,d,σ⟩
 |.ret,vars,d,σ,Q=>Q .ret ⟨vars,d,σ⟩
 |.bad,_,_,_,_=>False
 |.cut _ c,vars,d,σ,Q=>WK L c vars d σ Q
 |.CD c,vars,d,σ,Q=>WK L c vars d σ Q
 |c,vars,d,σ,Q=>W L c ⟨vars,d,σ⟩ Q
def Up (L:CE) (d:IC) (Q:Ex->St->Prop):Ex->St->Prop:=λe s=>match e with
 |.eU=>WK L d s.vars s.fl s.σ Q
 |e=>Q e s
theorem nV{L:CE}:∀{c:IC}{vars:List AV}{d:Option (Nat×AV)}{σ:List ah}{Q:Ex->St->Prop},WK L c vars d σ Q->W L c ⟨vars,d,σ⟩ Q
 |.skip,vars,d,σ,Q,h=>X9 h
 |.cq r,vars,d,σ,Q,h=>by
  unfold WK at h;obtain⟨q,g,i⟩:=mS h;refine Mk (s' :=⟨dC r.dC (outs q.env r.outs vars),xA q.env r.fl,q.σ⟩) ?_ i;simp only[da,g]
  rfl
 |.seq a b,vars,d,σ,Q,h=>Ml ((nV (c:=a) h).mono λe s l=>by
  cases e with
  |eU=>exact nV (c:=b) l
  |exit j=>exact l
  |ret=>exact l)
 |.cond t a b,vars,d,σ,Q,h=>by
  unfold WK at h;split at h
  .obtain⟨rfl,g,i⟩:=h
   exact Yc (λe=>nV (g e)) (λe=>nV (i e))
  .exact h.elim
 |.iX k a b,vars,d,σ,Q,h=>by
  unfold WK at h;split at h
  .rename_i c m
   exact Yd m (λe=>nV (h.1 e)) (λe=>nV (h.2 e))
  .exact h.elim
 |.block id c,vars,d,σ,Q,h=>Ye (nV (c:=c) h)
 |.exit id,vars,d,σ,Q,h=>Ya h
 |.ret,vars,d,σ,Q,h=>Mj h
 |.loop c,vars,d,σ,Q,h=>h
 |.kO k,vars,d,σ,Q,h=>h
 |.lex c,vars,d,σ,Q,h=>h
 |.bad,vars,d,σ,Q,h=>h.elim
 |.cut b c,vars,d,σ,Q,h=>by
  obtain⟨n,e,s', g,i⟩:=nV (c:=c) h;exact⟨n,e,s', by simpa only[exec]using g,i⟩
 |.CD c,vars,d,σ,Q,h=>by
  obtain⟨n,e,s', g,i⟩:=nV (c:=c) h;exact⟨n,e,s', by simpa only[exec]using g,i⟩
section
variable{L:CE}{vars:List AV}{fl:Option (Nat×AV)}{σ:List ah}{Q:Ex->St->Prop}
theorem Yh:WK L .skip vars fl σ Q=Q .eU ⟨vars,fl,σ⟩:=(rfl)
theorem Yi{r:fQ}:WK L (.cq r) vars fl σ Q=LK L vars r.ls [] σ σ λenv σ=>Q .eU ⟨dC r.dC (outs env r.outs vars),xA env r.fl,σ⟩:=(rfl)
theorem Yj{a b:IC}:WK L (.seq a b) vars fl σ Q=WK L a vars fl σ (Up L b Q):=(rfl)
variable{a b:IC}
theorem Yk{t:Nat}{c:Bool}:WK L (.cond t a b) vars (some (t,.bool c)) σ Q=gK c (WK L a vars none σ Q) (WK L b vars none σ Q):=by
 apply propext;exact⟨λh=>h.2,λh=>⟨rfl,h⟩⟩
theorem Yl{k:Nat}:WK L (.iX k a b) vars fl σ Q=match nth vars k with
  |.bool c=>gK c (WK L a vars fl σ Q) (WK L b vars fl σ Q)
  |_=>False:=by conv=>lhs;unfold WK
theorem Ym{id:Nat}{c:IC}:WK L (.block id c) vars fl σ Q=WK L c vars fl σ (Out id Q):=(rfl)
theorem Yn{id:Nat}:WK L (.exit id) vars fl σ Q=Q (.exit id) ⟨vars,fl,σ⟩:=(rfl)
theorem Yo:WK L .ret vars fl σ Q=Q .ret ⟨vars,fl,σ⟩:=(rfl)
theorem Yp{c:IC}:WK L (.loop c) vars fl σ Q=W L (.loop c) ⟨vars,fl,σ⟩ Q:=(rfl)
theorem Yq{k:Nat}:WK L (.kO k) vars fl σ Q=W L (.kO k) ⟨vars,fl,σ⟩ Q:=(rfl)
theorem Yr{c:IC}:WK L (.lex c) vars fl σ Q=W L (.lex c) ⟨vars,fl,σ⟩ Q:=(rfl)
theorem Yt:WK L .bad vars fl σ Q=False:=(rfl)
theorem Yu{b:Bool}{c:IC}:WK L (.cut b c) vars fl σ Q=WK L c vars fl σ Q:=(rfl)
theorem Yv{c:IC}:WK L (.CD c) vars fl σ Q=WK L c vars fl σ Q:=(rfl)
theorem Yw{d:IC}:Up L d Q .eU ⟨vars,fl,σ⟩=WK L d vars fl σ Q:=(rfl)
theorem Yx{d:IC}{s:St}:Up L d Q .ret s=Q .ret s:=(rfl)
theorem Yy{d:IC}{s:St}{j:Nat}:Up L d Q (.exit j) s=Q (.exit j) s:=(rfl)
theorem Yz{id:Nat}{s:St}:Out id Q .eU s=Q .eU s:=(rfl)
theorem YA{id:Nat}{s:St}:Out id Q .ret s=Q .ret s:=(rfl)
theorem YB{id j:Nat}{s:St}:Out id Q (.exit j) s=if j=id then Q .eU s else Q (.exit j) s:=(rfl)
theorem YC{I:St->Prop}{a:St->Nat}{m:Nat}{s:St}:xt I a m Q .eU s=(I s/\a s<m):=(rfl)
theorem YD{I:St->Prop}{a:St->Nat}{m:Nat}{s:St}:xt I a m Q .ret s=Q .ret s:=(rfl)
theorem YE{I:St->Prop}{a:St->Nat}{m j:Nat}{s:St}:xt I a m Q (.exit j) s=Q (.exit j) s:=(rfl)
end
def gA (fn:Fn) (K:AV->List ah->Prop):Ex->St->Prop
 |.exit _,_=>False
 |_,s=>aL (results fn s) λv=>K v s.σ
theorem YF{G:Nat->Option Fn}{P:jF}(g:dL P){f:Nat}(fn:Fn){args:List AV}{σ:List ah}{K:AV->List ah->Prop}(i:P f=none) (l:G f=some fn) (m:args.length=fn.np)
  (h:WK (lim G P) fn.body (args++List.replicate (fn.nv-fn.np) .aF) none σ (gA fn K)):LX (lim G P) f args σ K:=by
 obtain⟨n,e,s,o,a⟩:=nV h;cases e with
 |exit j=>exact a.elim
 |eU=>obtain⟨v,b,d⟩:=kg a;exact uj (Mi g i l m o (λj=>by simp) b) d
 |ret=>obtain⟨v,b,d⟩:=kg a;exact uj (Mi g i l m o (λj=>by simp) b) d
attribute [simp ↓] u9 oZ bj xu qs
attribute [irreducible] WK
universe u
inductive Tk {α:Sort u} (a:α):Type
 |k
def nx (x:AV) (K:AV->Prop) (_:Tk K):Prop:=K x
def nL (l:List AV) (K:List AV->Prop) (_:Tk K):Prop:=K l
def nB (l:List ah) (K:List ah->Prop) (_:Tk K):Prop:=K l
def nC (l:List AV) (K:List AV->Prop) (_:Tk K):Prop:=K l
def oK{a:Type}(o:Option a) (K:a->Prop) (_:Tk K):Prop:=aL o K
def gT (b:Bool) (A B:Prop) (_:Tk A) (_:Tk B):Prop:=gK b A B
def im (p A:Prop) (_:Tk A):Prop:=p->A
def xK (l:List AV) (n:Int) (K:AV->Prop) (_:Tk K):Prop:=Am l n K
def lX (L:CE) (f:Nat) (args:List AV) (σ:List ah) (K:AV->List ah->Prop) (_:Tk K):Prop:=LX L f args σ K
def pT (cs:List AV) (off:Nat) (k:Option Nat) (K:AV->Prop) (_:Tk K):Prop:=aL (part cs off k) K
def pU (cs:List AV) (o:Nat) (new:List AV) (K:List AV->Prop) (_:Tk K):Prop:=xx cs o new K
def bk (o:Option ah) (u:Nat) (K:Option Nat->List AV->eM->Prop) (_:Tk K):Prop:=
 match o with
 |some B=>(B.cells.length=u/\B.st.eT=true)/\K B.k B.cells B.st
 |none=>False
section
variable{K:AV->Prop}{t:Tk K}
theorem Mq{n:Int}:nx (.int n) K t=K (.int n):=(rfl)
theorem CJ{k:Nat}{n:Int}:nx (.ik k n) K t=K (.ik k n):=(rfl)
theorem Mr{n:Bool}:nx (.bool n) K t=K (.bool n):=(rfl)
theorem Ms{n:List UInt8}:nx (.str n) K t=K (.str n):=(rfl)
theorem Mt{l:List AV}:nx (.agg l) K t=K (.agg l):=(rfl)
theorem Mu{l:List AV}:nx (.bF l) K t=K (.bF l):=(rfl)
theorem Mv:nx .ae K t=K .ae:=(rfl)
theorem Mw{q:Bool}{l:List AV}:nx (.au q l) K t=K (.au q l):=(rfl)
theorem Mx{l:List AV}:nx (.arr l) K t=K (.arr l):=(rfl)
theorem CK{b u o n:Nat}:nx (.sl b u o n) K t=K (.sl b u o n):=(rfl)
theorem My:nx .gI K t=K .gI:=(rfl)
theorem Mz{v:AV}:nx (.aV v) K t=K (.aV v):=(rfl)
theorem MA{b u o:Nat}:nx (.ptr b u o) K t=K (.ptr b u o):=(rfl)
theorem MB:nx .j9 K t=K .j9:=(rfl)
theorem MC{f:Nat}{l:List AV}:nx (.func f l) K t=K (.func f l):=(rfl)
theorem MD:nx .gu K t=K .gu:=(rfl)
theorem ME{n:Nat}{v:AV}:nx (.iface n v) K t=K (.iface n v):=(rfl)
theorem MF{b:Nat}:nx (.cC b) K t=K (.cC b):=(rfl)
theorem MG:nx .oT K t=K .oT:=(rfl)
theorem MH:nx .emp K t=K .emp:=(rfl)
theorem MI:nx .aF K t=K .aF:=(rfl)
theorem YG{x:AV}:nx x K t=K x:=(rfl)
theorem MJ{a:Type}{u:a}{K:a->Prop}{t:Tk K}:oK (some u) K t=K u:=(rfl)
theorem MK{a:Type}{K:a->Prop}{t:Tk K}:oK none K t=False:=(rfl)
end
theorem ML{K:List AV->Prop}{t:Tk K}:nL [] K t=K []:=(rfl)
theorem MM{x:AV}{l:List AV}{K:List AV->Prop}{t:Tk K}:nL (x::l) K t=nx x (λy=>nL l (λl=>K (y::l)) .k) .k:=(rfl)
theorem YH{l:List AV}{K:List AV->Prop}{t:Tk K}:nL l K t=K l:=(rfl)
theorem MN{K:List ah->Prop}{t:Tk K}:nB [] K t=K []:=(rfl)
theorem MO{k:Option Nat}{cs:List AV}{st:eM}{l:List ah}{K:List ah->Prop}{t:Tk K}:nB (⟨k,cs,st⟩::l) K t=nB l (λl=>K (⟨k,cs,st⟩::l)) .k:=(rfl)
theorem YI{l:List ah}{K:List ah->Prop}{t:Tk K}:nB l K t=K l:=(rfl)
theorem YJ{l:List AV}{K:List AV->Prop}{t:Tk K}:nC l K t=K l:=(rfl)
theorem MP{A B:Prop}{t:Tk A}{u:Tk B}:gT true A B t u=A:=Es
theorem MQ{A B:Prop}{t:Tk A}{u:Tk B}:gT false A B t u=B:=Et
theorem MS{b:Bool}{A B:Prop}{t:Tk A}{u:Tk B}:gT (!b) A B t u=gT b B A u t:=by cases b<;>simp[gT,gK]
theorem YK{b:Bool}{A B:Prop}{t:Tk A}{u:Tk B}:gT b A B t u=(im (b=true) A .k/\im (b=false) B .k):=(rfl)
theorem Eu{p:Prop} [Decidable p]{A B:Prop}{t:Tk A}{u:Tk B}:gT (decide p) A B t u=(im p A .k/\im (¬p) B .k):=by
 by_cases h:p<;>simp[gT,gK,im,h]
theorem YL{A:Prop}{t:Tk A}:im True A t=A:=by simp[im]
theorem YM{A:Prop}{t:Tk A}:im False A t=True:=by simp[im]
theorem YN{p A:Prop}{t:Tk A}:im p A t=(p->A):=(rfl)
theorem MT{k:Option Nat}{cs:List AV}{u:Nat}{K:Option Nat->List AV->eM->Prop}{t:Tk K}:bk (some ⟨k,cs,.live⟩) u K t=(cs.length=u/\K k cs .live):=by simp[bk,eM.eT]
theorem MU{k:Option Nat}{cs:List AV}{st:eM}{u:Nat}{K:Option Nat->List AV->eM->Prop}{t:Tk K}:bk (some ⟨k,cs,st⟩) u K t=((cs.length=u/\st.eT=true)/\K k cs st):=(rfl)
theorem tj{σ:List ah}{b u:Nat}{K:ah->Prop}:aL (upto σ b u) K=bk (ak σ b) u (λk cs st=>K ⟨k,cs,st⟩) .k:=by
 unfold upto bk;cases ak σ b with
 |none=>rfl
 |some B=>
  obtain⟨k,cs,st⟩:=B
  by_cases h:cs.length=u<;>cases st<;>simp[h,aL,eM.eT]
@[reducible] def gB {α β:Type} (f:α->β):List α->List β
 | []=>[]
 |x::r=>f x::gB f r
theorem gS{a b:Type}(f:a->b):∀l:List a,l.map f=gB f l
 | []=>rfl
 |x::r=>by simp[gB,gS f r]
@[reducible] def gj {α:Type}:List α->List α->List α
 | [],m=>m
 |x::r,m=>x::gj r m
theorem fT{a:Type}:∀l m:List a,l++m=gj l m
 | [],m=>rfl
 |x::r,m=>by simp[gj,fT r m]
@[reducible] def uk:Nat->List AV->List AV
 |0,_=>[]
 |_,[]=>[]
 |n+1,x::r=>x::uk n r
theorem MV:∀(n:Nat) (l:List AV),l.take n=uk n l
 |0,l=>by cases l<;>rfl
 |n+1,[]=>rfl
 |n+1,x::r=>by simp[uk,MV n r]
@[reducible] def um:Nat->List AV->List AV
 |0,l=>l
 |_,[]=>[]
 |n+1,_::r=>um n r
theorem MW:∀(n:Nat) (l:List AV),l.drop n=um n l
 |0,l=>by cases l<;>rfl
 |n+1,[]=>rfl
 |n+1,x::r=>by simp[um,MW n r]
theorem YO{cs:List AV}{off:Nat}{K:AV->Prop}{t:Tk K}:pT cs off none K t=oK (lQ cs off) K .k:=(rfl)
theorem YP{cs:List AV}{off n:Nat}{K:AV->Prop}{t:Tk K}:pT cs off (some n) K t=(off+n<=cs.length/\nL (uk n (um off cs)) (λl=>K (.agg l)) .k):=by
 unfold pT part;rw[<-MV,<-MW]
 by_cases h:off+n<=cs.length<;>simp[h,aL,nL]
section
variable{L:CE}{vars env:List AV}{aC σ:List ah}{K:List AV->List ah->List ah->Prop}
def ii (x y:AV) (K:Int->Int->Prop):Prop:=match x,y with
 |.int a,.int b=>K a b
 |_,_=>False
theorem YQ{a b:Int}{K:Int->Int->Prop}:ii (.int a) (.int b) K=K a b:=(rfl)
def bb (x y:AV) (K:Bool->Bool->Prop):Prop:=match x,y with
 |.bool a,.bool b=>K a b
 |_,_=>False
theorem YR{a b:Bool}{K:Bool->Bool->Prop}:bb (.bool a) (.bool b) K=K a b:=(rfl)
def b1 (x:AV) (K:Bool->Prop):Prop:=match x with
 |.bool a=>K a
 |_=>False
theorem YS{a:Bool}{K:Bool->Prop}:b1 (.bool a) K=K a:=(rfl)
def CL (x:AV) (K:Int->Prop):Prop:=match x with
 |.ae=>K 0
 |.emp=>K 0
 |.au _ l=>K l.length
 |.sl _ _ _ n=>K n
 |_=>False
theorem YT{K:Int->Prop}:CL .ae K=K 0:=(rfl)
theorem YU{K:Int->Prop}:CL .emp K=K 0:=(rfl)
theorem YV{q:Bool}{l:List AV}{K:Int->Prop}:CL (.au q l) K=K l.length:=(rfl)
theorem YW{b u o n:Nat}{K:Int->Prop}:CL (.sl b u o n) K=K n:=(rfl)
def MX (x:AV) (off:Nat) (k:Option Nat) (K:AV->Prop):Prop:=match x with
 |.ptr b u o=>K (.ptr b u (o+off))
 |.aV v=>pT v.cells off k (λy=>K (.aV y)) .k
 |_=>False
theorem YX{b u o off:Nat}{k:Option Nat}{K:AV->Prop}:MX (.ptr b u o) off k K=K (.ptr b u (o+off)):=(rfl)
theorem YY{v:AV}{off:Nat}{k:Option Nat}{K:AV->Prop}:MX (.aV v) off k K=pT v.cells off k (λy=>K (.aV y)) .k:=(rfl)
def MY (x:AV) (K:AV->Prop):Prop:=match x with
 |.ptr b u o=>K (.ptr b u o)
 |.aV v=>K (.aV v)
 |_=>False
theorem YZ{b u o:Nat}{K:AV->Prop}:MY (.ptr b u o) K=K (.ptr b u o):=(rfl)
theorem Y0{v:AV}{K:AV->Prop}:MY (.aV v) K=K (.aV v):=(rfl)
def qt (x:AV) (k:Option Nat) (K:AV->Prop):Prop:=match x with
 |.aV v=>match k,v with
  |none,.agg _=>False
  |none,v=>K v
  |some n,.agg l=>l.length=n/\K (.agg l)
  |some _,_=>False
 |_=>False
theorem Y1{n:Int}{K:AV->Prop}:qt (.aV (.int n)) none K=K (.int n):=(rfl)
theorem Y2{n:Bool}{K:AV->Prop}:qt (.aV (.bool n)) none K=K (.bool n):=(rfl)
theorem Y3{n:List UInt8}{K:AV->Prop}:qt (.aV (.str n)) none K=K (.str n):=(rfl)
theorem Y4{q:Bool}{l:List AV}{K:AV->Prop}:qt (.aV (.au q l)) none K=K (.au q l):=(rfl)
theorem Y5{K:AV->Prop}:qt (.aV .ae) none K=K .ae:=(rfl)
theorem Y6{v:AV}{K:AV->Prop}:qt (.aV (.aV v)) none K=K (.aV v):=(rfl)
theorem Y7{f:Nat}{l:List AV}{K:AV->Prop}:qt (.aV (.func f l)) none K=K (.func f l):=(rfl)
theorem Y8{f:Nat}{l:AV}{K:AV->Prop}:qt (.aV (.iface f l)) none K=K (.iface f l):=(rfl)
theorem Y9{n:Nat}{l:List AV}{K:AV->Prop}:qt (.aV (.agg l)) (some n) K=(l.length=n/\K (.agg l)):=(rfl)
def fl1 (x:AV) (off:Nat) (k:Option Nat) (K:AV->Prop):Prop:=match x with
 |.agg l=>pT l off k K .k
 |_=>False
theorem Za{l:List AV}{off:Nat}{k:Option Nat}{K:AV->Prop}:fl1 (.agg l) off k K=pT l off k K .k:=(rfl)
def Uq (x:AV) (i:Nat) (K:AV->Prop):Prop:=match x with
 |.bF l=>oK (lQ l i) K .k
 |_=>False
theorem Zc{l:List AV}{i:Nat}{K:AV->Prop}:Uq (.bF l) i K=oK (lQ l i) K .k:=(rfl)
def qJ (σ:List ah) (x:AV) (K:Bool->Prop):Prop:=match x with
 |.ae=>K true
 |.au true _=>K false
 |.au false (_::_)=>K false
 |.sl b u _ _=>aL (upto σ b u) λB=>match B.st with
  |.live=>K false
  |_=>False
 |_=>False
theorem Zd{K:Bool->Prop}:qJ σ .ae K=K true:=(rfl)
theorem Ze{l:List AV}{K:Bool->Prop}:qJ σ (.au true l) K=K false:=(rfl)
theorem Zg{x:AV}{l:List AV}{K:Bool->Prop}:qJ σ (.au false (x::l)) K=K false:=(rfl)
theorem Zh{b u o n:Nat}{K:Bool->Prop}:qJ σ (.sl b u o n) K=bk (ak σ b) u (λ_ _ st=>st = .live/\K false) .k:=by
 show aL (upto σ b u) _=_;rw[show(λB:ah=>match B.st with | .live=>K false|_=>False)=λB=>B.st = .live/\K false from by funext B;cases B.st<;>simp,tj]
def Ur (x i:AV) (st:Nat) (K:AV->Prop):Prop:=match x,i with
 |.au _ l,.int n=>xK l n (λy=>y.cells.length=st/\K (.aV y)) .k
 |.sl b u off len,.int n=>bj (0<=n/\n<len) (K (.ptr b u (off+n.toNat*st)))
 |_,_=>False
theorem Zi{q:Bool}{l:List AV}{n:Int}{st:Nat}{K:AV->Prop}:Ur (.au q l) (.int n) st K=xK l n (λy=>y.cells.length=st/\K (.aV y)) .k:=(rfl)
theorem Zj{b u off len:Nat}{n:Int}{st:Nat}{K:AV->Prop}:Ur (.sl b u off len) (.int n) st K=bj (0<=n/\n<len) (K (.ptr b u (off+n.toNat*st))):=(rfl)
def Us (x i:AV) (n:Nat) (k:Option Nat) (K:AV->Prop):Prop:=match x,i with
 |.ptr b u o,.int j=>bj (0<=j/\j<n) (K (.ptr b u (o+j.toNat*aE k)))
 |.aV v,.int j=>bj (0<=j/\j<n) (pT v.cells (j.toNat*aE k) k (λy=>K (.aV y)) .k)
 |_,_=>False
theorem Zk{b u o n:Nat}{j:Int}{k:Option Nat}{K:AV->Prop}:Us (.ptr b u o) (.int j) n k K=bj (0<=j/\j<n) (K (.ptr b u (o+j.toNat*aE k))):=(rfl)
theorem Zl{v:AV}{n:Nat}{j:Int}{k:Option Nat}{K:AV->Prop}:Us (.aV v) (.int j) n k K=bj (0<=j/\j<n) (pT v.cells (j.toNat*aE k) k (λy=>K (.aV y)) .k):=(rfl)
def MZ (x:AV) (K:Nat->List AV->Prop):Prop:=match x with
 |.func f a=>K f a
 |_=>False
theorem Zm{f:Nat}{a:List AV}{K:Nat->List AV->Prop}:MZ (.func f a) K=K f a:=(rfl)
def Ut (x:AV) (a:List (Nat×Nat)) (K:Nat->AV->Prop):Prop:=match x with
 |.iface t v=>match eA a t with
  |some f=>K f v
  |none=>False
 |_=>False
theorem Zn{t:Nat}{v:AV}{a:List (Nat×Nat)}{K:Nat->AV->Prop}:Ut (.iface t v) a K=oK (eA a t) (λf=>K f v) .k:=by cases h:eA a t<;>simp[Ut,h,oK,aL]
def i1 (x:AV) (K:Int->Prop):Prop:=match x with
 |.int a=>K a
 |.ik _ a=>K a
 |_=>False
theorem Zo{a:Int}{K:Int->Prop}:i1 (.int a) K=K a:=(rfl)
theorem CM{k:Nat}{a:Int}{K:Int->Prop}:i1 (.ik k a) K=K a:=(rfl)
def st1 (σ:List ah) (p x:AV) (n:Nat) (K:List ah->Prop):Prop:=match p with
 |.ptr b u o=>aL (upto σ b u) λB=>(x.cells.length=n/\B.st.isLive=true/\bg x=true)/\xx B.cells o x.cells λcs=>K (ar σ b ⟨B.k,cs,B.st⟩)
 |_=>False
theorem Zp{b u o n:Nat}{x:AV}{K:List ah->Prop}:st1 σ (.ptr b u o) x n K=bk (ak σ b) u (λk cs st=>(x.cells.length=n/\st.isLive=true/\bg x=true)/\pU cs o x.cells (λcs=>nC cs (λcs=>nB (ar σ b ⟨k,cs,st⟩) K .k) .k) .k) .k:=tj
variable{x:Rf}
theorem Zq:bY L vars (.mv x) false env aC σ K=K (rv vars env x::env) aC σ:=(rfl)
variable{y:Rf}
theorem Zr{o:zf}:bY L vars (.bin o x y) false env aC σ K=ii (rv vars env x) (rv vars env y) λa b=>u9 o a b λv=>K (v::env) aC σ:=(rfl)
theorem Zs{n:Bool}:bY L vars (.beq n x y) false env aC σ K=bb (rv vars env x) (rv vars env y) λa b=>K (.bool ((a==b) != n)::env) aC σ:=by
 show aL (ev L σ σ.length [] (rv vars env) (.beq n x y)) _=_;simp only[ev,bb];generalize rv vars env x=p;generalize rv vars env y=q;cases p<;>cases q<;>rfl
theorem Zt:bY L vars (.not x) false env aC σ K=b1 (rv vars env x) λa=>K (.bool (!a)::env) aC σ:=by
 show aL (ev L σ σ.length [] (rv vars env) (.not x)) _=_;simp only[ev,b1];generalize rv vars env x=p;cases p<;>rfl
variable{c:Rf}
theorem Zu:bY L vars (.pick c x y) false env aC σ K=b1 (rv vars env c) λa=>K ((match a with|true=>rv vars env x|false=>rv vars env y)::env) aC σ:=by
 show aL (ev L σ σ.length [] (rv vars env) (.pick c x y)) _=_;simp only[ev,b1];cases h:rv vars env c with
 |bool b=>cases b<;>rfl
 |_=>rfl
theorem Zv:bY L vars (.len x) false env aC σ K=CL (rv vars env x) λa=>K (.int a::env) aC σ:=by
 show aL (ev L σ σ.length [] (rv vars env) (.len x)) _=_;simp only[ev,CL];generalize rv vars env x=p;cases p<;>rfl
theorem Zw:bY L vars (.mx true x y) false env aC σ K=ii (rv vars env x) (rv vars env y) λa b=>K (.int (max a b)::env) aC σ:=by
 show aL (ev L σ σ.length [] (rv vars env) (.mx true x y)) _=_;simp only[ev,ii];generalize rv vars env x=p;generalize rv vars env y=q;cases p<;>cases q<;>try rfl
 rename_i a b;show K (.int (if a<b then b else a)::env) aC σ=K (.int (max a b)::env) aC σ
 rw[show(if a<b then b else a)=max a b by rw[Int.max_def];split<;>split<;>omega]
theorem Zx:bY L vars (.mx false x y) false env aC σ K=ii (rv vars env x) (rv vars env y) λa b=>K (.int (min a b)::env) aC σ:=by
 show aL (ev L σ σ.length [] (rv vars env) (.mx false x y)) _=_;simp only[ev,ii];generalize rv vars env x=p;generalize rv vars env y=q;cases p<;>cases q<;>try rfl
 rename_i a b;show K (.int (if b<a then b else a)::env) aC σ=K (.int (min a b)::env) aC σ
 rw[show(if b<a then b else a)=min a b by rw[Int.min_def];split<;>split<;>omega]
variable{off:Nat}
theorem Zy{k:Option Nat}:bY L vars (.dB x off k) false env aC σ K=MX (rv vars env x) off k λa=>K (a::env) aC σ:=by
 show aL (ev L σ σ.length [] (rv vars env) (.dB x off k)) _=_;simp only[ev,MX];generalize rv vars env x=p;cases p<;>try rfl
 rename_i v;dsimp only[pT];cases part v.cells off k<;>rfl
variable{i:Rf}{st:Nat}
theorem Zz:bY L vars (.bd x i st) false env aC σ K=Ur (rv vars env x) (rv vars env i) st λv=>K (v::env) aC σ:=(rfl)
variable{n:Nat}
theorem ZA{k:Option Nat}:bY L vars (.fg x i n k) false env aC σ K=Us (rv vars env x) (rv vars env i) n k λv=>K (v::env) aC σ:=(rfl)
theorem ZC:bY L vars (.nM x) false env aC σ K=MY (rv vars env x) λa=>K (a::env) aC σ:=by
 show aL (ev L σ σ.length [] (rv vars env) (.nM x)) _=_;simp only[ev,MY];generalize rv vars env x=p;cases p<;>rfl
theorem nW{a:Type}{c:Prop} [Decidable c]{x:a}{K:a->Prop}:aL (if c then some x else none) K=bj c (K x):=by
 by_cases h:c<;>simp[h,aL,bj]
theorem ZD:bY L vars (.eR x) false env aC σ K=bj (aI (rv vars env x)=true) (K (.aV (rv vars env x)::env) aC σ):=by
 show aL (ev L σ σ.length [] (rv vars env) (.eR x)) _=_;simp only[ev,nW,dJ]
theorem ZE{n:Nat}:bY L vars (.ff n) false env aC σ K=K (.aF::env) aC σ:=(rfl)
variable{p:Rf}
theorem ZF:bY L vars (.iF p x n) false env aC σ K=bj (aI (rv vars env x)=true/\(rv vars env x).cells.length=n) (K (.aV (rv vars env x)::env) aC σ):=by
 show aL (ev L σ σ.length [] (rv vars env) (.iF p x n)) _=_;simp only[ev,nW,dJ,aA,cF]
variable{z:List AV}
theorem ZG{ps:List (Nat×Nat×Rf)}:bY L vars (.ie z ps) false env aC σ K=aL (gx z (ps.map λp=>(p.1,p.2.1,rv vars env p.2.2))) λl=>K (.agg l::env) aC σ:=by
 show aL (ev L σ σ.length [] (rv vars env) (.ie z ps)) _=_;simp only[ev];cases gx z (ps.map λp=>(p.1,p.2.1,rv vars env p.2.2))<;>rfl
theorem ZH{i:Nat}:bY L vars (.ext x i) false env aC σ K=Uq (rv vars env x) i λa=>K (a::env) aC σ:=by
 show aL (ev L σ σ.length [] (rv vars env) (.ext x i)) _=_;simp only[ev,Uq];generalize rv vars env x=p;cases p<;>try rfl
 rename_i l;dsimp only[oK];cases lQ l i<;>rfl
theorem ZI{f:Nat}{cs:List Rf}:bY L vars (.zU f cs) false env aC σ K=K (.func f (cs.map (rv vars env))::env) aC σ:=(rfl)
theorem ZJ{t:Nat}:bY L vars (.JQ t x) false env aC σ K=K (.iface t (rv vars env x)::env) aC σ:=(rfl)
variable{ps:List Rf}
theorem ZK:bY L vars (.bD ps st) false env aC σ K=bj (ax (ps.map (rv vars env))=true/\fitAll st (ps.map (rv vars env))=true) (K (.au false (ps.map (rv vars env))::env) aC σ):=by
 show aL (ev L σ σ.length [] (rv vars env) (.bD ps st)) _=_;simp only[ev,nW,dJ,aA]
theorem ZL:bY L vars (.cp ps st) false env aC σ K=bj (fitAll st (ps.map (rv vars env))=true) (K (.arr (ps.map (rv vars env))::env) aC σ):=by
 show aL (ev L σ σ.length [] (rv vars env) (.cp ps st)) _=_;simp only[ev,nW,dJ]
variable{args:List Rf}
theorem ZM{f:Nat}:bY L vars (.kl f args) false env aC σ K=qs L f (args.map (rv vars env)) λv=>K (v::env) aC σ:=(rfl)
theorem ZN:bY L vars (.kR x args) false env aC σ K=MZ (rv vars env x) λf a=>qs L f (args.map (rv vars env)++a) λv=>K (v::env) aC σ:=(rfl)
theorem ZO{a:List (Nat×Nat)}:bY L vars (.inv x a args) false env aC σ K=Ut (rv vars env x) a λf v=>qs L f (v::args.map (rv vars env)) λv=>K (v::env) aC σ:=(rfl)
theorem ZP{n:Bool}:bY L vars (.mP n x) false env aC σ K=qJ σ (rv vars env x) λa=>K (.bool (a != n)::env) aC σ:=by
 show aL (ev L σ σ.length [] (rv vars env) (.mP n x)) _=_;cases h:rv vars env x with
 |ae=>simp[ev,h,qJ,aL,dJ]
 |au q l=>
  cases q with
  |true=>simp[ev,h,qJ,aL,dJ]
  |false=>cases l<;>simp[ev,h,qJ,aL,dJ]
 |sl b u o n=>
  simp only[ev,h,qJ];cases upto σ b u with
  |none=>rfl
  |some B=>obtain⟨q,cs,st⟩:=B;cases st<;>simp[aL,dJ]
 |_=>simp[ev,h,qJ,aL]
theorem ZQ{n:Bool}:bY L vars (.mP n x) true env aC σ K=qJ aC (rv vars env x) λa=>K (.bool (a != n)::env) aC σ:=by
 show aL (ev L aC σ.length [] (rv vars env) (.mP n x)) _=_;cases h:rv vars env x with
 |ae=>simp[ev,h,qJ,aL,dJ]
 |au q l=>
  cases q with
  |true=>simp[ev,h,qJ,aL,dJ]
  |false=>cases l<;>simp[ev,h,qJ,aL,dJ]
 |sl b u o n=>
  simp only[ev,h,qJ];cases upto aC b u with
  |none=>rfl
  |some B=>obtain⟨q,cs,st⟩:=B;cases st<;>simp[aL,dJ]
 |_=>simp[ev,h,qJ,aL]
theorem ZR{k:Option Nat}:bY L vars (.cK x k) false env aC σ K=qt (rv vars env x) k λa=>K (a::env) aC σ:=by
 show aL (ev L σ σ.length [] (rv vars env) (.cK x k)) _=_;simp only[ev,qt];generalize rv vars env x=p;cases p<;>try rfl
 rename_i v;cases k with
 |none=>cases v<;>rfl
 |some n=>
  cases v with
  |agg l=>by_cases h:l.length=n<;>simp[h,aL,dJ]
  |_=>rfl
def ld1 (σ:List ah) (x:AV) (k:Option Nat) (K:AV->Prop):Prop:=match x with
 |.aV v=>qt (.aV v) k K
 |.ptr b u o=>aL (upto σ b u) λB=>B.st.isLive=true/\xu B.cells o k K
 |_=>False
theorem ZS{k:Option Nat}:bY L vars (.ld x k) false env aC σ K=ld1 σ (rv vars env x) k λa=>K (a::env) aC σ:=by
 show o5 L σ σ.length (rv vars env) (.ld x k) _=_;cases h:rv vars env x with
 |aV v=>cases k<;>cases v<;>simp[o5,h,ld1,qt,dJ]
 |ptr b u o=>simp[o5,h,ld1,dJ]
 |_=>simp[o5,h,ld1]
theorem ZT{k:Option Nat}:bY L vars (.ld x k) true env aC σ K=ld1 aC (rv vars env x) k λa=>K (a::env) aC σ:=by
 show o5 L aC σ.length (rv vars env) (.ld x k) _=_;cases h:rv vars env x with
 |aV v=>cases k<;>cases v<;>simp[o5,h,ld1,qt,dJ]
 |ptr b u o=>simp[o5,h,ld1,dJ]
 |_=>simp[o5,h,ld1]
theorem ZU:bY L vars (.CC x) false env aC σ K=i1 (rv vars env x) λn=>oZ n λv=>K (v::env) aC σ:=(rfl)
def ZV (σ:List ah) (x:AV) (a:Int) (b:Option Int) (st:Nat) (K:AV->Prop):Prop:=match x with
 |.au e l=>bj ((0<=a/\a<=b.getD l.length/\b.getD l.length<=l.length)/\fR st l=true) (K (.au (e&&decide (0<l.length)) ((l.drop a.toNat).take ((b.getD l.length).toNat-a.toNat))))
 |.sl d u off len=>aL (upto σ d u) λB=>bj ((0<=a/\a<=b.getD len/\b.getD len<=len)/\aE B.k=st) (K (.sl d u (off+a.toNat*st) ((b.getD len).toNat-a.toNat)))
 |_=>False
variable{lo hi:Option Rf}
theorem ZW:bY L vars (.pI x lo hi st) false env aC σ K=aL (sW (rv vars env) lo) λa=>aL (sX (rv vars env) hi) λb=>ZV σ (rv vars env x) a b st λv=>K (v::env) aC σ:=by
 show o5 L σ σ.length (rv vars env) (.pI x lo hi st) _=_;unfold o5;simp only;cases sW (rv vars env) lo with
 |none=>rfl
 |some a=>cases sX (rv vars env) hi with
  |none=>rfl
  |some b=>rfl
theorem ZX:bY L vars (.pI x lo hi st) true env aC σ K=aL (sW (rv vars env) lo) λa=>aL (sX (rv vars env) hi) λb=>ZV aC (rv vars env x) a b st λv=>K (v::env) aC σ:=by
 show o5 L aC σ.length (rv vars env) (.pI x lo hi st) _=_;unfold o5;simp only;cases sW (rv vars env) lo with
 |none=>rfl
 |some a=>cases sX (rv vars env) hi with
  |none=>rfl
  |some b=>rfl
theorem ZY{f:Nat}:bY L vars (.qN f args) false env aC σ K=aL (bI (λx=>view σ false vd (rv vars env x)) args) λvs=>LX L f vs [] λv cG =>aL (bV cG true v) λu=>K (u::env) aC σ:=(rfl)
theorem ZZ{f:Nat}:bY L vars (.qN f args) true env aC σ K=aL (bI (λx=>view aC false vd (rv vars env x)) args) λvs=>LX L f vs [] λv cG =>aL (bV cG true v) λu=>K (u::env) aC σ:=(rfl)
theorem Z0{f:Nat}:bY L vars (.can f args) false env aC σ K=bj (ax (args.map (rv vars env))=true) (LX L f (args.map (rv vars env)) [] λv cG =>K (iW σ.length v::env) σ (σ++cG.map (gm σ.length))):=(rfl)
theorem Z1{k:Option Nat}:bY L vars (.sJ x k) false env aC σ K=bj ((rv vars env x).cells.length=aE k/\bg (rv vars env x)=true) (K (.ptr σ.length (aE k) 0::env) σ (σ ++ [⟨k,(rv vars env x).cells,.live⟩])):=by
 show aL (ev L σ σ.length [] (rv vars env) (.sJ x k)) _=_;simp only[ev,nW,dJ,fK,aA,cF]
theorem Z2{k:Option Nat}:bY L vars (.ks z k) false env aC σ K=bj (z.length=aE k) (K (.ptr σ.length (aE k) 0::env) σ (σ ++ [⟨k,z,.live⟩])):=by
 show aL (ev L σ σ.length [] (rv vars env) (.ks z k)) _=_;simp only[ev,nW,dJ,fK,cF]
theorem Z3{n:Rf}{k:Option Nat}:bY L vars (.iH n c z k) false env aC σ K=ii (rv vars env n) (rv vars env c) λn c=>bj (0<=n/\n<=c/\c<=dz/\z.length=aE k) (K (.sl σ.length (dI c.toNat z).length 0 n.toNat::env) σ (σ ++ [⟨k,dI c.toNat z,.live⟩])):=(rfl)
theorem Z4{k:Option Nat}:bY L vars (.lZ ps k) false env aC σ K=bj (fitAll (aE k) (ps.map (rv vars env))=true) (K (.sl σ.length ((ps.map (rv vars env)).flatMap AV.cells).length 0 ps.length::env) σ (σ ++ [⟨k,(ps.map (rv vars env)).flatMap AV.cells,.live⟩])):=by
 show aL (ev L σ σ.length [] (rv vars env) (.lZ ps k)) _=_;simp only[ev,nW,dJ,fK]
theorem Z5{k:Option Nat}:bY L vars (.nl k) false env aC σ K=K (.sl σ.length 0 0 0::env) σ (σ ++ [⟨k,[],.jq⟩]):=(rfl)
def Uu (σ:List ah) (s:AV) (k:Option Nat) (n:Nat) (cs:List AV) (K:AV->List ah->Prop):Prop:=match s with
 |.sl b u off len=>aL (upto σ b u) λB=>bj (off=0/\u=len*aE k/\len+n<=dz/\sz B.k k=true) ((n=0->K (.sl b u off len) σ)/\(n ≠ 0->cs.length ≠ 0/\K (.sl b (u+cs.length) 0 (len+n)) (rn σ b cs)))
 |.ae=>(n=0->K .ae σ)/\(n ≠ 0->n<=dz/\K (.sl σ.length cs.length 0 n) (σ ++ [⟨k,cs,.live⟩]))
 |.emp=>(n=0->K .emp σ)/\(n ≠ 0->n<=dz/\K (.sl σ.length cs.length 0 n) (σ ++ [⟨k,cs,.live⟩]))
 |.arr l=>(n=0->K (if ax l then .au true l else .arr l) σ)/\(n ≠ 0->(fitAll (aE k) l=true/\l.length+n<=dz)/\K (.sl σ.length (l.flatMap AV.cells++cs).length 0 (l.length+n)) (σ ++ [⟨k,l.flatMap AV.cells++cs,.live⟩]))
 |_=>False
variable{b u len:Nat}{cs:List AV}
theorem Z6{k:Option Nat}{K:AV->List ah->Prop}:Uu σ (.sl b u off len) k n cs K=aL (upto σ b u) λB=>bj (off=0/\u=len*aE k/\len+n<=dz/\sz B.k k=true) ((n=0->K (.sl b u off len) σ)/\(n ≠ 0->cs.length ≠ 0/\K (.sl b (u+cs.length) 0 (len+n)) (rn σ b cs))):=(rfl)
variable{s:Rf}
theorem Z7{k:Option Nat}:bY L vars (.app s x k) false env aC σ K=aL (aJ σ k (rv vars env x)) λp=>Uu σ (rv vars env s) k p.1 p.2 λv τ=>K (v::env) σ τ:=by
 show o5 L σ σ.length (rv vars env) (.app s x k) _=_;unfold o5;simp only;cases aJ σ k (rv vars env x)with
 |none=>rfl
 |some p=>
  obtain⟨n,cs⟩:=p;cases h:rv vars env s<;>rfl
theorem Z8:bY L vars (.st p x n) false env aC σ K=st1 σ (rv vars env p) (rv vars env x) n λτ=>K (.aF::env) [] τ:=(rfl)
def Uv (σ:List ah) (s:AV) (k:Option Nat) (n:Nat) (cs:List AV) (K:AV->List ah->Prop):Prop:=match s with
 |.sl b u off len=>aL (upto σ b u) λB=>bj (off=0/\len+n<=dz/\sz B.k k=true/\(n ≠ 0->cs.length ≠ 0)) ((n=0->K (.sl b u off len) σ)/\(n ≠ 0->u=len*aE k->K (.sl b (u+cs.length) 0 (len+n)) (ar σ b ⟨B.k,B.cells++cs,.live⟩))/\(n ≠ 0->u ≠ len*aE k->(len+n)*aE k<=u/\K (.sl b u 0 (len+n)) (ar σ b ⟨B.k,putAt B.cells (len*aE k) cs,B.st⟩)))
 |.ae=>(n=0->K .ae σ)/\(n ≠ 0->n<=dz/\K (.sl σ.length cs.length 0 n) (σ ++ [⟨k,cs,.live⟩]))
 |.emp=>(n=0->K .emp σ)/\(n ≠ 0->n<=dz/\K (.sl σ.length cs.length 0 n) (σ ++ [⟨k,cs,.live⟩]))
 |.arr l=>(n=0->K (if ax l then .au true l else .arr l) σ)/\(n ≠ 0->(fitAll (aE k) l=true/\l.length+n<=dz)/\K (.sl σ.length (l.flatMap AV.cells++cs).length 0 (l.length+n)) (σ ++ [⟨k,l.flatMap AV.cells++cs,.live⟩]))
 |_=>False
theorem Z9{k:Option Nat}{K:AV->List ah->Prop}:Uv σ (.sl b u off len) k n cs K=aL (upto σ b u) λB=>bj (off=0/\len+n<=dz/\sz B.k k=true/\(n ≠ 0->cs.length ≠ 0)) ((n=0->K (.sl b u off len) σ)/\(n ≠ 0->u=len*aE k->K (.sl b (u+cs.length) 0 (len+n)) (ar σ b ⟨B.k,B.cells++cs,.live⟩))/\(n ≠ 0->u ≠ len*aE k->(len+n)*aE k<=u/\K (.sl b u 0 (len+n)) (ar σ b ⟨B.k,putAt B.cells (len*aE k) cs,B.st⟩))):=(rfl)
theorem aaa{k:Option Nat}:bY L vars (.cu s x k) false env aC σ K=aL (aJ σ k (rv vars env x)) λp=>Uv σ (rv vars env s) k p.1 p.2 λv τ=>K (v::env) [] τ:=by
 show xz L σ (rv vars env) (.cu s x k) (λv cG =>K (v::env) [] cG)=_;unfold xz;simp only;cases aJ σ k (rv vars env x)with
 |none=>rfl
 |some p=>
  obtain⟨n,cs⟩:=p;cases h:rv vars env s<;>rfl
theorem aab{f:Nat}:bY L vars (.eZ f args) false env aC σ K=LX L f (args.map (rv vars env)) σ λv τ=>K (v::env) [] τ:=(rfl)
theorem aac:bY L vars (.kB x args) false env aC σ K=MZ (rv vars env x) λf a=>LX L f (args.map (rv vars env)++a) σ λv τ=>K (v::env) [] τ:=(rfl)
end
section
variable{L:CE}{vars env:List AV}{aC σ:List ah}{K:List AV->List ah->List ah->Prop}
theorem aad{x:Rf}:bY L vars (.mv x) false env aC σ K=nx (rv vars env x) (λv=>K (v::env) aC σ) .k:=Zq
theorem M0{o:zf}{x y:Rf}:bY L vars (.bin o x y) false env aC σ K=nx (rv vars env x) (λx=>nx (rv vars env y) (λy=>ii x y λa b=>u9 o a b λv=>K (v::env) aC σ) .k) .k:=Zr
theorem M1{n:Bool}{x y:Rf}:bY L vars (.beq n x y) false env aC σ K=nx (rv vars env x) (λx=>nx (rv vars env y) (λy=>bb x y λa b=>K (.bool ((a==b) != n)::env) aC σ) .k) .k:=Zs
theorem M3{x:Rf}:bY L vars (.not x) false env aC σ K=nx (rv vars env x) (λx=>b1 x λa=>K (.bool (!a)::env) aC σ) .k:=Zt
def pk (b:Bool) (x y:AV):AV:=match b with
 |true=>x
 |false=>y
theorem aae{x y:AV}:pk true x y=x:=(rfl)
theorem aaf{x y:AV}:pk false x y=y:=(rfl)
variable{b:Bool}
theorem aag{x y:Int}:pk b (.int x) (.int y) = .int (if b=true then x else y):=by cases b<;>rfl
theorem aah{x y:Bool}:pk b (.bool x) (.bool y) = .bool (if b=true then x else y):=by cases b<;>rfl
def pq (b:Bool) (x y:AV) (K:AV->Prop) (_:Tk K):Prop:=K (pk b x y)
theorem M4{x y:AV}{K:AV->Prop}{t:Tk K}:pq true x y K t=nx x K .k:=(rfl)
theorem M5{x y:AV}{K:AV->Prop}{t:Tk K}:pq false x y K t=nx y K .k:=(rfl)
theorem M6{b:Bool}{x y:Int}{K:AV->Prop}{t:Tk K}:pq b (.int x) (.int y) K t=K (.int (if b=true then x else y)):=by unfold pq;rw[aag]
theorem M7{b:Bool}{x y:Bool}{K:AV->Prop}{t:Tk K}:pq b (.bool x) (.bool y) K t=K (.bool (if b=true then x else y)):=by unfold pq;rw[aah]
theorem aai{b:Bool}{x y:AV}{K:AV->Prop}{t:Tk K}:pq b x y K t=K (pk b x y):=(rfl)
theorem aaj{c x y:Rf}:bY L vars (.pick c x y) false env aC σ K=nx (rv vars env c) (λc=>b1 c λa=>pq a (rv vars env x) (rv vars env y) (λv=>K (v::env) aC σ) .k) .k:=Zu
theorem M8{x:Rf}:bY L vars (.len x) false env aC σ K=nx (rv vars env x) (λx=>CL x λa=>K (.int a::env) aC σ) .k:=Zv
theorem M9{x y:Rf}:bY L vars (.mx true x y) false env aC σ K=nx (rv vars env x) (λx=>nx (rv vars env y) (λy=>ii x y λa b=>K (.int (max a b)::env) aC σ) .k) .k:=Zw
theorem Na{x y:Rf}:bY L vars (.mx false x y) false env aC σ K=nx (rv vars env x) (λx=>nx (rv vars env y) (λy=>ii x y λa b=>K (.int (min a b)::env) aC σ) .k) .k:=Zx
theorem Nb{x:Rf}{off:Nat}{k:Option Nat}:bY L vars (.dB x off k) false env aC σ K=nx (rv vars env x) (λx=>MX x off k λa=>K (a::env) aC σ) .k:=Zy
theorem Nc{x i:Rf}{st:Nat}:bY L vars (.bd x i st) false env aC σ K=nx (rv vars env x) (λx=>nx (rv vars env i) (λi=>Ur x i st λv=>K (v::env) aC σ) .k) .k:=Zz
theorem aak{x i:Rf}{n:Nat}{k:Option Nat}:bY L vars (.fg x i n k) false env aC σ K=nx (rv vars env x) (λx=>nx (rv vars env i) (λi=>Us x i n k λv=>K (v::env) aC σ) .k) .k:=ZA
theorem Nd{x:Rf}:bY L vars (.nM x) false env aC σ K=nx (rv vars env x) (λx=>MY x λa=>K (a::env) aC σ) .k:=ZC
theorem Nf{x:Rf}:bY L vars (.eR x) false env aC σ K=nx (rv vars env x) (λx=>bj (aI x=true) (K (.aV x::env) aC σ)) .k:=ZD
theorem Ng{p x:Rf}{n:Nat}:bY L vars (.iF p x n) false env aC σ K=nx (rv vars env x) (λx=>bj (aI x=true/\x.cells.length=n) (K (.aV x::env) aC σ)) .k:=ZF
theorem Nh{z:List AV}{ps:List (Nat×Nat×Rf)}:bY L vars (.ie z ps) false env aC σ K=oK (gx z (gB (λp=>(p.1,p.2.1,rv vars env p.2.2)) ps)) (λl=>nL l (λl=>K (.agg l::env) aC σ) .k) .k:=by rw[<-gS];exact ZG
theorem Ni{x:Rf}{i:Nat}:bY L vars (.ext x i) false env aC σ K=nx (rv vars env x) (λx=>Uq x i λa=>nx a (λa=>K (a::env) aC σ) .k) .k:=ZH
theorem Nj{f:Nat}{cs:List Rf}:bY L vars (.zU f cs) false env aC σ K=nL (gB (rv vars env) cs) (λl=>K (.func f l::env) aC σ) .k:=by rw[<-gS];exact ZI
theorem Nk{t:Nat}{x:Rf}:bY L vars (.JQ t x) false env aC σ K=nx (rv vars env x) (λx=>K (.iface t x::env) aC σ) .k:=ZJ
theorem aal{ps:List Rf}{st:Nat}:bY L vars (.bD ps st) false env aC σ K=nL (gB (rv vars env) ps) (λl=>bj (ax l=true/\fitAll st l=true) (K (.au false l::env) aC σ)) .k:=by rw[<-gS];exact ZK
theorem aam{ps:List Rf}{st:Nat}:bY L vars (.cp ps st) false env aC σ K=nL (gB (rv vars env) ps) (λl=>bj (fitAll st l=true) (K (.arr l::env) aC σ)) .k:=by rw[<-gS];exact ZL
def cl (L:CE) (f:Nat) (args:List AV) (K:AV->Prop) (_:Tk K):Prop:=qs L f args K
theorem Nl{f:Nat}{args:List AV}{K:AV->Prop}{t:Tk K}:cl L f args K t=(ax args=true/\nL (gB wk args) (λas=>oK (wj L f as) (λv=>nx v K .k) .k) .k):=by rw[<-gS];rfl
theorem Nn{f:Nat}{args:List Rf}:bY L vars (.kl f args) false env aC σ K=nL (gB (rv vars env) args) (λas=>cl L f as (λv=>K (v::env) aC σ) .k) .k:=by rw[<-gS];exact ZM
theorem aan{x:Rf}{args:List Rf}:bY L vars (.kR x args) false env aC σ K=nx (rv vars env x) (λx=>MZ x λf a=>nL (gj (gB (rv vars env) args) a) (λas=>cl L f as (λv=>K (v::env) aC σ) .k) .k) .k:=by unfold nx nL cl;simp only[<-gS,<-fT];exact ZN
theorem No{x:Rf}{a:List (Nat×Nat)}{args:List Rf}:bY L vars (.inv x a args) false env aC σ K=nx (rv vars env x) (λx=>Ut x a λf v=>nL (v::gB (rv vars env) args) (λas=>cl L f as (λv=>K (v::env) aC σ) .k) .k) .k:=by unfold nx nL cl;simp only[<-gS];exact ZO
theorem Np{n:Bool}{x:Rf}:bY L vars (.mP n x) false env aC σ K=nx (rv vars env x) (λx=>qJ σ x λa=>K (.bool (a != n)::env) aC σ) .k:=ZP
theorem aao{n:Bool}{x:Rf}:bY L vars (.mP n x) true env aC σ K=nx (rv vars env x) (λx=>qJ aC x λa=>K (.bool (a != n)::env) aC σ) .k:=ZQ
theorem Nq{x:Rf}{k:Option Nat}:bY L vars (.cK x k) false env aC σ K=nx (rv vars env x) (λx=>qt x k λa=>K (a::env) aC σ) .k:=ZR
def Nr (σ:List ah) (x:AV) (k:Option Nat) (K:AV->Prop):Prop:=match x with
 |.aV v=>nx v (λv=>qt (.aV v) k K) .k
 |.ptr b u o=>bk (ak σ b) u (λ_ cs st=>st.isLive=true/\pT cs o k (λv=>nx v K .k) .k) .k
 |_=>False
theorem aap{v:AV}{k:Option Nat}{K:AV->Prop}:Nr σ (.aV v) k K=nx v (λv=>qt (.aV v) k K) .k:=(rfl)
theorem aaq{b u o:Nat}{k:Option Nat}{K:AV->Prop}:Nr σ (.ptr b u o) k K=bk (ak σ b) u (λ_ cs st=>st.isLive=true/\pT cs o k (λv=>nx v K .k) .k) .k:=(rfl)
variable{x:AV}
theorem Ns{σ:List ah}{k:Option Nat}{K:AV->Prop}:ld1 σ x k K=Nr σ x k K:=by
 cases x with
 |ptr b u o=>exact tj
 |_=>rfl
theorem aar{x:Rf}{k:Option Nat}:bY L vars (.ld x k) false env aC σ K=nx (rv vars env x) (λx=>Nr σ x k λa=>K (a::env) aC σ) .k:=by unfold nx;simp only[<-Ns];exact ZS
theorem Nt{x:Rf}{k:Option Nat}:bY L vars (.ld x k) true env aC σ K=nx (rv vars env x) (λx=>Nr aC x k λa=>K (a::env) aC σ) .k:=by unfold nx;simp only[<-Ns];exact ZT
theorem Nu{x:Rf}:bY L vars (.CC x) false env aC σ K=nx (rv vars env x) (λx=>i1 x λn=>oZ n λv=>K (v::env) aC σ) .k:=ZU
def Nv (σ:List ah) (x:AV) (a:Int) (b:Option Int) (st:Nat) (K:AV->Prop):Prop:=match x with
 |.au e l=>bj ((0<=a/\a<=b.getD l.length/\b.getD l.length<=l.length)/\fR st l=true) (nC ((l.drop a.toNat).take ((b.getD l.length).toNat-a.toNat)) (λl' =>K (.au (e&&decide (0<l.length)) l')) .k)
 |.sl d u off len=>bk (ak σ d) u (λk _ _=>bj ((0<=a/\a<=b.getD len/\b.getD len<=len)/\aE k=st) (K (.sl d u (off+a.toNat*st) ((b.getD len).toNat-a.toNat)))) .k
 |_=>False
theorem aas{d:Bool}{l:List AV}{a:Int}{b:Option Int}{st:Nat}{K:AV->Prop}:Nv σ (.au d l) a b st K=bj ((0<=a/\a<=b.getD l.length/\b.getD l.length<=l.length)/\fR st l=true) (nC ((l.drop a.toNat).take ((b.getD l.length).toNat-a.toNat)) (λl' =>K (.au (d&&decide (0<l.length)) l')) .k):=(rfl)
theorem aat{d u off len:Nat}{a:Int}{b:Option Int}{st:Nat}{K:AV->Prop}:Nv σ (.sl d u off len) a b st K=bk (ak σ d) u (λk _ _=>bj ((0<=a/\a<=b.getD len/\b.getD len<=len)/\aE k=st) (K (.sl d u (off+a.toNat*st) ((b.getD len).toNat-a.toNat)))) .k:=(rfl)
theorem Nw{σ:List ah}{a:Int}{b:Option Int}{st:Nat}{K:AV->Prop}:ZV σ x a b st K=Nv σ x a b st K:=by
 cases x with
 |sl b u o n=>exact tj
 |_=>rfl
def Ev:List AV->List AV->(Bool->Prop)->Prop
 | [],[],K=>K true
 |.int a::xs,.int b::ys,K=>Ev xs ys λc=>K (decide (a=b)&&c)
 |_,_,_=>False
theorem aau{K:Bool->Prop}:Ev [] [] K=K true:=(rfl)
theorem Nx{a b:Int}{xs ys:List AV}{K:Bool->Prop}:Ev (.int a::xs) (.int b::ys) K=Ev xs ys λc=>K (decide (a=b)&&c):=(rfl)
theorem aav:∀{xs ys:List AV}{K:Bool->Prop},aL (eN xs ys) K=Ev xs ys K:=by
 intro xs
 induction xs with
 |nil=>intro ys K;cases ys<;>rfl
 |cons x xs d=>
  intro ys K;cases ys with
  |nil=>cases x<;>rfl
  |cons y ys=>
   cases x<;>try rfl
   cases y<;>try rfl
   rename_i a b;rw[Nx,<-d];simp only[eN];cases eN xs ys<;>rfl
def sq1 (n:Nat) (x y:AV) (K:Bool->Prop):Prop:=match x,y with
 |.agg xs,.agg ys=>xs.length=n/\Ev xs ys K
 |_,_=>False
theorem Ny{n:Nat}{xs ys:List AV}{K:Bool->Prop}:sq1 n (.agg xs) (.agg ys) K=(xs.length=n/\Ev xs ys K):=(rfl)
theorem Nz{g:Bool}{n:Nat}{x y:Rf}:bY L vars (.seq g n x y) false env aC σ K=nx (rv vars env x) (λx=>nx (rv vars env y) (λy=>sq1 n x y λb=>K (.bool (b != g)::env) aC σ) .k) .k:=by
 show aL (ev L σ σ.length [] (rv vars env) (.seq g n x y)) _=_;simp only[nx];generalize d:rv vars env x=p;generalize e:rv vars env y=q;simp only[ev,d,e];cases p<;>try rfl
 cases q<;>try rfl
 rename_i xs ys;rw[Ny,<-aav]
 by_cases a:xs.length=n
 .simp only[ab a,a,true_and]
  cases eN xs ys<;>rfl
 .simp only[aa a]
  exact propext ⟨λh=>h.elim,λh=>a h.1⟩
def mp (o:Option ah) (K:Option Nat->List AV->List (AV×AV)->Prop) (_:Tk K):Prop:=match o with
 |some ⟨k,cs,.map es⟩=>cs.length=0/\K k cs es
 |_=>False
theorem aaw{k:Option Nat}{cs:List AV}{es:List (AV×AV)}{K:Option Nat->List AV->List (AV×AV)->Prop}{t:Tk K}:mp (some ⟨k,cs,.map es⟩) K t=(cs.length=0/\K k cs es):=(rfl)
theorem CN{σ:List ah}{b:Nat}{K:List (AV×AV)->Prop}:aL (eD σ b) K=mp (ak σ b) (λ_ _ es=>K es) .k:=by
 unfold mp eD;cases ak σ b with
 |none=>rfl
 |some B=>
  obtain⟨k,cs,st⟩:=B;cases st with
  |map es=>
   by_cases h:cs.length=0
   .simp[h,aL]
   .simp[h,aL]
  |_=>rfl
def Ew (z:AV) (ok:Bool):Option AV->AV
 |some v=>if ok then .bF [v,.bool true]else v
 |none=>if ok then .bF [z,.bool false]else z
theorem aax{z v:AV}:Ew z false (some v)=v:=rfl
theorem aay{z:AV}:Ew z false none=z:=rfl
theorem aaz{z v:AV}:Ew z true (some v) = .bF [v,.bool true]:=rfl
theorem aaA{z:AV}:Ew z true none = .bF [z,.bool false]:=rfl
def NA (σ:List ah) (x:AV) (a:Nat) (k z:AV) (ok:Bool) (K:AV->Prop):Prop:=match x with
 |.cC b=>aL (eD σ b) λes=>bj (aW a k=true) (oK (cy es k) (λo=>nx (Ew z ok o) K .k) .k)
 |_=>False
theorem aaB{σ:List ah}{b a:Nat}{k z:AV}{ok:Bool}{K:AV->Prop}:NA σ (.cC b) a k z ok K=mp (ak σ b) (λ_ _ es=>bj (aW a k=true) (oK (cy es k) (λo=>nx (Ew z ok o) K .k) .k)) .k:=CN
theorem NB{x k:Rf}{a:Nat}{z:AV}{ok:Bool}:bY L vars (.tZ x a k z ok) false env aC σ K=nx (rv vars env x) (λx=>nx (rv vars env k) (λk=>NA σ x a k z ok λv=>K (v::env) aC σ) .k) .k:=by
 show aL (ev L σ σ.length [] (rv vars env) (.tZ x a k z ok)) _=_;simp only[nx];generalize d:rv vars env x=p;generalize e:rv vars env k=q;simp only[ev,d,e];cases p<;>try rfl
 simp only[NA];cases eD σ _ with
 |none=>rfl
 |some es=>
  simp only[Ao,bj]
  by_cases b:aW a q=true
  .simp only[ab b,b,true_and]
   cases cy es q with
   |none=>rfl
   |some o=>cases o<;>rfl
  .simp only[aa b]
   exact propext ⟨λh=>h.elim,λh=>b h.1⟩
theorem aaC{x k:Rf}{a:Nat}{z:AV}{ok:Bool}:bY L vars (.tZ x a k z ok) true env aC σ K=nx (rv vars env x) (λx=>nx (rv vars env k) (λk=>NA aC x a k z ok λv=>K (v::env) aC σ) .k) .k:=by
 show aL (ev L aC σ.length [] (rv vars env) (.tZ x a k z ok)) _=_;simp only[nx];generalize d:rv vars env x=p;generalize e:rv vars env k=q;simp only[ev,d,e];cases p<;>try rfl
 simp only[NA];cases eD aC _ with
 |none=>rfl
 |some es=>
  simp only[Ao,bj]
  by_cases b:aW a q=true
  .simp only[ab b,b,true_and]
   cases cy es q with
   |none=>rfl
   |some o=>cases o<;>rfl
  .simp only[aa b]
   exact propext ⟨λh=>h.elim,λh=>b h.1⟩
def NC (σ:List ah) (x:AV) (K:Int->Prop):Prop:=match x with
 |.cC b=>aL (eD σ b) λes=>K es.length
 |_=>False
theorem aaD{σ:List ah}{b:Nat}{K:Int->Prop}:NC σ (.cC b) K=mp (ak σ b) (λ_ _ es=>K es.length) .k:=CN
theorem ND{x:Rf}:bY L vars (.ze x) false env aC σ K=nx (rv vars env x) (λx=>NC σ x λn=>K (.int n::env) aC σ) .k:=by
 show aL (ev L σ σ.length [] (rv vars env) (.ze x)) _=_;simp only[nx];generalize a:rv vars env x=p;simp only[ev,a];cases p<;>try rfl
 simp only[NC];cases eD σ _<;>rfl
theorem aaE{x:Rf}:bY L vars (.ze x) true env aC σ K=nx (rv vars env x) (λx=>NC aC x λn=>K (.int n::env) aC σ) .k:=by
 show aL (ev L aC σ.length [] (rv vars env) (.ze x)) _=_;simp only[nx];generalize a:rv vars env x=p;simp only[ev,a];cases p<;>try rfl
 simp only[NC];cases eD aC _<;>rfl
theorem NF:bY L vars .wM false env aC σ K=nB (gj σ [⟨some 0,[],.map []⟩]) (λτ=>K (.cC σ.length::env) σ τ) .k:=by rw[<-fT];rfl
def mu1 (σ:List ah) (m:AV) (a:Nat) (k x:AV) (K:List ah->Prop):Prop:=match m with
 |.cC b=>mp (ak σ b) (λd cs es=>bj (aW a k=true/\aI x=true) (oK (cy es k) (λo=>o=none/\nB (ar σ b ⟨d,cs,.map (es ++ [(k,x)])⟩) K .k) .k)) .k
 |_=>False
theorem aaF{σ:List ah}{b a:Nat}{k x:AV}{K:List ah->Prop}:mu1 σ (.cC b) a k x K=mp (ak σ b) (λd cs es=>bj (aW a k=true/\aI x=true) (oK (cy es k) (λo=>o=none/\nB (ar σ b ⟨d,cs,.map (es ++ [(k,x)])⟩) K .k) .k)) .k:=rfl
theorem NG{m k x:Rf}{a:Nat}:bY L vars (.tX m a k x) false env aC σ K=nx (rv vars env m) (λm=>nx (rv vars env k) (λk=>nx (rv vars env x) (λx=>mu1 σ m a k x λτ=>K (.aF::env) [] τ) .k) .k) .k:=by
 show aL (fI L σ (rv vars env) (.tX m a k x)) _=_;simp only[nx];generalize g:rv vars env m=p;generalize i:rv vars env k=q;generalize j:rv vars env x=r;simp only[fI,g,i,j];cases p<;>try rfl
 rename_i b;simp only[mu1,mp,eD,nG];cases n:ak σ b with
 |none=>rfl
 |some B=>
  obtain⟨s,cs,st⟩:=B;cases st<;>try rfl
  rename_i es
  by_cases e:cs.length=0
  .by_cases d:aW a q=true/\aI r=true
   .simp only[e,d.1,d.2,bj,true_and,kE,dt,Bool.and_self]
    cases cy es q with
    |none=>exact propext ⟨λh=>h.elim,λh=>h.elim⟩
    |some o=>cases o with
     |none=>exact propext ⟨λh=>⟨rfl,h⟩,λh=>h.2⟩
     |some y=>exact propext ⟨λh=>h.elim,λh=>by have:=h.1;simp at this⟩
   .have l : ¬(aW a q&&aI r)=true:=λh=>d (by simpa using h)
    simp only[e,kE,dt,aa l, bj];exact propext ⟨λh=>h.elim,λh=>d h.2.1⟩
  .simp only[e,cF,eJ,false_and]
   rfl
@[reducible] def Uw (x:Option AV):Option Int:=match x with
 |none=>some 0
 |some (.int n)=>some n
 |some _=>none
@[reducible] def Ux (x:Option AV):Option (Option Int):=match x with
 |none=>some none
 |some (.int n)=>some (some n)
 |some _=>none
@[reducible] def CO (f:Rf->AV):Option Rf->Option AV
 |none=>none
 |some x=>some (f x)
variable{r:Rf->AV}{o:Option Rf}
theorem NH:sW r o=Uw (CO r o):=by
 cases o with
 |none=>rfl
 |some y=>simp only[sW,Uw,CO];cases r y<;>rfl
theorem NI:sX r o=Ux (CO r o):=by
 cases o with
 |none=>rfl
 |some y=>simp only[sX,Ux,CO];cases r y<;>rfl
theorem NJ{x:Rf}{d e:Option Rf}{st:Nat}:bY L vars (.pI x d e st) false env aC σ K=oK (Uw (CO (rv vars env) d)) (λa=>oK (Ux (CO (rv vars env) e)) (λb=>nx (rv vars env x) (λx=>Nv σ x a b st λv=>K (v::env) aC σ) .k) .k) .k:=by unfold oK nx;simp only[<-NH,<-NI,<-Nw];exact ZW
theorem aaG{x:Rf}{d e:Option Rf}{st:Nat}:bY L vars (.pI x d e st) true env aC σ K=oK (Uw (CO (rv vars env) d)) (λa=>oK (Ux (CO (rv vars env) e)) (λb=>nx (rv vars env x) (λx=>Nv aC x a b st λv=>K (v::env) aC σ) .k) .k) .k:=by unfold oK nx;simp only[<-NH,<-NI,<-Nw];exact ZX
theorem Ey{a b d:Type}{f:b->Option d}{g:a->b}:∀{l:List a},bI (λx=>f (g x)) l=bI f (gB g l)
 | []=>rfl
 |x::r=>by simp only[bI,gB];rw[Ey (l:=r)]
theorem NK{f:Nat}{args:List Rf}:bY L vars (.qN f args) false env aC σ K=nL (gB (rv vars env) args) (λas=>oK (bI (view σ false vd) as) (λvs=>lX L f vs [] (λv cG =>oK (bV cG true v) (λu=>K (u::env) aC σ) .k) .k) .k) .k:=by unfold nL;dsimp only;rw[<-Ey];exact ZY
theorem aaH{f:Nat}{args:List Rf}:bY L vars (.qN f args) true env aC σ K=nL (gB (rv vars env) args) (λas=>oK (bI (view aC false vd) as) (λvs=>lX L f vs [] (λv cG =>oK (bV cG true v) (λu=>K (u::env) aC σ) .k) .k) .k) .k:=by unfold nL;dsimp only;rw[<-Ey];exact ZZ
theorem NL{f:Nat}{args:List Rf}:bY L vars (.can f args) false env aC σ K=nL (gB (rv vars env) args) (λas=>bj (ax as=true) (lX L f as [] (λv cG =>nx (iW σ.length v) (λv=>nB (σ++cG.map (gm σ.length)) (λτ=>K (v::env) σ τ) .k) .k) .k)) .k:=by rw[<-gS];exact Z0
theorem NM{x:Rf}{k:Option Nat}:bY L vars (.sJ x k) false env aC σ K=nx (rv vars env x) (λx=>bj (x.cells.length=aE k/\bg x=true) (nB (gj σ [⟨k,x.cells,.live⟩]) (λτ=>K (.ptr σ.length (aE k) 0::env) σ τ) .k)) .k:=by unfold nx nB;simp only[<-fT];exact Z1
theorem NN{z:List AV}{k:Option Nat}:bY L vars (.ks z k) false env aC σ K=bj (z.length=aE k) (nB (gj σ [⟨k,z,.live⟩]) (λτ=>K (.ptr σ.length (aE k) 0::env) σ τ) .k):=by rw[<-fT];exact Z2
theorem NO{n c:Rf}{z:List AV}{k:Option Nat}:bY L vars (.iH n c z k) false env aC σ K=nx (rv vars env n) (λn=>nx (rv vars env c) (λc=>ii n c λn c=>bj (0<=n/\n<=c/\c<=dz/\z.length=aE k) (nC (dI c.toNat z) (λcs=>nB (gj σ [⟨k,cs,.live⟩]) (λτ=>K (.sl σ.length cs.length 0 n.toNat::env) σ τ) .k) .k)) .k) .k:=by
 unfold nx nC nB;simp only[<-fT];exact Z3
@[reducible] def rD:List AV->List AV
 | []=>[]
 |x::r=>gj x.cells (rD r)
theorem rE:∀l:List AV,l.flatMap AV.cells=rD l
 | []=>rfl
 |x::r=>by simp only[gX,rD,rE r,fT]
theorem aaI{ps:List Rf}{k:Option Nat}:bY L vars (.lZ ps k) false env aC σ K=nL (gB (rv vars env) ps) (λl=>bj (fitAll (aE k) l=true) (nC (rD l) (λcs=>nB (gj σ [⟨k,cs,.live⟩]) (λτ=>K (.sl σ.length cs.length 0 ps.length::env) σ τ) .k) .k)) .k:=by
 unfold nL nC nB;simp only[<-fT,<-gS,<-rE];exact Z4
theorem aaJ{k:Option Nat}:bY L vars (.nl k) false env aC σ K=nB (gj σ [⟨k,[],.jq⟩]) (λτ=>K (.sl σ.length 0 0 0::env) σ τ) .k:=by rw[<-fT];exact Z5
def src (σ:List ah) (k:Option Nat) (x:AV) (K:Nat->List AV->Prop) (_:Tk K):Prop:=aL (aJ σ k x) λp=>K p.1 p.2
theorem aaK{k:Option Nat}{K:Nat->List AV->Prop}{t:Tk K}:src σ k .ae K t=K 0 []:=(rfl)
theorem aaL{k:Option Nat}{q:Bool}{l:List AV}{K:Nat->List AV->Prop}{t:Tk K}:src σ k (.au q l) K t=bj (fitAll (aE k) l=true) (nC (l.flatMap AV.cells) (λcs=>K l.length cs) .k):=by
 unfold src aJ;by_cases h:fitAll (aE k) l=true<;>simp[h,aL,bj,nC]
theorem aaM{k:Option Nat}{K:Nat->List AV->Prop}{t:Tk K}:src σ k .emp K t=K 0 []:=(rfl)
theorem aaN{k:Option Nat}{l:List AV}{K:Nat->List AV->Prop}{t:Tk K}:src σ k (.arr l) K t=bj (fitAll (aE k) l=true) (nL (rD l) (λcs=>K l.length cs) .k):=by
 rw[<-rE];unfold src aJ;by_cases h:fitAll (aE k) l=true<;>simp[h,aL,bj,nL]
theorem aaO{k:Option Nat}{b u off len:Nat}{K:Nat->List AV->Prop}{t:Tk K}:src σ k (.sl b u off len) K t=bk (ak σ b) u (λa cs _=>bj (off+len*aE k<=cs.length/\aE a = aE k) (nC ((cs.drop off).take (len*aE k)) (λcs=>K len cs) .k)) .k:=by
 rw[<-tj (K:=λB=>bj (off+len*aE k<=B.cells.length/\aE B.k=aE k) (nC ((B.cells.drop off).take (len*aE k)) (λcs=>K len cs) .k))];unfold src aJ;simp only;cases upto σ b u with
 |none=>rfl
 |some B=>by_cases h:off+len*aE k<=B.cells.length/\aE B.k=aE k<;>simp[h,aL,bj,nC]
def ap (σ:List ah) (s:AV) (k:Option Nat) (n:Nat) (cs:List AV) (K:AV->List ah->Prop) (_:Tk K):Prop:=Uu σ s k n cs K
def nz (n:Nat) (A B:Prop) (_:Tk A) (_:Tk B):Prop:=(n=0->A)/\(n ≠ 0->B)
theorem NP{A B:Prop}{t:Tk A}{u:Tk B}:nz 0 A B t u=A:=by simp[nz]
theorem NQ{A B:Prop}{t:Tk A}{u:Tk B}:nz 1 A B t u=B:=by simp[nz]
theorem NR{n:Nat}{A B:Prop}{t:Tk A}{u:Tk B}:nz (n+1) A B t u=B:=by simp[nz]
theorem aaP{n:Nat}{A B:Prop}{t:Tk A}{u:Tk B}:nz n A B t u=(im (n=0) A .k/\im (n ≠ 0) B .k):=(rfl)
theorem NS{b u off len:Nat}{k:Option Nat}{n:Nat}{cs:List AV}{K:AV->List ah->Prop}{t:Tk K}:ap σ (.sl b u off len) k n cs K t=bk (ak σ b) u (λd a st=>bj (off=0/\u=len*aE k/\len+n<=dz/\sz d k=true) (nz n (K (.sl b u off len) σ) (cs.length ≠ 0/\nC (a ++ cs) (λc=>nB (ar σ b ⟨d, c,.live⟩) (λτ=>K (.sl b c.length 0 (len+n)) τ) .k) .k) .k .k)) .k:=by
 show Uu σ (.sl b u off len) k n cs K=_;rw[Z6,tj];cases h:ak σ b with
 |none=>rfl
 |some B=>
  obtain⟨d, a, st⟩:=B;simp only[bk,nz,nC,nB,bj,rn,h,aY];apply propext;constructor
  .rintro⟨⟨rfl,e⟩,g,i,j⟩;exact⟨⟨rfl,e⟩,g,i,j⟩
  .rintro⟨⟨rfl,e⟩,g,i,j⟩;exact⟨⟨rfl,e⟩,g,i,j⟩
theorem aaQ{k:Option Nat}{n:Nat}{cs:List AV}{K:AV->List ah->Prop}{t:Tk K}:ap σ .ae k n cs K t=nz n (K .ae σ) (n<=dz/\nB (gj σ [⟨k,cs,.live⟩]) (λτ=>K (.sl σ.length cs.length 0 n) τ) .k) .k .k:=by unfold nz nB;simp only[<-fT];rfl
theorem aaR{k:Option Nat}{n:Nat}{cs:List AV}{K:AV->List ah->Prop}{t:Tk K}:ap σ .emp k n cs K t=nz n (K .emp σ) (n<=dz/\nB (gj σ [⟨k,cs,.live⟩]) (λτ=>K (.sl σ.length cs.length 0 n) τ) .k) .k .k:=by unfold nz nB;simp only[<-fT];rfl
theorem aaS{l:List AV}{k:Option Nat}{n:Nat}{cs:List AV}{K:AV->List ah->Prop}{t:Tk K}:ap σ (.arr l) k n cs K t=nz n (K (if ax l then .au true l else .arr l) σ) ((fitAll (aE k) l=true/\l.length+n<=dz)/\nC (gj (rD l) cs) (λc=>nB (gj σ [⟨k,c,.live⟩]) (λτ=>K (.sl σ.length c.length 0 (l.length+n)) τ) .k) .k) .k .k:=by
 unfold nz nC nB;simp only[<-fT,<-rE];rfl
theorem NT{s x:Rf}{k:Option Nat}:bY L vars (.app s x k) false env aC σ K=nx (rv vars env x) (λx=>src σ k x (λn cs=>nx (rv vars env s) (λs=>ap σ s k n cs (λv τ=>K (v::env) σ τ) .k) .k) .k) .k:=Z7
theorem aaT{p x:Rf}{n:Nat}:bY L vars (.st p x n) false env aC σ K=nx (rv vars env p) (λp=>nx (rv vars env x) (λx=>st1 σ p x n λτ=>K (.aF::env) [] τ) .k) .k:=Z8
def aw (σ:List ah) (s:AV) (k:Option Nat) (n:Nat) (cs:List AV) (K:AV->List ah->Prop) (_:Tk K):Prop:=Uv σ s k n cs K
theorem NU{b u off len:Nat}{k:Option Nat}{n:Nat}{cs:List AV}{K:AV->List ah->Prop}{t:Tk K}:aw σ (.sl b u off len) k n cs K t=bk (ak σ b) u (λe a st=>bj (off=0/\len+n<=dz/\sz e k=true/\(n ≠ 0->cs.length ≠ 0)) (nz n (K (.sl b u off len) σ) (gT (decide (u=len*aE k)) (nC (a ++ cs) (λc=>nB (ar σ b ⟨e, c,.live⟩) (λτ=>K (.sl b c.length 0 (len+n)) τ) .k) .k) ((len+n)*aE k<=u/\nC (putAt a (len*aE k) cs) (λc=>nB (ar σ b ⟨e, c,st⟩) (λτ=>K (.sl b u 0 (len+n)) τ) .k) .k) .k .k) .k .k)) .k:=by
 show Uv σ (.sl b u off len) k n cs K=_;rw[Z9,tj];cases h:ak σ b with
 |none=>rfl
 |some B=>
  obtain⟨e, a, st⟩:=B;simp only[bk,nz,nC,nB,bj,aY,Eu,im];apply propext;constructor
  .rintro⟨⟨rfl,i⟩,j,l,g,m⟩;exact⟨⟨rfl,i⟩,j,l,λd=>⟨g d,m d⟩⟩
  .rintro⟨⟨rfl,i⟩,j,l,g⟩;exact⟨⟨rfl,i⟩,j,l,λd=>(g d).1,λd=>(g d).2⟩
theorem aaU{k:Option Nat}{n:Nat}{cs:List AV}{K:AV->List ah->Prop}{t:Tk K}:aw σ .ae k n cs K t=nz n (K .ae σ) (n<=dz/\nB (gj σ [⟨k,cs,.live⟩]) (λτ=>K (.sl σ.length cs.length 0 n) τ) .k) .k .k:=by unfold nz nB;simp only[<-fT];rfl
theorem aaV{k:Option Nat}{n:Nat}{cs:List AV}{K:AV->List ah->Prop}{t:Tk K}:aw σ .emp k n cs K t=nz n (K .emp σ) (n<=dz/\nB (gj σ [⟨k,cs,.live⟩]) (λτ=>K (.sl σ.length cs.length 0 n) τ) .k) .k .k:=by unfold nz nB;simp only[<-fT];rfl
theorem aaW{l:List AV}{k:Option Nat}{n:Nat}{cs:List AV}{K:AV->List ah->Prop}{t:Tk K}:aw σ (.arr l) k n cs K t=nz n (K (if ax l then .au true l else .arr l) σ) ((fitAll (aE k) l=true/\l.length+n<=dz)/\nC (gj (rD l) cs) (λc=>nB (gj σ [⟨k,c,.live⟩]) (λτ=>K (.sl σ.length c.length 0 (l.length+n)) τ) .k) .k) .k .k:=by
 unfold nz nC nB;simp only[<-fT,<-rE];rfl
theorem aaX{s x:Rf}{k:Option Nat}:bY L vars (.cu s x k) false env aC σ K=nx (rv vars env x) (λx=>src σ k x (λn cs=>nx (rv vars env s) (λs=>aw σ s k n cs (λv τ=>K (v::env) [] τ) .k) .k) .k) .k:=aaa
def c81 (x:AV) (K:AV->Prop):Prop:=match x with
 |.int n=>bj (0<=n/\n<=255) (K (.ik 4 n))
 |_=>False
theorem mT{n:Int}{K:AV->Prop}:c81 (.int n) K=bj (0<=n/\n<=255) (K (.ik 4 n)):=(rfl)
theorem NV{x:Rf}:bY L vars (.JN x) false env aC σ K=nx (rv vars env x) (λx=>c81 x λv=>K (v::env) aC σ) .k:=by
 show aL (ev L σ σ.length [] (rv vars env) (.JN x)) _=_;simp only[nx];generalize a:rv vars env x=p;simp only[ev,a];cases p<;>try rfl
 rename_i n;rw[mT];simp only[nW];rfl
theorem NW{x:Rf}:bY L vars (.zK x) false env aC σ K=nx (rv vars env x) (λx=>src σ none x (λ_ cs=>aL (bytesOf cs) λs=>K (.str s::env) aC σ) .k) .k:=by
 show aL (ev L σ σ.length [] (rv vars env) (.zK x)) _=_;simp only[nx,src];generalize a:rv vars env x=p;simp only[ev,a];cases aJ σ none p with
 |none=>rfl
 |some q=>
  obtain⟨n,cs⟩:=q;simp only[Ao];cases bytesOf cs<;>rfl
def ik1 (x y:AV) (K:Bool->Prop):Prop:=match x,y with
 |.ik k a,.ik j b=>bj (k=j) (K (a==b))
 |_,_=>False
theorem NX{k j:Nat}{a b:Int}{K:Bool->Prop}:ik1 (.ik k a) (.ik j b) K=bj (k=j) (K (a==b)):=(rfl)
theorem NY{g:Bool}{x y:Rf}:bY L vars (.JP g x y) false env aC σ K=nx (rv vars env x) (λx=>nx (rv vars env y) (λy=>ik1 x y λb=>K (.bool (b != g)::env) aC σ) .k) .k:=by
 show aL (ev L σ σ.length [] (rv vars env) (.JP g x y)) _=_;simp only[nx];generalize a:rv vars env x=p;generalize d:rv vars env y=q;simp only[ev,a,d];cases p<;>try rfl
 cases q<;>try rfl
 rw[NX];simp only[nW];rfl
def si2 (x:AV) (a:Int) (b:Option Int) (st:Nat) (K:AV->Prop):Prop:=match x with
 |.au d l=>bj ((0<=a/\a<=b.getD l.length/\b.getD l.length<=l.length)/\fR st l=true) (nC ((l.drop a.toNat).take ((b.getD l.length).toNat-a.toNat)) (λl' =>K (.au (d&&decide (0<l.length)) l')) .k)
 |_=>False
theorem aaY{d:Bool}{l:List AV}{a:Int}{b:Option Int}{st:Nat}{K:AV->Prop}:si2 (.au d l) a b st K=bj ((0<=a/\a<=b.getD l.length/\b.getD l.length<=l.length)/\fR st l=true) (nC ((l.drop a.toNat).take ((b.getD l.length).toNat-a.toNat)) (λl' =>K (.au (d&&decide (0<l.length)) l')) .k):=(rfl)
theorem aaZ{st:Nat}:bY L vars (.qP st) false env aC σ K=K (.emp::env) aC σ:=(rfl)
def bs1 (x:AV) (K:AV->Prop):Prop:=match x with
 |.str s=>nx (.au false (s.map λb=>.ik 4 (b.toNat:Int))) K .k
 |_=>False
theorem aa0{s:List UInt8}{K:AV->Prop}:bs1 (.str s) K=nx (.au false (s.map λb=>.ik 4 (b.toNat:Int))) K .k:=(rfl)
theorem NZ{x:Rf}:bY L vars (.JE x) false env aC σ K=nx (rv vars env x) (λx=>bs1 x λv=>K (v::env) aC σ) .k:=by
 show aL (ev L σ σ.length [] (rv vars env) (.JE x)) _=_;simp only[nx];generalize a:rv vars env x=p;simp only[ev,a];cases p<;>rfl
def si1 (x i:AV) (K:AV->Prop):Prop:=match x,i with
 |.str s,.int n=>0<=n/\aL (s[n.toNat]?) λb=>K (.ik 4 (b.toNat:Int))
 |_,_=>False
theorem Ez{s:List UInt8}{n:Int}{K:AV->Prop}:si1 (.str s) (.int n) K=(0<=n/\aL (s[n.toNat]?) λb=>K (.ik 4 (b.toNat:Int))):=(rfl)
theorem N0{x i:Rf}:bY L vars (.JO x i) false env aC σ K=nx (rv vars env x) (λx=>nx (rv vars env i) (λi=>si1 x i λv=>K (v::env) aC σ) .k) .k:=by
 show aL (ev L σ σ.length [] (rv vars env) (.JO x i)) _=_;simp only[nx];generalize a:rv vars env x=p;generalize b:rv vars env i=q;simp only[ev,a,b];cases p<;>try rfl
 cases q<;>try rfl
 rename_i s n;rw[Ez]
 by_cases h:0<=n
 .simp only[ab h,h,true_and]
  cases s[n.toNat]?<;>rfl
 .simp only[aa h]
  exact propext ⟨λe=>e.elim,λe=>h e.1⟩
def cw1 (x:AV) (K:AV->Prop):Prop:=match x with
 |.int n=>K (.ik 4 (n%256))
 |_=>False
theorem aa1{n:Int}{K:AV->Prop}:cw1 (.int n) K=K (.ik 4 (n%256)):=(rfl)
theorem N1{x:Rf}:bY L vars (.zR x) false env aC σ K=nx (rv vars env x) (λx=>cw1 x λv=>K (v::env) aC σ) .k:=by
 show aL (ev L σ σ.length [] (rv vars env) (.zR x)) _=_;simp only[nx];generalize a:rv vars env x=p;simp only[ev,a];cases p<;>rfl
def Uy (x y:AV) (K:AV->Prop):Prop:=match x,y with
 |.int a,.int n=>bj (0<=n/\n<64) (K (.int (a.fdiv (2^n.toNat))))
 |.int a,.ik 7 n=>bj (0<=n/\n<64) (K (.int (a.fdiv (2^n.toNat))))
 |_,_=>False
theorem aa2{a n:Int}{K:AV->Prop}:Uy (.int a) (.int n) K=bj (0<=n/\n<64) (K (.int (a.fdiv (2^n.toNat)))):=(rfl)
theorem aa3{a n:Int}{K:AV->Prop}:Uy (.int a) (.ik 7 n) K=bj (0<=n/\n<64) (K (.int (a.fdiv (2^n.toNat)))):=(rfl)
theorem N2{x y:Rf}:bY L vars (.DQ x y) false env aC σ K=nx (rv vars env x) (λx=>nx (rv vars env y) (λy=>Uy x y λv=>K (v::env) aC σ) .k) .k:=by
 show aL (ev L σ σ.length [] (rv vars env) (.DQ x y)) _=_;simp only[nx];generalize b:rv vars env x=p;generalize d:rv vars env y=q;simp only[ev,b,d,Uy];split
 .simp only[nW];rfl
 .simp only[nW];rfl
 .rename_i e g
  split
  .rename_i a n;exact absurd rfl (e a n rfl)
  .rename_i a n;exact absurd rfl (g a n rfl)
  .rfl
def ss1 (n:Nat) (x y:AV) (K:Bool->Prop):Prop:=match x,y with
 |.agg xs,.agg ys=>xs.length=n/\aL (hU xs ys) K
 |_,_=>False
theorem N3{n:Nat}{xs ys:List AV}{K:Bool->Prop}:ss1 n (.agg xs) (.agg ys) K=(xs.length=n/\aL (hU xs ys) K):=(rfl)
theorem N4{g:Bool}{n:Nat}{x y:Rf}:bY L vars (.JS g n x y) false env aC σ K=nx (rv vars env x) (λx=>nx (rv vars env y) (λy=>ss1 n x y λb=>K (.bool (b != g)::env) aC σ) .k) .k:=by
 show aL (ev L σ σ.length [] (rv vars env) (.JS g n x y)) _=_;simp only[nx];generalize d:rv vars env x=p;generalize e:rv vars env y=q;simp only[ev,d,e];cases p<;>try rfl
 cases q<;>try rfl
 rename_i xs ys;rw[N3]
 by_cases a:xs.length=n
 .simp only[ab a,a,true_and]
  cases hU xs ys<;>rfl
 .simp only[aa a]
  exact propext ⟨λh=>h.elim,λh=>a h.1⟩
def tm (es:List (AV×AV)) (k x:AV) (o:Option AV):List (AV×AV):=match o with
 |none=>es ++ [(k,x)]
 |some _=>iz es k x
theorem aa4{es:List (AV×AV)}{k x:AV}:tm es k x none=es ++ [(k,x)]:=rfl
theorem aa5{es:List (AV×AV)}{k x y:AV}:tm es k x (some y)=iz es k x:=rfl
def ms1 (σ:List ah) (m:AV) (a:Nat) (k x:AV) (K:List ah->Prop):Prop:=match m with
 |.cC b=>mp (ak σ b) (λd cs es=>bj (aW a k=true/\bg x=true) (oK (cy es k) (λo=>nB (ar σ b ⟨d,cs,.map (tm es k x o)⟩) K .k) .k)) .k
 |_=>False
theorem aa6{σ:List ah}{b a:Nat}{k x:AV}{K:List ah->Prop}:ms1 σ (.cC b) a k x K=mp (ak σ b) (λd cs es=>bj (aW a k=true/\bg x=true) (oK (cy es k) (λo=>nB (ar σ b ⟨d,cs,.map (tm es k x o)⟩) K .k) .k)) .k:=rfl
theorem N5{m k x:Rf}{a:Nat}:bY L vars (.wg m a k x) false env aC σ K=nx (rv vars env m) (λm=>nx (rv vars env k) (λk=>nx (rv vars env x) (λx=>ms1 σ m a k x λτ=>K (.aF::env) [] τ) .k) .k) .k:=by
 show aL (fI L σ (rv vars env) (.wg m a k x)) _=_;simp only[nx];generalize g:rv vars env m=p;generalize i:rv vars env k=q;generalize j:rv vars env x=r;simp only[fI,g,i,j];cases p<;>try rfl
 rename_i b;simp only[ms1,mp,eD,nG];cases n:ak σ b with
 |none=>rfl
 |some B=>
  obtain⟨s,cs,st⟩:=B;cases st<;>try rfl
  rename_i es
  by_cases e:cs.length=0
  .by_cases d:aW a q=true/\bg r=true
   .simp only[e,d.1,d.2,bj,true_and,kE,dt,Bool.and_self]
    cases cy es q with
    |none=>exact propext ⟨λh=>h.elim,λh=>h.elim⟩
    |some o=>cases o<;>rfl
   .have l : ¬(aW a q&&bg r)=true:=λh=>d (by simpa using h)
    simp only[e,kE,dt,aa l, bj];exact propext ⟨λh=>h.elim,λh=>d h.2.1⟩
  .simp only[e,cF,eJ,false_and]
   rfl
theorem N6{f:Nat}{args:List Rf}:bY L vars (.eZ f args) false env aC σ K=nL (gB (rv vars env) args) (λas=>lX L f as σ (λv τ=>nx v (λv=>nB τ (λτ=>K (v::env) [] τ) .k) .k) .k) .k:=by rw[<-gS];exact aab
theorem aa7{x:Rf}{args:List Rf}:bY L vars (.kB x args) false env aC σ K=nx (rv vars env x) (λx=>MZ x λf a=>nL (gj (gB (rv vars env) args) a) (λas=>lX L f as σ (λv τ=>nx v (λv=>nB τ (λτ=>K (v::env) [] τ) .k) .k) .k) .k) .k:=by unfold nx nL lX;simp only[<-gS,<-fT];exact aac
end
section
variable{L:CE}{vars env:List AV}{aC σ:List ah}{K:List AV->List ah->Prop}{ls:List Ln}{op:cS}{prev:Bool}
theorem aa8:LK L vars [] env aC σ K=K env σ:=by unfold LK;rfl
theorem aa9:LK L vars (⟨op,none,prev⟩::ls) env aC σ K=bY L vars op prev env aC σ λenv aC σ=>LK L vars ls env aC σ K:=by conv=>lhs;unfold LK
def xB (x:AV) (w:Bool) (go skip go' a : Prop) (_:Tk go) (_:Tk skip) (_:Tk go') (_:Tk a):Prop:=match x with
 |.bool b=>match w with
  |true=>gK b go' a
  |false=>gK b a go'
 |.bF []=>skip
 |_=>False
theorem aba{w:Bool}{A B C D:Prop}{s:Tk A}{t:Tk B}{u:Tk C}{v:Tk D}:xB (.bF []) w A B C D s t u v=B:=(rfl)
theorem abb{b:Bool}{A B C D:Prop}{s:Tk A}{t:Tk B}{u:Tk C}{v:Tk D}:xB (.bool b) true A B C D s t u v=gT b C D .k .k:=(rfl)
theorem abc{b:Bool}{A B C D:Prop}{s:Tk A}{t:Tk B}{u:Tk C}{v:Tk D}:xB (.bool b) false A B C D s t u v=gT b D C .k .k:=(rfl)
theorem abd{A B C D:Prop}{s:Tk A}{t:Tk B}{u:Tk C}{v:Tk D}:xB (.bool true) true A B C D s t u v=C:=Es
theorem abe{A B C D:Prop}{s:Tk A}{t:Tk B}{u:Tk C}{v:Tk D}:xB (.bool true) false A B C D s t u v=D:=Es
theorem abf{A B C D:Prop}{s:Tk A}{t:Tk B}{u:Tk C}{v:Tk D}:xB (.bool false) true A B C D s t u v=D:=Et
theorem abg{A B C D:Prop}{s:Tk A}{t:Tk B}{u:Tk C}{v:Tk D}:xB (.bool false) false A B C D s t u v=C:=Et
theorem abh{d:Nat}{w:Bool}:LK L vars (⟨op,some (.t d,w),prev⟩::ls) env aC σ K=nx (nth env d) (λx=>xB x w
   (bY L vars op prev env aC σ λenv aC σ=>LK L vars ls env aC σ K)
   (LK L vars ls (.bF []::env) aC σ K)
   (nL (eu env d (.bool w)) (λenv=>bY L vars op prev env aC σ λenv aC σ=>LK L vars ls env aC σ K) .k)
   (nL (eu env d (.bool (!w))) (λenv=>LK L vars ls (.bF []::env) aC σ K) .k) .k .k .k .k) .k:=by
 conv=>lhs;unfold LK
 simp only[xB,nx,nL];cases nth env d with
 |bool b=>cases w<;>rfl
 |bF l=>cases l<;>rfl
 |_=>rfl
theorem abi{d:Nat}{w:Bool}:LK L vars (⟨op,some (.v d,w),prev⟩::ls) env aC σ K=nx (nth vars d) (λx=>xB x w
   (bY L vars op prev env aC σ λenv aC σ=>LK L vars ls env aC σ K)
   (LK L vars ls (.bF []::env) aC σ K)
   (bY L vars op prev env aC σ λenv aC σ=>LK L vars ls env aC σ K)
   (LK L vars ls (.bF []::env) aC σ K) .k .k .k .k) .k:=by
 conv=>lhs;unfold LK
 simp only[xB,nx]
 all_goals (cases nth vars d with
  |bool b=>cases w<;>rfl
  |bF l=>cases l<;>rfl
  |_=>rfl)
end
def nF (a:Option (Nat×AV)) (K:Option (Nat×AV)->Prop) (_:Tk K):Prop:=K a
theorem abj{K:Option (Nat×AV)->Prop}{t:Tk K}:nF none K t=K none:=(rfl)
theorem abk{n:Nat}{x:AV}{K:Option (Nat×AV)->Prop}{t:Tk K}:nF (some (n,x)) K t=nx x (λx=>K (some (n,x))) .k:=(rfl)
section
variable{L:CE}{vars:List AV}{fl:Option (Nat×AV)}{σ:List ah}{Q:Ex->St->Prop}
theorem abl{ls:List Ln}{os:List (Nat×Nat)}{a:List Nat}{f:Option (Nat×Nat)}:WK L (.cq ⟨ls,os,a,f⟩) vars fl σ Q=LK L vars ls [] σ σ λenv σ=>nL (dC a (outs env os vars)) (λvs=>nF (xA env f) (λf=>Q .eU ⟨vs,f,σ⟩) .k) .k:=Yi
theorem abm{t:Nat}{a b:IC}{c:Bool}:WK L (.cond t a b) vars (some (t,.bool c)) σ Q=gT c (WK L a vars none σ Q) (WK L b vars none σ Q) .k .k:=Yk
theorem abn{k:Nat}{a b:IC}:WK L (.iX k a b) vars fl σ Q=nx (nth vars k) (λx=>b1 x λc=>gT c (WK L a vars fl σ Q) (WK L b vars fl σ Q) .k .k) .k:=by
 rw[Yl];unfold nx b1;cases nth vars k<;>rfl
end
attribute [simp ↓] NX aaY YU     aaR aaV aaM aa0 Ez aa1 aa2 aa3 N3 aa6 aa4 aa5       aaw aaB aaD aaF YQ YR YS Zo CM   Ny aau Nx YT YV YW YX YY YZ Y0 Y1 Y2 Y3 Y4 Y5 Y6 Y7 Y8 Y9 Za Zc Zd Ze Zg Zh aap aaq aas aat Zi Zj Zk Zl Zm Zn Zp
attribute [simp ↓] Mq CJ Mr Ms Mt Mu Mv Mw Mx CK My Mz MA MB MC MD ME MF MG MH MI MJ MK ML MM MN MO MP MQ MS Eu MT MU YO YP
attribute [simp] MJ MK ML MM MN MO MP MQ MS Eu YL YM MT MU
attribute [simp] Mq CJ Mr Ms Mt Mu Mv Mw Mx CK My Mz MA MB MC MD ME MF MG MH MI
attribute [simp low] YG YH YI YJ YK YN aai aaP
attribute [simp ↓] M4 M5 M6 M7 Nl aaK aaL aaN aaO NP NQ NR NS aaQ aaS NU aaU aaW
attribute [simp] aax aay aaz aaA M4 M5 M6 M7 NP NQ NR aae aaf
attribute [simp ↓] NY  aaZ  NZ N0 N1 N2 N4 N5  NV NW    NF NB aaC ND aaE NG aad M0 M1 Nz  M3 aaj M8 M9 Na Nb Nc aak Nd Nf ZE Ng Nh  Ni Nj Nk aal aam Nn aan No Np aao Nq aar Nt Nu NJ aaG  NK aaH NL NM NN NO aaI aaJ NT aaT aaX N6 aa7  aa8 aa9 abh abi aba abd abe abf abg
attribute [simp ↓ low] abb abc
attribute [simp ↓] abj abk abl abm abn
theorem abo{a b:Type}{f:a->b}:gB f []=[]:=(rfl)
theorem abp{a b:Type}{f:a->b}{x:a}{l:List a}:gB f (x::l)=f x::gB f l:=(rfl)
theorem abq{a b:Type}{f:a->b}{l:List a}:gB f l=l.map f:=(gS f l).symm
theorem abr{a:Type}{l:List a}:gj [] l=l:=(rfl)
theorem abt{a:Type}{x:a}{l m:List a}:gj (x::l) m=x::gj l m:=(rfl)
theorem abu{a:Type}{l m:List a}:gj l m=l++m:=(fT l m).symm
attribute [simp] abo abp abr abt Ao
attribute [simp low] abq abu
def ix{a:Type} [Inhabited a] (l:List a) (n:Int):a:=l.getD n.toNat default
abbrev iL (l:List Int):AV:=.au false (l.map .int)
abbrev bL (l:List Bool):AV:=.au false (l.map .bool)
abbrev bN (l:List (List Int)):AV:=.au false (l.map iL)
abbrev dR (l:List (List (List Int))):AV:=.au false (l.map bN)
theorem jM:∀(l:List AV) (i:Nat),lQ l i=l[i]?
 | [],i=>by simp[lQ]
 |x::r,0=>rfl
 |x::r,i+1=>by simp[lQ,jM r i]
section
variable{α:Type} [Inhabited α]
variable{n:Int}
theorem aO{l:List α}(a:0<=n) (b:n<l.length):ix l n∈l:=by
 unfold ix;rw[eE,cO (by omega)]
 simp
theorem ko{l:List α}(a:0<=n) (b:n<l.length):l[n.toNat]? = some (ix l n):=by
 unfold ix;rw[eE,cO (by omega)]
 simp
theorem aG{l:List α}{n:Nat}(a:n<l.length):ix l (n:Int)=l[n]:=by
 unfold ix;rw[eE,je,cO (by omega)]
 simp
theorem abv{f:α->AV}{xs:List α}{K:AV->Prop}:Am (xs.map f) n K=((0<=n/\n<xs.length)/\K (f (ix xs n))):=by
 apply propext;unfold Am;constructor
 .rintro⟨b,y,a,d⟩
  rw[jM,fS]at a
  by_cases e:n<xs.length
  .rw[ko b e]at a
   simp at a;subst a;exact⟨⟨b,e⟩,d⟩
  .rw[jh (by omega)]at a;simp at a
 .rintro⟨⟨b,a⟩,d⟩
  exact⟨b,_,by rw[jM,fS,ko b a];rfl,d⟩
end
theorem abw{fn:Fn}{K:AV->List ah->Prop}{s:St}:gA fn K .ret s=oK (results fn s) (λv=>K v s.σ) .k:=(rfl)
theorem abx{fn:Fn}{K:AV->List ah->Prop}{s:St}:gA fn K .eU s=oK (results fn s) (λv=>K v s.σ) .k:=(rfl)
theorem aby{a:Type} [Inhabited a]{f:a->AV}{xs:List a}{n:Int}{K:AV->Prop}{t:Tk K}:xK (xs.map f) n K t=((0<=n/\n<xs.length)/\K (f (ix xs n))):=abv
variable{i:Int}
theorem Ap{a:Type} [Inhabited a]{l:List a}(b:0<=i) (d:i<l.length):l.drop i.toNat=ix l i::l.drop (i+1).toNat:=by
 have e:(i+1).toNat=i.toNat+1:=by omega
 rw[e,p9 (by omega),ix,eE,cO (by omega)]
 simp
theorem EA{a:Type}{l:List a}(b:l.length<=i):l.drop i.toNat=[]:=ji (by omega)
def a8:List (Nat×AV)->List AV->List AV
 | [],vs=>vs
 |(k,x)::r,vs=>a8 r (eu vs k x)
def More{b:Type}(f:b->List (Nat×AV)) (g:b->List ah) (I:b->Prop) (d:b->Nat) (m:Nat) (vs:List AV) (Q:Ex->St->Prop):Ex->St->Prop:=λe s=>match e with
 |.eU=>∃a,s=⟨a8 (f a) vs,none,g a⟩/\I a/\d a<m
 |e=>Q e s
section
variable{L:CE}{α:Type}{f:α->List (Nat×AV)}{g:α->List ah}{I:α->Prop}{μ:α->Nat}{m:Nat}{vs:List AV}{Q:Ex->St->Prop}
theorem ag{s:St}:More f g I μ m vs Q .eU s=∃a,s=⟨a8 (f a) vs,none,g a⟩/\I a/\μ a<m:=(rfl)
theorem abz{s:St}:More f g I μ m vs Q .ret s=Q .ret s:=(rfl)
theorem abA{s:St}{j:Nat}:More f g I μ m vs Q (.exit j) s=Q (.exit j) s:=(rfl)
theorem aM{c:IC}{p:Option (Nat×AV)}{σ:List ah}(f:α->List (Nat×AV)) (g:α->List ah) (I:α->Prop) (μ:α->Nat) (d:α) (r:(⟨vs,p,σ⟩:St)=⟨a8 (f d) vs,none,g d⟩) (i:I d)
  (u:∀a,I a->WK L c (a8 (f a) vs) none (g a) (More f g I μ (μ a) vs Q)):W L (.loop c) ⟨vs,p,σ⟩ Q:=by
 have go:∀(k:Nat) (a:α),μ a<k->I a->W L (.loop c) ⟨a8 (f a) vs,none,g a⟩ Q:=by
  intro k
  induction k with
  |zero=>intro a h;omega
  |succ k w=>
   intro a C i;obtain⟨n,e,s', l,m⟩:=nV (u a i);cases e with
   |eU=>
    obtain⟨y, rfl,z,D⟩:=m;obtain⟨b, A, o, q,B⟩:=w y (by omega) z
    refine⟨max n b + 1,A, o, ?_,B⟩;simp only[exec]at q ⊢;simp only[iter];rw[qp (u7 L) (show n<=max n b + 1 by omega) _ _ _ l]
    exact xq (λs x h=>qp (u7 L) (show b <=max n b + 1 by omega) _ _ _ h) (show b <=max n b by omega) q
   |exit j=>exact⟨n+1,.exit j,s', by simp only[exec,iter];rw[qp (u7 L) (Nat.le_succ n) _ _ _ l],m⟩
   |ret=>exact⟨n+1,.ret,s', by simp only[exec,iter];rw[qp (u7 L) (Nat.le_succ n) _ _ _ l],m⟩
 rw[r];exact go _ d (Nat.lt_succ_self _) i
end
section
variable{σ:List ah}{fr:Bool}{k:Nat}
theorem abB{n:Int}:view σ fr (k+1) (.int n)=some (.int n):=(rfl)
theorem abC{n:Bool}:view σ fr (k+1) (.bool n)=some (.bool n):=(rfl)
theorem abD{n:List UInt8}:view σ fr (k+1) (.str n)=some (.str n):=(rfl)
theorem abE:view σ fr (k+1) .ae=some (.au false []):=(rfl)
theorem abF:view σ fr (k+1) .gu=some .gu:=(rfl)
theorem abG{b:Bool}{l:List AV}:view σ false (k+1) (.au b l)=some (.au false l):=(rfl)
theorem abH{l:List AV}:view σ fr (k+1) (.agg l)=match bI (view σ fr k) l with
 |none=>none
 |some l=>some (.agg l):=(rfl)
theorem abI{n:Int}:view σ fr vd (.int n)=some (.int n):=(rfl)
theorem abJ{n:Bool}:view σ fr vd (.bool n)=some (.bool n):=(rfl)
theorem abK{n:List UInt8}:view σ fr vd (.str n)=some (.str n):=(rfl)
theorem abL:view σ fr vd .ae=some (.au false []):=(rfl)
theorem abM:view σ fr vd .gu=some .gu:=(rfl)
theorem abN{b:Bool}{l:List AV}:view σ false vd (.au b l)=some (.au false l):=(rfl)
theorem abO{l:List AV}:view σ fr vd (.agg l)=match bI (view σ fr 11) l with
 |none=>none
 |some l=>some (.agg l):=(rfl)
end
section
variable{σ:List ah}{fr:Bool}
theorem abP{n:Int}:bV σ fr (.int n)=some (.int n):=(rfl)
theorem abQ{n:Bool}:bV σ fr (.bool n)=some (.bool n):=(rfl)
theorem abR{n:List UInt8}:bV σ fr (.str n)=some (.str n):=(rfl)
theorem abS:bV σ fr .ae=some (.au false []):=(rfl)
theorem abT:bV σ fr .gu=some .gu:=(rfl)
theorem abU{b:Bool}{l:List AV}:bV σ false (.au b l)=some (.au false l):=(rfl)
theorem abV{b u off len:Nat}:bV σ fr (.sl b u off len)=view σ fr vd (.sl b u off len):=(rfl)
theorem abW{b u off:Nat}:bV σ fr (.ptr b u off)=view σ fr vd (.ptr b u off):=(rfl)
theorem Aq{l:List AV}:bV σ fr (.agg l)=view σ fr vd (.agg l):=(rfl)
theorem abX{t:Nat}{l:AV}:bV σ fr (.iface t l)=view σ fr vd (.iface t l):=(rfl)
theorem abY{l:List AV}:bV σ fr (.bF l)=match bI (view σ fr vd) l with
  |none=>none
  |some l=>some (.bF l):=(rfl)
end
attribute [simp] abP abQ abR abS abT abU abV abW Aq abX abY
attribute [simp] abB abC abD abE abF abG abH abI abJ abK abL abM abN abO a8
attribute [simp ↓] ag abz abA Yt Yu Yv Yh Yj Ym Yn Yo Yp Yq Yr Yw Yx Yy Yz YA YB YC YD YE abw abx aby
theorem abZ (n:Int):AV.cells (.int n)=[(.int n)]:=(rfl)
theorem ab0 (n:Int):bg (.int n)=true:=(rfl)
theorem ab1 (n:Int):wk (.int n)=(.int n):=(rfl)
theorem ab2 (n:Int):fD (.int n)=(.int n):=(rfl)
theorem ab3 (k:Nat) (n:Int):AV.cells (.ik k n)=[(.ik k n)]:=(rfl)
theorem ab4 (k:Nat) (n:Int):bg (.ik k n)=true:=(rfl)
theorem N7 (k:Nat) (n:Int):wk (.ik k n)=(.ik k n):=(rfl)
theorem ab5 (k:Nat) (n:Int):fD (.ik k n)=(.ik k n):=(rfl)
theorem ab6 (b:Bool):AV.cells (.bool b)=[(.bool b)]:=(rfl)
theorem ab7 (b:Bool):bg (.bool b)=true:=(rfl)
theorem ab8 (b:Bool):wk (.bool b)=(.bool b):=(rfl)
theorem ab9 (b:Bool):fD (.bool b)=(.bool b):=(rfl)
theorem aca (l:List UInt8):AV.cells (.str l)=[(.str l)]:=(rfl)
theorem acb (l:List UInt8):bg (.str l)=true:=(rfl)
theorem acd (l:List UInt8):wk (.str l)=(.str l):=(rfl)
theorem ace (l:List UInt8):fD (.str l)=(.str l):=(rfl)
theorem acf  : AV.cells .ae=[.ae]:=(rfl)
theorem acg  : bg .ae=true:=(rfl)
theorem ach  : wk .ae=(.au false []):=(rfl)
theorem aci  : fD .ae=(.au false []):=(rfl)
theorem acj (b:Bool) (l:List AV):AV.cells (.au b l)=[(.au b l)]:=(rfl)
theorem ack (b:Bool) (l:List AV):bg (.au b l)=true:=(rfl)
theorem acm (b:Bool) (l:List AV):wk (.au b l)=(.au false l):=(rfl)
theorem acn (b:Bool) (l:List AV):fD (.au b l)=(.au false l):=(rfl)
theorem aco (l:List AV):AV.cells (.arr l)=[(.arr l)]:=(rfl)
theorem acp (l:List AV):bg (.arr l)=true:=(rfl)
theorem acq (l:List AV):wk (.arr l)=(.arr l):=(rfl)
theorem acr (l:List AV):fD (.arr l)=(.arr l):=(rfl)
theorem acs (b u o n:Nat):AV.cells (.sl b u o n)=[(.sl b u o n)]:=(rfl)
theorem acu (b u o n:Nat):bg (.sl b u o n)=true:=(rfl)
theorem N8 (b u o n:Nat):wk (.sl b u o n)=(.sl b u o n):=(rfl)
theorem acv (b u o n:Nat):fD (.sl b u o n)=(.sl b u o n):=(rfl)
theorem acw  : AV.cells .gI=[.gI]:=(rfl)
theorem acx  : bg .gI=true:=(rfl)
theorem acy  : wk .gI = .gI:=(rfl)
theorem acz  : fD .gI = .gI:=(rfl)
theorem acA (v:AV):AV.cells (.aV v)=[(.aV v)]:=(rfl)
theorem acB (v:AV):bg (.aV v)=true:=(rfl)
theorem acC (v:AV):wk (.aV v)=(.aV v):=(rfl)
theorem acD (v:AV):fD (.aV v)=(.aV v):=(rfl)
theorem acE (b:Nat):AV.cells (.cC b)=[(.cC b)]:=(rfl)
theorem acF (b:Nat):bg (.cC b)=true:=(rfl)
theorem acG (b:Nat):wk (.cC b)=(.cC b):=(rfl)
theorem acH (b:Nat):fD (.cC b)=(.cC b):=(rfl)
theorem acI (b u o:Nat):AV.cells (.ptr b u o)=[(.ptr b u o)]:=(rfl)
theorem acJ (b u o:Nat):bg (.ptr b u o)=true:=(rfl)
theorem acK (b u o:Nat):wk (.ptr b u o)=(.ptr b u o):=(rfl)
theorem acL (b u o:Nat):fD (.ptr b u o)=(.ptr b u o):=(rfl)
theorem acM  : AV.cells .j9=[.j9]:=(rfl)
theorem acN  : bg .j9=true:=(rfl)
theorem acO  : wk .j9 = .j9:=(rfl)
theorem acP  : fD .j9 = .j9:=(rfl)
theorem acQ (f:Nat) (l:List AV):AV.cells (.func f l)=[(.func f l)]:=(rfl)
theorem acR (f:Nat) (l:List AV):bg (.func f l)=true:=(rfl)
theorem acS (f:Nat) (l:List AV):wk (.func f l)=(.func f l):=(rfl)
theorem acT (f:Nat) (l:List AV):fD (.func f l)=(.func f l):=(rfl)
theorem acU  : AV.cells .gu=[.gu]:=(rfl)
theorem acV  : bg .gu=true:=(rfl)
theorem acW  : wk .gu = .gu:=(rfl)
theorem acX  : fD .gu = .gu:=(rfl)
theorem acY (t:Nat) (v:AV):AV.cells (.iface t v)=[(.iface t v)]:=(rfl)
theorem acZ (t:Nat) (v:AV):bg (.iface t v)=true:=(rfl)
theorem ac0 (t:Nat) (v:AV):wk (.iface t v)=(.iface t v):=(rfl)
theorem ac1 (t:Nat) (v:AV):fD (.iface t v)=(.iface t v):=(rfl)
theorem ac2 (l:List AV):AV.cells (.agg l)=l:=(rfl)
theorem ac3 (l:List AV):wk (.agg l) = .agg (l.map fD):=(rfl)
theorem ac4 (l:List AV):fD (.agg l) = .agg l:=(rfl)
def du:AV->Bool
 |.aF | .bF _ | .agg _=>false
 |_=>true
theorem ac5 (l:List AV):bg (.agg l)=l.all du:=by
 rfl
theorem ac6 (n:Int):du (.int n)=true:=(rfl)
theorem ac7 (k:Nat) (n:Int):du (.ik k n)=true:=(rfl)
theorem ac8 (b:Bool):du (.bool b)=true:=(rfl)
theorem ac9 (l:List UInt8):du (.str l)=true:=(rfl)
theorem ada  : du .ae=true:=(rfl)
theorem adb (b:Bool) (l:List AV):du (.au b l)=true:=(rfl)
theorem ade (l:List AV):du (.arr l)=true:=(rfl)
theorem adf (b u o n:Nat):du (.sl b u o n)=true:=(rfl)
theorem adg  : du .gI=true:=(rfl)
theorem adh (v:AV):du (.aV v)=true:=(rfl)
theorem adi (b u o:Nat):du (.ptr b u o)=true:=(rfl)
theorem adj  : du .j9=true:=(rfl)
theorem adk (f:Nat) (l:List AV):du (.func f l)=true:=(rfl)
theorem adl  : du .gu=true:=(rfl)
theorem adm (t:Nat) (v:AV):du (.iface t v)=true:=(rfl)
attribute [simp] acE acF acG acH abZ ab0 ab1 ab2 ab3 ab4 N7 ab5 ab6 ab7 ab8 ab9 aca acb acd ace acf acg ach aci acj ack acm acn aco acp acq acr acs acu N8 acv acw acx acy acz acA acB acC acD acI acJ acK acL acM acN acO acP acQ acR acS acT acU acV acW acX acY acZ ac0 ac1 ac2 ac3 ac4 ac5 ac6 ac7 ac8 ac9 ada adb ade adf adg adh adi adj adk adl adm
attribute [simp] results bI iY rv nth eu dC outs xA part lQ ax aI
theorem adn{st:Nat}:fitAll st []=true:=(rfl)
theorem N9{st:Nat}{x:AV}{l:List AV}:fitAll st (x::l)=(x.cells.length==st&&bg x&&fitAll st l):=(rfl)
theorem Ar{a:Type}{f:a->AV}{st:Nat}(h:∀x,(f x).cells.length=st/\bg (f x)=true):∀{l:List a},fitAll st (l.map f)=true
 | []=>rfl
 |x::l=>by simp only[cJ,N9,h x,Ar h (l:=l),kE,Bool.and_self]
theorem ado{l:List Int}:fitAll 1 (l.map .int)=true:=Ar (f:=AV.int) λ_=>⟨rfl,rfl⟩
theorem adp{l:List Bool}:fitAll 1 (l.map .bool)=true:=Ar (f:=AV.bool) λ_=>⟨rfl,rfl⟩
theorem adq{a:Type}{b:Bool}{f:a->List AV}{l:List a}:fitAll 1 (l.map λx=>.au b (f x))=true:=Ar (f:=λx=>AV.au b (f x)) λ_=>⟨rfl,rfl⟩
theorem xC{a:Type}{f:a->AV}(h:∀x,(f x).cells=[f x]):∀{l:List a},(l.map f).flatMap AV.cells=l.map f
 | []=>rfl
 |x::l=>by simp only[cJ,gX,h x,xC h (l:=l)];rfl
theorem adr{l:List Int}:(l.map AV.int).flatMap AV.cells=l.map .int:=xC (f:=AV.int) λ_=>rfl
theorem ads{l:List Bool}:(l.map AV.bool).flatMap AV.cells=l.map .bool:=xC (f:=AV.bool) λ_=>rfl
theorem adt{a:Type}{b:Bool}{f:a->List AV}{l:List a}:(l.map λx=>AV.au b (f x)).flatMap AV.cells=l.map λx=>.au b (f x):=xC (f:=λx=>AV.au b (f x)) λ_=>rfl
attribute [simp] adn N9 ado adp adq adr ads adt
theorem adu:eM.isLive .live=true:=(rfl)
theorem adv:eM.isLive .jq=false:=(rfl)
theorem adw:aE none=1:=(rfl)
theorem adx{n:Nat}:aE (some n)=n:=(rfl)
theorem ady:sz none none=true:=(rfl)
theorem adz{a b:Nat}:sz (some a) (some b)=(a==b):=(rfl)
attribute [simp] adu adv adw adx ady adz
@[reducible] def pK:List AV->List AV->List AV
 |cs,[]=>cs
 | [],_=>[]
 |_::cs,y::new=>y::pK cs new
@[reducible] def jN:List AV->Nat->List AV->List AV
 |cs,0,new=>pK cs new
 | [],_,_=>[]
 |x::cs,n+1,new=>x::jN cs n new
theorem Oa:∀{cs new:List AV},new.length<=cs.length->pK cs new=new++cs.drop new.length
 |cs,[],_=>by cases cs<;>simp[pK]
 | [],y::new,h=>by simp at h
 |c::cs,y::new,h=>by simp[pK,Oa (cs:=cs) (new:=new) (by simpa using h)]
theorem uo:∀{cs:List AV}{o:Nat}{new:List AV},o+new.length<=cs.length->putAt cs o new=jN cs o new
 |cs,0,new,h=>by
  have e:jN cs 0 new=pK cs new:=by cases cs<;>rfl
  rw[e,Oa (by simpa using h)];simp[putAt]
 | [],o+1,new,h=>by simp at h
 |c::cs,o+1,new,h=>by
  have e:=uo (cs:=cs) (o:=o) (new:=new) (by simp at h;omega)
  simp only[jN];rw[<-e];simp only[putAt,List.take_succ_cons,jI]
  congr 2
  rw[show o+1+new.length=(o+new.length)+1 by omega,List.drop_succ_cons]
section
variable{K:List AV->Prop}{t:Tk K}
theorem Ob{cs:List AV}{o:Nat}{new:List AV}:pU cs o new K t=(o+new.length<=cs.length/\nL (jN cs o new) K .k):=by
 unfold pU xx nL
 by_cases h:o+new.length<=cs.length
 .simp only[h,true_and];rw[uo h]
 .simp[h]
variable{o:Nat}
theorem Oc{a:Type}{f:a->AV}{xs:List a}{y:a}(h:o<xs.length):putAt (xs.map f) o [f y]=(xs.set o y).map f:=by
 unfold putAt;rw[List.set_eq_take_append_cons_drop,ab h];simp[List.map_take,List.map_drop]
theorem tn{a:Type}{f:a->AV}{xs:List a}{y:a}:pU (xs.map f) o [f y] K t=(o<xs.length/\K ((xs.set o y).map f)):=by
 unfold pU xx
 by_cases h:o<xs.length
 .simp only[cY,List.length_singleton,Oc h]
  simp[h];omega
 .simp[h]
  intro b; omega
theorem adA{xs:List Int}{o:Nat}{y:Int}:pU (xs.map .int) o [AV.int y] K t=(o<xs.length/\K ((xs.set o y).map .int)):=tn
theorem adB{xs:List Bool}{o:Nat}{y:Bool}:pU (xs.map .bool) o [AV.bool y] K t=(o<xs.length/\K ((xs.set o y).map .bool)):=tn
theorem Od{xs:List (List Int)}{o:Nat}{y:List Int}:pU (xs.map iL) o [AV.au false (y.map .int)] K t=(o<xs.length/\K ((xs.set o y).map iL)):=tn
theorem Oe{xs:List (List Bool)}{o:Nat}{y:List Bool}:pU (xs.map bL) o [AV.au false (y.map .bool)] K t=(o<xs.length/\K ((xs.set o y).map bL)):=tn
theorem adC{xs:List Int}{n:Int}{y:Int}:pU (xs.map .int) (0+n.toNat*1) [AV.int y] K t=(n.toNat<xs.length/\K ((xs.set n.toNat y).map .int)):=by
 rw[show 0+n.toNat*1=n.toNat by omega];exact tn
theorem adD{xs:List Bool}{n:Int}{y:Bool}:pU (xs.map .bool) (0+n.toNat*1) [AV.bool y] K t=(n.toNat<xs.length/\K ((xs.set n.toNat y).map .bool)):=by
 rw[show 0+n.toNat*1=n.toNat by omega];exact tn
theorem adE{xs:List Int}:nC (xs.map .int) K t=K (xs.map .int):=(rfl)
theorem adF{xs:List Bool}:nC (xs.map .bool) K t=K (xs.map .bool):=(rfl)
theorem Of{xs:List (List Int)}:nC (xs.map iL) K t=K (xs.map iL):=(rfl)
theorem As{a:Type}{f:a->AV}{xs:List a}{y:a}:nC (xs.map f ++ [f y]) K t=K ((xs ++ [y]).map f):=by simp[nC]
theorem adG{xs:List Int}{y:Int}:nC (xs.map .int ++ [.int y]) K t=K ((xs ++ [y]).map .int):=As
theorem adH{xs:List Bool}{y:Bool}:nC (xs.map .bool ++ [.bool y]) K t=K ((xs ++ [y]).map .bool):=As
theorem adI{xs:List (List Int)}{y:List Int}:nC (xs.map iL ++ [.au false (y.map .int)]) K t=K ((xs ++ [y]).map iL):=As
theorem adJ{xs:List (List Bool)}{y:List Bool}:nC (xs.map bL ++ [.au false (y.map .bool)]) K t=K ((xs ++ [y]).map bL):=As
theorem adK{a:Type}{f:a->AV}{xs ys:List a}:nC (xs.map f++ys.map f) K t=K ((xs++ys).map f):=by simp[nC]
theorem adL{y:AV}:nC ([] ++ [y]) K t=K [y]:=(rfl)
theorem adM{ys:List AV}:nC ([]++ys) K t=K ys:=(rfl)
theorem adN:nC [] K t=K []:=(rfl)
theorem adO{x:AV}:nC [x] K t=K [x]:=(rfl)
theorem adP{xs:List Int}{o:Nat}{y:Int}(h:o<xs.length):nC (putAt (xs.map .int) o [.int y]) K t=K ((xs.set o y).map .int):=by
 unfold nC;rw[Oc h]
theorem EB{n:Nat}{x:AV}:nC (dI n [x]) K t=K (List.replicate n x):=by
 unfold nC dI;congr 1;simp
theorem adQ{n:Nat}{b:Bool}:nC (dI n [.bool b]) K t=K ((List.replicate n b).map .bool):=by rw[EB];simp
theorem adR{n:Nat}{b:Int}:nC (dI n [.int b]) K t=K ((List.replicate n b).map .int):=by rw[EB];simp
theorem EC{a:Type}{f:a->AV}(h:∀x,(f x).cells=[f x]){xs:List a}:nC ((xs.map f).flatMap AV.cells) K t=K (xs.map f):=by rw[xC h];rfl
theorem adS{xs:List Int}:nC ((xs.map AV.int).flatMap AV.cells) K t=K (xs.map .int):=EC λ_=>rfl
theorem adT{xs:List Bool}:nC ((xs.map AV.bool).flatMap AV.cells) K t=K (xs.map .bool):=EC λ_=>rfl
theorem adU{xs:List (List Int)}:nC ((xs.map iL).flatMap AV.cells) K t=K (xs.map iL):=EC λ_=>rfl
end
section
variable{K:AV->Prop}{t:Tk K}
theorem CP{a:Type} [Inhabited a]{f:a->AV}{xs:List a}{n:Int}:pT (xs.map f) (0+n.toNat*1) none K t=(n.toNat<xs.length/\K (f (ix xs n))):=by
 unfold pT part;rw[show 0+n.toNat*1=n.toNat by omega]
 simp only[jM,fS,ix,eE]
 by_cases h:n.toNat<xs.length
 .rw[cO h];simp[aL,h]
 .rw[jh (by omega)];simp[aL,h]
theorem adV{a:Type} [Inhabited a]{f:a->AV}{xs:List a}{n:Nat}:pT (xs.map f) n none K t=(n<xs.length/\K (f (ix xs n))):=by
 have:=CP (K:=K) (t:=t) (f:=f) (xs:=xs) (n:=n);simpa using this
end
section
variable{K:AV->Prop}{t:Tk K}
end
theorem Og{L:CE}{f:Nat}{l:List AV}{σ:List ah}{K:AV->List ah->Prop}{t:Tk K}:lX L f l σ K t=oK (L f l σ) (λp=>K p.1 p.2) .k:=(rfl)
attribute [simp ↓ 20000] adA adB Od Oe adC adD CP adE adF Of adG adH adI adJ adK adL adM adN adO adP adQ adR adS adT adU
attribute [simp ↓] Ob EB Og
attribute [simp ↓ 10500] adV
theorem adW:dz=1073741824:=(rfl)
attribute [simp] adW
def lE{a:Type}:List a->eM
 | []=>.jq
 |_::_=>.live
theorem adX{a:Type}:lE ([]:List a) = .jq:=(rfl)
theorem adY{a:Type}{x:a}{l:List a}:lE (x::l) = .live:=(rfl)
theorem adZ{a:Type}{l:List a}:(lE l).eT=true:=by cases l<;>rfl
theorem ad0:eM.eT .live=true:=rfl
theorem ad1:eM.eT .jq=true:=rfl
theorem ad2:eM.eT .dead=false:=rfl
theorem ad3{es:List (AV×AV)}:eM.eT (.map es)=false:=rfl
theorem ad4{a:Type}{x:a}{l:List a}:lE (l ++ [x]) = .live:=by cases l<;>rfl
theorem ad5{a:Type}{k:Nat}{x:a}{l:List a}:lE (l.set k x)=lE l:=by cases l<;>cases k<;>rfl
theorem ad6{a:Type}{l:List a}:((lE l).isLive=true)=(l ≠ []):=by cases l<;>simp[lE,eM.isLive]
theorem ad7{a b:Type}{f:a->b}{l:List a}:lE (l.map f)=lE l:=by cases l<;>rfl
attribute [simp] adX adY adZ ad0 ad1 ad2 ad3 ad4 ad5 ad6 ad7
theorem az{b:Type}{f:b->List (Nat×AV)}{g:b->List ah}{I:b->Prop}{e:b->Nat}{m:Nat}{vs d : List AV}{σ:List ah}{Q:Ex->St->Prop}(a:b) (h:d = a8 (f a) vs) (i:σ=g a) (j:I a) (l:e a<m):More f g I e m vs Q .eU ⟨d, none,σ⟩:=⟨a,by rw[h,i],j,l⟩
theorem ad8{cs:List AV}{K:List AV->Prop}{t:Tk K}:oK (gx cs []) K t=K cs:=(rfl)
theorem ad9{cs:List AV}{o n:Nat}{x:AV}{r:List (Nat×Nat×AV)}{K:List AV->Prop}{t:Tk K}:oK (gx cs ((o,n,x)::r)) K t=nx x (λx=>(x.cells.length=n/\o+n<=cs.length/\bg x=true)/\nL (jN cs o x.cells) (λcs=>oK (gx cs r) K .k) .k) .k:=by
 unfold nx nL oK
 by_cases h:x.cells.length=n/\o+n<=cs.length/\bg x=true
 .have e:=uo (cs:=cs) (o:=o) (new:=x.cells) (by rw[h.1];exact h.2.1)
  simp only[h,and_self,true_and,gx,<-e];simp[h]
 .have e:gx cs ((o,n,x)::r)=none:=by
   unfold gx;rw[aa];simp only[aA,cF,dY,and_assoc];exact h
  rw[e];simp only[h,false_and,aL]
attribute [simp ↓] ad8 ad9
end Ab
