/- The interpreter with as much fuel as is wanted: more fuel gives the same answer; the limit, and that it is reached. What is to be shown of a run of the interpreter, as a formula that simp can print. How each line of a region reads: one rule a kind of line. Rules for simp: how the conditions of a run read. More rules for simp: cells of blocks as lists of numbers. Condition: none. -/
import Derived.Test.YtcdccenbhiddcaaGreatAbCore
set_option linter.all false
namespace Ab
def CE.le (a b:CE):Prop:=∀f args σ x,a f args σ=some x->b f args σ=some x
variable{a b:CE}
def pK(h:CE.le a b){f:Nat}{args:List AV}{x:AV}(e:iu a f args=some x):iu b f args=some x:=by
 unfold iu at e ⊢;split at e
 case isFalse=>simp at e
 rename_i hn;rw[ah hn];cases hc:a f (args.map wk) []with
 |none=>simp[hc]at e
 |some r=>rw[h _ _ _ _ hc];simpa[hc]using e
variable{r:Rf->AV}{o:bZ}
def ue(h:CE.le a b){σ:List aj}{nl:Nat}{ps:List bI}{x:AV×Option bI}(e:ev a σ nl ps r o=some x):ev b σ nl ps r o=some x:=by
 cases o
 case kG f args=>
  simp only[ev,jP]at e ⊢;obtain⟨y,h1,h2⟩:=e;exact⟨y,pK h h1,h2⟩
 case gP y args=>
  simp only[ev]at e ⊢;cases hr:r y<;>simp only[hr]at e<;>try(simp at e;done)
  simp only[jP]at e ⊢;obtain⟨y,h1,h2⟩:=e;exact⟨y,pK h h1,h2⟩
 case inv y rp args=>
  simp only[ev]at e ⊢;cases hr:r y<;>simp only[hr]at e<;>try(simp at e;done)
  rename_i t v;cases ht:fH rp t with
  |none=>simp[ht]at e
  |some f=>
   simp only[ht,jP]at e ⊢;obtain⟨y,h1,h2⟩:=e;exact⟨y,pK h h1,h2⟩
 case can f args=>
  simp only[ev]at e ⊢;split at e
  case isFalse=>simp at e
  rename_i hn;rw[ah hn];cases hc:a f (args.map r) []with
  |none=>simp[hc]at e
  |some q=>rw[h _ _ _ _ hc];simpa[hc]using e
 case nY f args=>
  simp only[ev]at e ⊢;cases hm:aM (λx=>view σ false vd (r x)) args with
  |none=>simp[hm]at e
  |some vs=>
   simp only[hm]at e ⊢;cases hc:a f vs []with
   |none=>simp[hc]at e
   |some q=>rw[h _ _ _ _ hc];simpa[hc]using e
 all_goals exact e
def NG(h:CE.le a b){σ:List aj}{x:AV×List aj}(e:dO a σ r o=some x):dO b σ r o=some x:=by
 cases o
 case lF f args=>exact h _ _ _ _ e
 case mU y args=>
  simp only[dO]at e ⊢;cases hr:r y<;>simp only[hr]at e<;>try(simp at e;done)
  exact h _ _ _ _ e
 case mV y rp args=>
  simp only[dO]at e ⊢;cases hr:r y<;>simp only[hr]at e<;>try(simp at e;done)
  rename_i t v;cases ht:fH rp t with
  |none=>simp[ht]at e
  |some f=>simp only[ht]at e ⊢;exact h _ _ _ _ e
 case st=>exact e
 case bB=>exact e
 case oY=>exact e
 case qH=>exact e
 case ju=>exact e
 case Cb=>exact e
 all_goals
  simp only[dO]at e ⊢;split at e
  .rename_i hc;rw[ue h hc];exact e
  .rename_i hc;rw[ue h hc];exact e
  .simp at e
def D4(h:CE.le a b){vars:List AV}{s s' : LS}{l:Ln}(e:bS a vars s l=some s'):bS b vars s l=some s' :=by
 unfold bS at e ⊢;split at e
 .simp at e
 .exact e
 .split at e
  .rename_i f
   rw[ah f];split at e
   .rename_i d;rw[NG h d];exact e
   .simp at e
  .rename_i f
   rw[ae f];split at e
   .rename_i d;rw[ue h d];exact e
   .rename_i d;rw[ue h d];exact e
   .simp at e
def xO{a b:CE}(h:CE.le a b){vars:List AV}:∀{ls:List Ln}{s s' : LS},lines a vars ls s=some s' ->lines b vars ls s=some s'
 | [],_,_,e=>e
 |l::ls,s,s', e=>by
  simp only[lines]at e ⊢;cases d:bS a vars s l with
  |none=>simp[d]at e
  |some q=>rw[D4 h d];simp only[d]at e;exact xO h e
def NH(h:CE.le a b){r:dt}{s s' : St}(e:aT a r s=some s'):aT b r s=some s' :=by
 unfold aT at e ⊢;cases d:lines a s.vars r.ls ⟨[],s.σ,s.σ⟩with
 |none=>simp[d]at e
 |some q=>rw[xO h d];simpa[d]using e
def rN{f g:St->Option (Ex×St)}(h:∀s x,f s=some x->g s=some x):∀{n m:Nat}{s:St}{x:Ex×St},n<=m->iter f n s=some x->iter g m s=some x
 |0,_,_,_,_,e=>by simp[iter]at e
 |n+1,0,_,_,b,_=>by omega
 |n+1,m+1,s,x,b,e=>by
  simp only[iter]at e ⊢;cases a:f s with
  |none=>simp[a]at e
  |some q=>
   rw[h _ _ a];obtain⟨d,i⟩:=q;cases d with
   |c5=>simp only[a]at e ⊢;exact rN h aa e
   |exit j=>simpa[a]using e
   |ret=>simpa[a]using e
def jX(h:CE.le a b){n m:Nat}(u:n<=m):∀(c:IC) (s:St) (x:Ex×St),exec n a c s=some x->exec m b c s=some x:=by
 intro c
 induction c with
 |skip=>intro s x e;simpa[exec]using e
 |bM r=>
  intro s x e;simp only[exec]at e ⊢;cases f:aT a r s with
  |none=>simp[f]at e
  |some q=>rw[NH h f];simpa[f]using e
 |seq c d g i=>
  intro s x e;simp only[exec]at e ⊢;cases f:exec n a c s with
  |none=>simp[f]at e
  |some q=>
   rw[g _ _ f];obtain⟨w,y⟩:=q;cases w with
   |c5=>simp only[f]at e ⊢;exact i _ _ e
   |exit j=>simpa[f]using e
   |ret=>simpa[f]using e
 |cond t c d g i=>
  intro s x e;simp only[exec]at e ⊢;split at e
  .split at e
   .split at e
    .rename_i f o p;rw[ah o,ah p];exact g _ _ e
    .rename_i f o p;rw[ah o,ae p];exact i _ _ e
   .simp at e
  .simp at e
 |fh k c d g i=>
  intro s x e;simp only[exec]at e ⊢;split at e
  .split at e
   .rename_i f o;rw[ah o];exact g _ _ e
   .rename_i f o;rw[ae o];exact i _ _ e
  .simp at e
 |block id c l=>
  intro s x e;simp only[exec]at e ⊢;cases f:exec n a c s with
  |none=>simp[f]at e
  |some q=>rw[l _ _ f];simpa[f]using e
 |loop c l=>
  intro s x e;simp only[exec]at e ⊢;exact rN l u e
 |exit id=>intro s x e;simpa[exec]using e
 |ret=>intro s x e;simpa[exec]using e
 |mW k=>intro s x e;simpa[exec]using e
 |bad=>intro s x e;simp[exec]at e
 |cut b c l=>intro s x e;simp only[exec]at e ⊢;exact l _ _ e
 |rq c l=>intro s x e;simp only[exec]at e ⊢;exact l _ _ e
 |lex c l=>
  intro s x e;simp only[exec]at e ⊢;cases f:exec n a c s with
  |none=>simp[f]at e
  |some q=>rw[l _ _ f];simpa[f]using e
def cH (Q:gH):Prop:=∀f p,Q f=some p->∀a b:CE,CE.le a b->∀args d v,p a args d=some v->p b args d=some v
section
variable{G:Nat->Option Fn}{Q:gH}
def uf (hQ:cH Q){n m:Nat}(hn:n<=m):∀{d e:Nat},d<=e->CE.le (b9 G Q n d) (b9 G Q m e)
 |0,_,_=>λf args σ x h=>by simp[b9]at h
 |d+1,0,h=>by omega
 |d+1,e+1,hd=>λf args σ x h=>by
  have ih:=uf hQ hn (show d<=e by omega)
  simp only[b9]at h ⊢;cases hq:Q f with
  |some p=>
   simp only[hq]at h ⊢;exact hQ f p hq _ _ ih _ _ _ h
  |none=>
   simp only[hq]at h ⊢;cases hg:G f with
   |none=>simp[hg]at h
   |some fn=>
    simp only[hg]at h ⊢;split at h
    case isFalse=>simp at h
    rename_i hl;rw[ah hl];cases he:exec n (b9 G Q n d) fn.body {vars:=args++List.replicate (fn.nv-fn.np) .au,fl:=none,σ}with
    |none=>simp[he]at h
    |some q=>rw[jX ih hn _ _ _ he];simpa[he]using h
def cN (G:Nat->Option Fn) (Q:gH) (n:Nat):CE:=b9 G Q n n
def mQ (b:cH Q){n m:Nat}(a:n<=m):CE.le (cN G Q n) (cN G Q m):=uf b a a
open Classical in
noncomputable def lim (G:Nat->Option Fn) (Q:gH):CE:=λf args a=>if h:∃x,∃N,cN G Q N f args a=some x then some (choose h)else none
variable{args:List AV}{x:AV×List aj}
def ug (a:cH Q){N f:Nat}{σ:List aj}(h:cN G Q N f args σ=some x):lim G Q f args σ=some x:=by
 have b:∃x,∃N,cN G Q N f args σ=some x:=⟨x,N,h⟩;unfold lim;rw[dif_pos b];obtain⟨M,e⟩:=Classical.choose_spec b;have g:=mQ (G:=G) a (Nat.le_max_left N M) _ _ _ _ h;have d:=mQ (G:=G) a (Nat.le_max_right N M) _ _ _ _ e;rw[g]at d;exact d.symm
def nh{f:Nat}{σ:List aj}(h:lim G Q f args σ=some x):∃N,cN G Q N f args σ=some x:=by
 unfold lim at h;split at h
 .rename_i a
  obtain⟨M,b⟩:=Classical.choose_spec a;exact⟨M,by rw[b];exact h⟩
 .simp at h
variable (hQ:cH Q)
include hQ
variable{args:List AV}
theorem tR{f:Nat}{x:AV}(e:iu (lim G Q) f args=some x):∃N,iu (cN G Q N) f args=some x:=by
 unfold iu at e;split at e
 case isFalse=>simp at e
 rename_i hn;cases hc:lim G Q f (args.map wk) []with
 |none=>simp[hc]at e
 |some r=>
  obtain⟨N,hN⟩:=nh hc;exact⟨N,by unfold iu;rw[ah hn,hN];simpa[hc]using e⟩
variable{r:Rf->AV}{o:bZ}
theorem uh{σ:List aj}{nl:Nat}{ps:List bI}{x:AV×Option bI}(e:ev (lim G Q) σ nl ps r o=some x):∃N,ev (cN G Q N) σ nl ps r o=some x:=by
 cases o
 case kG f args=>
  simp only[ev,jP]at e ⊢;obtain⟨y,h1,h2⟩:=e;obtain⟨N,hN⟩:=tR hQ h1;exact⟨N,y,hN,h2⟩
 case gP y args=>
  simp only[ev]at e ⊢;cases hr:r y<;>simp only[hr]at e<;>try(simp at e;done)
  simp only[jP]at e ⊢;obtain⟨y,h1,h2⟩:=e;obtain⟨N,hN⟩:=tR hQ h1;exact⟨N,y,hN,h2⟩
 case inv y rp args=>
  simp only[ev]at e ⊢;cases hr:r y<;>simp only[hr]at e<;>try(simp at e;done)
  rename_i t v;cases ht:fH rp t with
  |none=>simp[ht]at e
  |some f=>
   simp only[ht,jP]at e ⊢;obtain⟨y,h1,h2⟩:=e;obtain⟨N,hN⟩:=tR hQ h1;exact⟨N,y,hN,h2⟩
 case can f args=>
  simp only[ev]at e ⊢;split at e
  case isFalse=>simp at e
  rename_i hn;cases hc:lim G Q f (args.map r) []with
  |none=>simp[hc]at e
  |some q=>
   obtain⟨N,hN⟩:=nh hc;exact⟨N,by rw[ah hn,hN];simpa[hc]using e⟩
 case nY f args=>
  simp only[ev]at e ⊢;cases hm:aM (λx=>view σ false vd (r x)) args with
  |none=>simp[hm]at e
  |some vs=>
   simp only[hm]at e ⊢;cases hc:lim G Q f vs []with
   |none=>simp[hc]at e
   |some q=>
    obtain⟨N,hN⟩:=nh hc;exact⟨N,by rw[hN];simpa[hc]using e⟩
 all_goals exact⟨0,e⟩
theorem NI{σ:List aj}{x:AV×List aj}(e:dO (lim G Q) σ r o=some x):∃N,dO (cN G Q N) σ r o=some x:=by
 cases o
 case lF f args=>exact nh e
 case mU y args=>
  simp only[dO]at e ⊢;cases hr:r y<;>simp only[hr]at e<;>try(simp at e;done)
  exact nh e
 case mV y rp args=>
  simp only[dO]at e ⊢;cases hr:r y<;>simp only[hr]at e<;>try(simp at e;done)
  rename_i t v;cases ht:fH rp t with
  |none=>simp[ht]at e
  |some f=>simp only[ht]at e ⊢;exact nh e
 case st=>exact⟨0,e⟩
 case bB=>exact⟨0,e⟩
 case oY=>exact⟨0,e⟩
 case qH=>exact⟨0,e⟩
 case ju=>exact⟨0,e⟩
 case Cb=>exact⟨0,e⟩
 all_goals
  simp only[dO]at e ⊢;split at e
  .rename_i hc;obtain⟨N,hN⟩:=uh hQ hc;exact⟨N,by rw[hN];exact e⟩
  .rename_i hc;obtain⟨N,hN⟩:=uh hQ hc;exact⟨N,by rw[hN];exact e⟩
  .simp at e
theorem NJ{vars:List AV}{s s' : LS}{l:Ln}(e:bS (lim G Q) vars s l=some s'):∃N,bS (cN G Q N) vars s l=some s' :=by
 unfold bS at e ⊢;cases h:want vars s.env l.g with
 |none=>simp[h]at e
 |some b=>
  cases b with
  |false=>exact⟨0,by simpa[h]using e⟩
  |true=>
   simp only[h]at e ⊢;split at e
   .rename_i f
    split at e
    .rename_i a;obtain⟨N,d⟩:=NI hQ a;exact⟨N,by rw[ah f,d];exact e⟩
    .simp at e
   .rename_i f
    split at e
    .rename_i a;obtain⟨N,d⟩:=uh hQ a;exact⟨N,by rw[ae f,d];exact e⟩
    .rename_i a;obtain⟨N,d⟩:=uh hQ a;exact⟨N,by rw[ae f,d];exact e⟩
    .simp at e
theorem D5{vars:List AV}:∀{ls:List Ln}{s s' : LS},lines (lim G Q) vars ls s=some s' ->∃N,lines (cN G Q N) vars ls s=some s'
 | [],_,_,e=>⟨0,e⟩
 |l::ls,s,s', e=>by
  simp only[lines]at e ⊢;cases a:bS (lim G Q) vars s l with
  |none=>simp[a]at e
  |some q=>
   simp only[a]at e;obtain⟨N,b⟩:=NJ hQ a;obtain⟨M,d⟩:=D5 e;refine⟨max N M,?_⟩;rw[D4 (mQ hQ (Nat.le_max_left N M)) b];exact xO (mQ hQ (Nat.le_max_right N M)) d
theorem NK{r:dt}{s s' : St}(e:aT (lim G Q) r s=some s'):∃N,aT (cN G Q N) r s=some s' :=by
 unfold aT at e ⊢;cases a:lines (lim G Q) s.vars r.ls ⟨[],s.σ,s.σ⟩with
 |none=>simp[a]at e
 |some q=>
  obtain⟨N,b⟩:=D5 hQ a;exact⟨N,by rw[b];simpa[a]using e⟩
def mz (G:Nat->Option Fn) (Q:gH) (N:Nat) (c:IC) (s:St):Option (Ex×St):=exec N (cN G Q N) c s
omit hQ in
theorem p6 (hQ:cH Q){n m:Nat}(a:n<=m){c:IC}{s:St}{x:Ex×St}(h:mz G Q n c s=some x):mz G Q m c s=some x:=jX (mQ hQ a) a _ _ _ h
variable{n:Nat}
theorem D6:∀(c:IC) (s:St) (x:Ex×St),exec n (lim G Q) c s=some x->∃N,mz G Q N c s=some x:=by
 intro c
 induction c with
 |skip=>intro s x e;exact⟨0,by simpa[exec,mz]using e⟩
 |bM r=>
  intro s x e;simp only[exec,mz]at e ⊢;cases f:aT (lim G Q) r s with
  |none=>simp[f]at e
  |some q=>obtain⟨N,a⟩:=NK hQ f;exact⟨N,by rw[a];simpa[f]using e⟩
 |seq c d g l=>
  intro s x e;simp only[exec]at e;cases f:exec n (lim G Q) c s with
  |none=>simp[f]at e
  |some q=>
   obtain⟨N,a⟩:=g _ _ f;obtain⟨p,B⟩:=q;cases p with
   |c5=>
    simp only[f]at e;obtain⟨M,u⟩:=l _ _ e;refine⟨max N M,?_⟩;have z:=p6 (G:=G) hQ (Nat.le_max_left N M) a;have A:=p6 (G:=G) hQ (Nat.le_max_right N M) u;simp only[mz,exec]at z A ⊢;rw[z];exact A
   |exit j=>exact⟨N,l5⟩
   |ret=>exact⟨N,l5⟩
 |cond t c d g l=>
  intro s x e;simp only[exec]at e;split at e
  .split at e
   .split at e
    .rename_i f o w;obtain⟨N,a⟩:=g _ _ e;exact⟨N,by simp only[mz,exec,f,o,cn]at a ⊢;rw[ah w];exact a⟩
    .rename_i f o w;obtain⟨N,a⟩:=l _ _ e;exact⟨N,by simp only[mz,exec,f,o,cn]at a ⊢;rw[ae w];exact a⟩
   .simp at e
  .simp at e
 |fh k c d g l=>
  intro s x e;simp only[exec]at e;split at e
  .split at e
   .rename_i f o;obtain⟨N,a⟩:=g _ _ e;exact⟨N,by simp only[mz,exec,f]at a ⊢;rw[ah o];exact a⟩
   .rename_i f o;obtain⟨N,a⟩:=l _ _ e;exact⟨N,by simp only[mz,exec,f]at a ⊢;rw[ae o];exact a⟩
  .simp at e
 |block id c m=>
  intro s x e;simp only[exec]at e;cases f:exec n (lim G Q) c s with
  |none=>simp[f]at e
  |some q=>obtain⟨N,a⟩:=m _ _ f;exact⟨N,l5⟩
 |loop c m=>
  intro s x e;simp only[exec]at e;have go:∀(k:Nat) (s:St),iter (exec n (lim G Q) c) k s=some x->∃N,∃j,iter (mz G Q N c) j s=some x:=by
   intro k
   induction k with
   |zero=>intro s e;simp[iter]at e
   |succ k y=>
    intro s e;simp only[iter]at e;cases f:exec n (lim G Q) c s with
    |none=>simp[f]at e
    |some q=>
     obtain⟨N,a⟩:=m _ _ f;obtain⟨p,B⟩:=q;cases p with
     |c5=>
      simp only[f]at e;obtain⟨M,j,u⟩:=y _ e;refine⟨max N M,j+1,?_⟩;simp only[iter];rw[p6 (G:=G) hQ (Nat.le_max_left N M) a];exact rN (λs x h=>p6 (G:=G) hQ (Nat.le_max_right N M) h) (aY _) u
     |exit i=>exact⟨N,1,by simp only[iter];rw[a];simpa[f]using e⟩
     |ret=>exact⟨N,1,by simp only[iter];rw[a];simpa[f]using e⟩
  obtain⟨N,j,h⟩:=go n s e;refine⟨max N j,?_⟩;simp only[mz,exec];exact rN (λs x h=>p6 (G:=G) hQ (Nat.le_max_left N j) h) (Nat.le_max_right N j) h
 |exit id=>intro s x e;exact⟨0,by simpa[exec,mz]using e⟩
 |ret=>intro s x e;exact⟨0,by simpa[exec,mz]using e⟩
 |mW k=>intro s x e;exact⟨0,by simpa[exec,mz]using e⟩
 |bad=>intro s x e;simp[exec]at e
 |cut b c m=>intro s x e;simp only[exec]at e;obtain⟨N,a⟩:=m _ _ e;exact⟨N,by simp only[mz,exec]at a ⊢;exact a⟩
 |rq c m=>intro s x e;simp only[exec]at e;obtain⟨N,a⟩:=m _ _ e;exact⟨N,by simp only[mz,exec]at a ⊢;exact a⟩
 |lex c m=>
  intro s x e;simp only[exec]at e;cases f:exec n (lim G Q) c s with
  |none=>simp[f]at e
  |some q=>obtain⟨N,a⟩:=m _ _ f;exact⟨N,l5⟩
theorem D7{f:Nat}{fn:Fn}{σ:List aj}{e:Ex}{s:St}{r:AV}(b:Q f=none) (d:G f=some fn) (g:args.length=fn.np)
  (h:exec n (lim G Q) fn.body {vars:=args++List.replicate (fn.nv-fn.np) .au,fl:=none,σ}=some (e,s)) (i:∀j,e ≠ .exit j) (a:results fn s=some r) :
  lim G Q f args σ=some (r,s.σ):=by
 obtain⟨N,l⟩:=D6 hQ _ _ _ h;refine ug hQ (N:=N+1) ?_;have m:exec (N+1) (b9 G Q (N+1) N) fn.body {vars:=args++List.replicate (fn.nv-fn.np) .au,fl:=none,σ}=some (e,s):=
  jX (uf hQ (Nat.le_succ N) (aY N)) (Nat.le_succ N) _ _ _ l
 simp only[cN,b9,b,d,g,jr,cn,m];cases e with
 |exit j=>exact absurd rfl (i j)
 |c5=>simp[a]
 |ret=>simp[a]
omit hQ in
theorem p7 (hQ:cH Q){N f:Nat}{p:CE->List AV->List aj->Option (AV×List aj)}{args:List AV}{σ:List aj}{x:AV×List aj}(a:Q f=some p) (b:p (cN G Q N) args σ=some x):lim G Q f args σ=some x:=by
 refine ug hQ (N:=N+1) ?_;simp only[cN,b9,a];exact hQ f p a _ _ (uf hQ (Nat.le_succ N) (aY N)) _ _ _ b
end
def W (L:CE) (c:IC) (s:St) (Q:Ex->St->Prop):Prop:=∃n e a, exec n L c s=some (e,a)/\Q e a
section
variable{L:CE}
def p8 (L:CE):CE.le L L:=λ_ _ _ _ h=>h
variable{c:IC}{s:St}
def W.mono{Q R:Ex->St->Prop}(h:W L c s Q) (Y:∀e s', Q e s' ->R e s'):W L c s R:=by
 obtain⟨n,e,s', h1,h2⟩:=h;exact⟨n,e,s', h1,Y e s' h2⟩
def NL{Q:Ex->St->Prop}(h:Q .c5 s):W L .skip s Q:=⟨0,.c5,s,rfl,h⟩
def D8{Q:Ex->St->Prop}(h:Q .ret s):W L .ret s Q:=⟨0,.ret,s,rfl,h⟩
variable{id:Nat}
def NM{Q:Ex->St->Prop}(h:Q (.exit id) s):W L (.exit id) s Q:=⟨0,.exit id,s,rfl,h⟩
def D9{r:dt}{s s' : St}{Q:Ex->St->Prop}(h:aT L r s=some s') (a:Q .c5 s'):W L (.bM r) s Q:=⟨0,.c5,s', by simp[exec,h],a⟩
def NN (L:CE) (d:IC) (Q:Ex->St->Prop):Ex->St->Prop
 |.c5,s=>W L d s Q
 |e,s=>Q e s
variable{d:IC}
def Ea{Q:Ex->St->Prop}(h:W L c s (NN L d Q)):W L (.seq c d) s Q:=by
 obtain⟨n,e,f,a,b⟩:=h;cases e with
 |c5=>
  obtain⟨m,g, i, l,o⟩:=b;refine⟨max n m,g, i, ?_,o⟩;simp only[exec];rw[jX (p8 L) (Nat.le_max_left n m) _ _ _ a];exact jX (p8 L) (Nat.le_max_right n m) _ _ _ l
 |exit j=>exact⟨n,.exit j,f,by simp[exec,a],b⟩
 |ret=>exact⟨n,.ret,f,by simp[exec,a],b⟩
variable{b:Bool}
def NO{t:Nat}{vars:List AV}{σ:List aj}{Q:Ex->St->Prop}(h:b=true->W L c ⟨vars,none,σ⟩ Q) (i:b=false->W L d ⟨vars,none,σ⟩ Q):W L (.cond t c d) ⟨vars,some (t,.bool b),σ⟩ Q:=by
 cases b with
 |true=>
  obtain⟨n,e,a, f,g⟩:=h rfl;exact⟨n,e,a, by simp[exec,f],g⟩
 |false=>
  obtain⟨n,e,a, f,g⟩:=i rfl;exact⟨n,e,a, by simp[exec,f],g⟩
def NP{k:Nat}{Q:Ex->St->Prop}(h:nth s.vars k = .bool b) (i:b=true->W L c s Q) (j:b=false->W L d s Q):W L (.fh k c d) s Q:=by
 cases b with
 |true=>
  obtain⟨n,e,a, f,g⟩:=i rfl;exact⟨n,e,a, by simp[exec,h,f],g⟩
 |false=>
  obtain⟨n,e,a, f,g⟩:=j rfl;exact⟨n,e,a, by simp[exec,h,f],g⟩
def Out (id:Nat) (Q:Ex->St->Prop):Ex->St->Prop
 |.exit j,s=>if j=id then Q .c5 s else Q (.exit j) s
 |e,s=>Q e s
def NQ{Q:Ex->St->Prop}(h:W L c s (Out id Q)):W L (.block id c) s Q:=by
 obtain⟨n,e,a,b,d⟩:=h;cases e with
 |c5=>exact⟨n,.c5,a,by simp[exec,b],d⟩
 |exit j=>
  by_cases f:j=id
  .exact⟨n,.c5,a,by simp[exec,b,f],by simpa[Out,f]using d⟩
  .exact⟨n,.exit j,a,by simp[exec,b,f],by simpa[Out,f]using d⟩
 |ret=>exact⟨n,.ret,a,by simp[exec,b],d⟩
def rO (I:St->Prop) (a:St->Nat) (m:Nat) (Q:Ex->St->Prop):Ex->St->Prop
 |.c5,s=>I s/\a s<m
 |e,s=>Q e s
end
def ui (l:List AV) (n:Int) (K:AV->Prop):Prop:=0<=n/\∃y,jL l n.toNat=some y/\K y
def ni (n:Int) (K:AV->Prop):Prop:=(-9223372036854775808<=n/\n<=9223372036854775807)/\K (.int n)
def p9 (o:tm) (x y:Int) (K:AV->Prop):Prop:=
 match o with
 |.add=>ni (x+y) K
 |.sub=>ni (x-y) K
 |.mul=>ni (x*y) K
 |.quo=>y ≠ 0/\ni (x.tdiv y) K
 |.rem=>y ≠ 0/\K (.int (x.tmod y))
 |.lss=>K (.bool (decide (x<y)))
 |.leq=>K (.bool (decide (x<=y)))
 |.gtr=>K (.bool (decide (y<x)))
 |.geq=>K (.bool (decide (y<=x)))
 |.eql=>K (.bool (decide (x=y)))
 |.neq=>K (.bool (!decide (x=y)))
 |.xk=>K (.int (wr (x+y)))
def jN (L:CE) (f:Nat) (args:List AV):Option AV:=
 match L f args []with
 |some (v,a)=>bu a false v
 |none=>none
def aH{a:Type}(o:Option a) (K:a->Prop):Prop:=
 match o with
 |some u=>K u
 |none=>False
def gh{a:Type}{o:Option a}{K:a->Prop}(h:aH o K):∃u,o=some u/\K u:=by
 cases o with
 |none=>exact h.elim
 |some u=>exact⟨u,rfl,h⟩
def uj{a:Type}{u:a}{K:a->Prop}:aH (some u) K=K u:=(rfl)
def nj (L:CE) (f:Nat) (args:List AV) (K:AV->Prop):Prop:=aq args=true/\aH (jN L f (args.map wk)) K
def LX (L:CE) (f:Nat) (args:List AV) (σ:List aj) (K:AV->List aj->Prop):Prop:=aH (L f args σ) λp=>K p.1 p.2
def rP (cs:List AV) (off:Nat) (k:Option Nat) (K:AV->Prop):Prop:=aH (part cs off k) K
def aO (c:Prop) (K:Prop):Prop:=c/\K
def kZ (L:CE) (σ:List aj) (nl:Nat) (r:Rf->AV) (op:bZ) (K:AV->Option bI->Prop):Prop:=
 match op with
 |.bin o x y=>match r x,r y with
  |.int a,.int b=>p9 o a b λv=>K v none
  |_,_=>False
 |.bW x i st=>match r x,r i with
  |.aA _ l,.int n=>ui l n λy=>y.cells.length=st/\K (.ar y) none
  |.sl b u off len,.int n=>aO (0<=n/\n<len) (K (.ptr b u (off+n.toNat*st)) none)
  |_,_=>False
 |.ko x i n k=>match r x,r i with
  |.ptr b u o,.int j=>aO (0<=j/\j<n) (K (.ptr b u (o+j.toNat*aC k)) none)
  |.ar v,.int j=>aO (0<=j/\j<n) (aH (part v.cells (j.toNat*aC k) k) λy=>K (.ar y) none)
  |_,_=>False
 |.kG f args=>nj L f (args.map r) λv=>K v none
 |.gP x args=>match r x with
  |.func f e=>nj L f (args.map r++e) λv=>K v none
  |_=>False
 |.inv x g args=>match r x with
  |.iface t v=>match fH g t with
   |some f=>nj L f (v::args.map r) λv=>K v none
   |none=>False
  |_=>False
 |.ld x k=>match r x with
  |.ar v=>match k,v with
   |none,.agg _=>False
   |none,v=>K v none
   |some n,.agg l=>l.length=n/\K (.agg l) none
   |some _,_=>False
  |.ptr b u o=>aH (upto σ b u) λB=>B.st.isLive=true/\rP B.cells o k λy=>K y none
  |_=>False
 |.MG x=>match r x with
  |.int n=>ni n λv=>K v none
  |.ik _ n=>ni n λv=>K v none
  |_=>False
 |.l9 x m q st=>match ow r m,ox r q with
  |some a,some b=>(match r x with
   |.aA w l=>aO ((0<=a/\a<=b.getD l.length/\b.getD l.length<=l.length)/\dy st l=true) (K (.aA (w&&decide (0<l.length)) ((l.drop a.toNat).take ((b.getD l.length).toNat-a.toNat))) none)
   |.sl h u off len=>aH (upto σ h u) λB=>aO ((0<=a/\a<=b.getD len/\b.getD len<=len)/\aC B.k=st) (K (.sl h u (off+a.toNat*st) ((b.getD len).toNat-a.toNat)) none)
   |_=>False)
  |_,_=>False
 |.nY f args=>aH (aM (λx=>view σ false vd (r x)) args) λA=>LX L f A [] λv d =>aH (bu d true v) λu=>K u none
 |.can f args=>aO (aq (args.map r)=true) (LX L f (args.map r) [] λv d =>K (iz nl v) (some (.news (d.map (fZ nl)))))
 |.kf n c z k=>match r n,r c with
  |.int n,.int c=>aO (0<=n/\n<=c/\c<=cE/\z.length=aC k) (K (.sl nl (cS c.toNat z).length 0 n.toNat) (some (.new ⟨k,cS c.toNat z,.live⟩)))
  |_,_=>False
 |.app s x k=>match aE σ k (r x)with
  |none=>False
  |some (n,cs)=>match r s with
   |.sl b u off len=>aH (upto σ b u) λB=>aO (off=0/\u=len*aC k/\len+n<=cE/\ob B.k k=true) ((n=0->K (.sl b u off len) none)/\(n ≠ 0->cs.length ≠ 0/\K (.sl b (u+cs.length) 0 (len+n)) (some (.grow b cs))))
   |.ag=>(n=0->K .ag none)/\(n ≠ 0->n<=cE/\K (.sl nl cs.length 0 n) (some (.new ⟨k,cs,.live⟩)))
   |.emp=>(n=0->K .emp none)/\(n ≠ 0->n<=cE/\K (.sl nl cs.length 0 n) (some (.new ⟨k,cs,.live⟩)))
   |.arr l=>(n=0->K (if aq l then .aA true l else .arr l) none)/\(n ≠ 0->(fitAll (aC k) l=true/\l.length+n<=cE)/\K (.sl nl (l.flatMap AV.cells++cs).length 0 (l.length+n)) (some (.new ⟨k,l.flatMap AV.cells++cs,.live⟩)))
   |_=>False
 |op=>aH (ev L σ nl [] r op) λp=>K p.1 p.2
variable{n:Int}
def k9:mA n=true↔-9223372036854775808<=n/\n<=9223372036854775807:=by
 simp[mA]
def qa{K:AV->Prop}(h:ni n K):mA n=true/\K (.int n):=⟨k9.2 h.1,h.2⟩
def NR{o:tm}{x y:Int}{K:AV->Prop}(h:p9 o x y K):∃v,bin o x y=some v/\K v:=by
 cases o<;>simp only[p9]at h<;>simp only[bin]
 case add=>obtain⟨h1,h2⟩:=qa h;exact⟨_,by rw[ah h1],h2⟩
 case sub=>obtain⟨h1,h2⟩:=qa h;exact⟨_,by rw[ah h1],h2⟩
 case mul=>obtain⟨h1,h2⟩:=qa h;exact⟨_,by rw[ah h1],h2⟩
 case quo=>obtain⟨h0,h1,h2⟩:=And.intro h.1 (qa h.2);exact⟨_,by simp[h0,h1],h2⟩
 case rem=>exact⟨_,by simp[h.1],h.2⟩
 case eql=>exact⟨_,rfl,by rwa [show(x==y)=decide (x=y)from rfl]⟩
 case neq=>exact⟨_,rfl,by rwa [show(x==y)=decide (x=y)from rfl]⟩
 all_goals exact⟨_,rfl,h⟩
variable{args:List AV}
def xP{L:CE}{f:Nat}{K:AV->Prop}(h:nj L f args K):∃v,iu L f args=some v/\K v:=by
 obtain⟨a,b⟩:=h;obtain⟨u,d,e⟩:=gh b;exact⟨u,by unfold iu;rw[ah a];exact d,e⟩
def jz{L:CE}{f:Nat}{σ:List aj}{K:AV->List aj->Prop}(h:LX L f args σ K):∃v σ', L f args σ=some (v,σ')/\K v σ' :=by
 obtain⟨⟨v,σ'⟩,a,b⟩:=gh h;exact⟨v,σ', a,b⟩
variable{σ': List aj}{v:AV}
def rQ{L:CE}{f:Nat}{σ: List aj}{K:AV->List aj->Prop}(h:L f args σ=some (v,σ')) (k:K v σ'):LX L f args σ K:=by unfold LX;rw[h];exact k
def ba{L:CE}{f:Nat}{r:AV}(h:LX L f args [] λv σ' =>aH (bu σ' false v) (·= r)):jN L f args=some r:=by
 obtain⟨v,σ', a,b⟩:=jz h;obtain⟨u,d,rfl⟩:=gh b;simp only[jN,a,d]
def rR{L:CE}{f:Nat}{σ: List aj}(h:LX L f args σ λa b=>a = v/\b=σ'):L f args σ=some (v,σ'):=by
 obtain⟨a, b,d,rfl,rfl⟩:=jz h;exact d
variable{r:Rf->AV}
def Eb{L:CE}{σ:List aj}{nl:Nat}{op:bZ}{K:AV->Option bI->Prop}(h:kZ L σ nl r op K):∃v p,ev L σ nl [] r op=some (v,p)/\K v p:=by
 unfold kZ at h;cases op
 case bin o x y=>
  simp only at h;split at h
  .rename_i a b ha hb
   obtain⟨v,h1,h2⟩:=NR h;exact⟨v,none,by simp only[ev,ha,hb,h1];rfl,h2⟩
  .exact h.elim
 case bW x i st=>
  simp only at h;split at h
  .rename_i q l n ha hb
   obtain⟨h0,y,h1,h2,h3⟩:=h;exact⟨_,_,by simp[ev,ha,hb,h0,h1,h2],h3⟩
  .rename_i b u off len n ha hb
   obtain⟨h0,h1⟩:=h;exact⟨_,_,by simp only[ev,ha,hb];rw[ah h0],h1⟩
  .exact h.elim
 case ko x i n k=>
  simp only at h;split at h
  .rename_i b u o j ha hb
   obtain⟨h0,h1⟩:=h;exact⟨_,_,by simp only[ev,ha,hb];rw[ah h0],h1⟩
  .rename_i v j ha hb
   obtain⟨h0,h1⟩:=h;obtain⟨y,h2,h3⟩:=gh h1;exact⟨_,_,by simp only[ev,ha,hb];rw[ah h0,h2];rfl,h3⟩
  .exact h.elim
 case kG f args=>
  obtain⟨v,h1,h2⟩:=xP h;exact⟨v,none,by simp[ev,h1],h2⟩
 case gP x args=>
  simp only at h;split at h
  .rename_i f cT ha
   obtain⟨v,h1,h2⟩:=xP h;exact⟨v,none,by simp only[ev,ha,h1];rfl,h2⟩
  .exact h.elim
 case inv x rp args=>
  simp only at h;split at h
  .rename_i t q ha
   split at h
   .rename_i f hf
    obtain⟨v,h1,h2⟩:=xP h;exact⟨v,none,by simp only[ev,ha,hf,h1];rfl,h2⟩
   .exact h.elim
  .exact h.elim
 case ld x k=>
  simp only at h;split at h
  .rename_i v ha
   split at h
   .exact h.elim
   .rename_i v hv;exact⟨_,none,by simp only[ev,ha],h⟩
   .obtain⟨h1,h2⟩:=h;exact⟨_,none,by simp[ev,ha,h1],h2⟩
   .exact h.elim
  .rename_i b u o ha
   obtain⟨B,hB,h⟩:=gh h;obtain⟨h1,h⟩:=h;obtain⟨y,h2,h3⟩:=gh h;exact⟨y,none,by simp only[ev,ha,hB];rw[ah h1,h2];rfl,h3⟩
  .exact h.elim
 case MG x=>
  simp only at h;split at h
  .rename_i n ha
   obtain⟨h1,h2⟩:=qa h;exact⟨_,none,by simp only[ev,ha];rw[ah h1],h2⟩
  .rename_i k n ha
   obtain⟨h1,h2⟩:=qa h;exact⟨_,none,by simp only[ev,ha];rw[ah h1],h2⟩
  .exact h.elim
 case l9 x lo hi st=>
  simp only at h;split at h
  .rename_i a b ha hb
   split at h
   .rename_i nn l hx
    obtain⟨h0,h1⟩:=h;exact⟨_,_,by simp only[ev,ha,hb,hx];rw[ah h0],h1⟩
   .rename_i b' u off len hx
    obtain⟨B,hB,h0,h1⟩:=gh h;exact⟨_,_,by simp only[ev,ha,hb,hx,hB];rw[ah h0],h1⟩
   .exact h.elim
  .exact h.elim
 case nY f args=>
  obtain⟨vs,h1,h2⟩:=gh h;obtain⟨v,σ', h3,h4⟩:=jz h2;obtain⟨u,h5,h6⟩:=gh h4;exact⟨u,none,by simp only[ev,h1,h3,h5];rfl,h6⟩
 case can f args=>
  obtain⟨h1,h2⟩:=h;obtain⟨v,σ', h3,h4⟩:=jz h2;exact⟨_,_,by simp only[ev];rw[ah h1,h3],h4⟩
 case kf n c z k=>
  simp only at h;split at h
  .rename_i n c ha hb
   obtain⟨h0,h1⟩:=h;exact⟨_,_,by simp only[ev,ha,hb];rw[ah h0],h1⟩
  .exact h.elim
 case app s x k=>
  simp only at h;split at h
  .exact h.elim
  .rename_i n cs hx
   split at h
   .rename_i b u off len hs
    obtain⟨B,hB,⟨h1,h2,h3,h4⟩,h5,h6⟩:=gh h
    by_cases hn:n=0
    .subst hn
     exact⟨_,_,by simp only[ev,hx,hs,hB];rw[ah (by simp[h1,h2,h4,ki];omega)];simp,h5 rfl⟩
    .obtain⟨h7,h8⟩:=h6 hn
     exact⟨_,_,by simp only[ev,hx,hs,hB];rw[ah (by simp[h1,h2,h4,ki];omega)];rw[ae fx,ae (by simpa using h7)],h8⟩
   .rename_i hs
    by_cases hn:n=0
    .subst hn
     exact⟨_,_,by simp only[ev,hx,hs];simp,h.1 rfl⟩
    .obtain⟨h7,h8⟩:=h.2 hn
     exact⟨_,_,by simp only[ev,hx,hs];rw[ae fx,ah h7],h8⟩
   .rename_i hs
    by_cases hn:n=0
    .subst hn
     exact⟨_,_,by simp only[ev,hx,hs];simp,h.1 rfl⟩
    .obtain⟨h7,h8⟩:=h.2 hn
     exact⟨_,_,by simp only[ev,hx,hs];rw[ae fx,ah h7],h8⟩
   .rename_i l hs
    by_cases hn:n=0
    .subst hn
     exact⟨_,_,by simp only[ev,hx,hs];simp,h.1 rfl⟩
    .obtain⟨⟨h7,h9⟩,h8⟩:=h.2 hn
     exact⟨_,_,by simp only[ev,hx,hs];rw[ae fx,ah (by simp[h7,h9])],h8⟩
   .exact h.elim
 all_goals
  obtain⟨⟨v,p⟩,h1,h2⟩:=gh h;exact⟨v,p,h1,h2⟩
def rS (cs:List AV) (o:Nat) (new:List AV) (K:List AV->Prop):Prop:=o+new.length<=cs.length/\K (putAt cs o new)
def rT (L:CE) (σ:List aj) (r:Rf->AV) (op:bZ) (K:AV->List aj->Prop):Prop:=
 match op with
 |.st p x n=>match r p with
  |.ptr b u o=>aH (upto σ b u) λB=>((r x).cells.length=n/\B.st.isLive=true/\aQ (r x)=true)/\rS B.cells o (r x).cells λcs=>K .au (az σ b ⟨B.k,cs,B.st⟩)
  |_=>False
 |.bB s x k=>match aE σ k (r x)with
  |none=>False
  |some (n,cs)=>match r s with
   |.sl b u off len=>aH (upto σ b u) λB=>aO (off=0/\len+n<=cE/\ob B.k k=true/\(n ≠ 0->cs.length ≠ 0)) ((n=0->K (.sl b u off len) σ)/\(n ≠ 0->u=len*aC k->K (.sl b (u+cs.length) 0 (len+n)) (az σ b ⟨B.k,B.cells++cs,.live⟩))/\(n ≠ 0->u ≠ len*aC k->(len+n)*aC k<=u/\K (.sl b u 0 (len+n)) (az σ b ⟨B.k,putAt B.cells (len*aC k) cs,B.st⟩)))
   |.ag=>(n=0->K .ag σ)/\(n ≠ 0->n<=cE/\K (.sl σ.length cs.length 0 n) (σ ++ [⟨k,cs,.live⟩]))
   |.emp=>(n=0->K .emp σ)/\(n ≠ 0->n<=cE/\K (.sl σ.length cs.length 0 n) (σ ++ [⟨k,cs,.live⟩]))
   |.arr l=>(n=0->K (if aq l then .aA true l else .arr l) σ)/\(n ≠ 0->(fitAll (aC k) l=true/\l.length+n<=cE)/\K (.sl σ.length (l.flatMap AV.cells++cs).length 0 (l.length+n)) (σ ++ [⟨k,l.flatMap AV.cells++cs,.live⟩]))
   |_=>False
 |.lF f args=>LX L f (args.map r) σ K
 |.mU x args=>match r x with
  |.func f a=>LX L f (args.map r++a) σ K
  |_=>False
 |.mV x d args=>match r x with
  |.iface t v=>match fH d t with
   |some f=>LX L f (v::args.map r) σ K
   |none=>False
  |_=>False
 |op=>aH (dO L σ r op) λp=>K p.1 p.2
def NS{L:CE}{σ:List aj}{op:bZ}{K:AV->List aj->Prop}(h:rT L σ r op K):∃v σ', dO L σ r op=some (v,σ')/\K v σ' :=by
 unfold rT at h;cases op
 case st p x n=>
  simp only at h;split at h
  .rename_i b u o ha
   obtain⟨B,hB,⟨h1,h2,h3⟩,h4,h5⟩:=gh h;exact⟨.au,_,by simp only[dO,ha,hB];simp[h1,h2,h3,show o+n<=B.cells.length by rw[<-h1];exact h4],h5⟩
  .exact h.elim
 case bB s x k=>
  simp only at h;split at h
  .exact h.elim
  .rename_i n cs hx
   split at h
   .rename_i b u off len hs
    obtain⟨B,hB,⟨h1,h2,h3,h4⟩,h5,h6,h7⟩:=gh h
    by_cases hn:n=0
    .subst hn
     exact⟨_,_,by simp only[dO,hx,hs,hB];rw[ah (by simp[h1,h3];omega)];simp,h5 rfl⟩
    .have hc:=h4 hn
     by_cases hu:u=len*aC k
     .exact⟨_,_,by simp only[dO,hx,hs,hB];rw[ah (by simp[h1,h3];omega)];rw[ae fx,ae (by simpa using hc),ah (by simpa using hu)],h6 hn hu⟩
     .obtain⟨h8,h9⟩:=h7 hn hu
      exact⟨_,_,by simp only[dO,hx,hs,hB];rw[ah (by simp[h1,h3];omega)];rw[ae fx,ae (by simpa using hc),ae (by simpa using hu),ah h8],h9⟩
   .rename_i hs
    by_cases hn:n=0
    .subst hn
     exact⟨_,_,by simp only[dO,hx,hs];simp,h.1 rfl⟩
    .obtain⟨h7,h8⟩:=h.2 hn
     exact⟨_,_,by simp only[dO,hx,hs];rw[ae fx,ah h7],h8⟩
   .rename_i hs
    by_cases hn:n=0
    .subst hn
     exact⟨_,_,by simp only[dO,hx,hs];simp,h.1 rfl⟩
    .obtain⟨h7,h8⟩:=h.2 hn
     exact⟨_,_,by simp only[dO,hx,hs];rw[ae fx,ah h7],h8⟩
   .rename_i l hs
    by_cases hn:n=0
    .subst hn
     exact⟨_,_,by simp only[dO,hx,hs];simp,h.1 rfl⟩
    .obtain⟨⟨h7,h9⟩,h8⟩:=h.2 hn
     exact⟨_,_,by simp only[dO,hx,hs];rw[ae fx,ah (by simp[h7,h9])],h8⟩
   .exact h.elim
 case lF f args=>
  obtain⟨v,σ', h1,h2⟩:=jz h;exact⟨v,σ', h1,h2⟩
 case mU x args=>
  simp only at h;split at h
  .rename_i f cT ha
   obtain⟨v,σ', h1,h2⟩:=jz h;exact⟨v,σ', by simp only[dO,ha];exact h1,h2⟩
  .exact h.elim
 case mV x rp args=>
  simp only at h;split at h
  .rename_i t q ha
   split at h
   .rename_i f hf
    obtain⟨v,σ', h1,h2⟩:=jz h;exact⟨v,σ', by simp only[dO,ha,hf];exact h1,h2⟩
   .exact h.elim
  .exact h.elim
 all_goals
  obtain⟨⟨v,p⟩,h1,h2⟩:=gh h;exact⟨v,p,h1,h2⟩
def ct (K:List AV->List aj->List aj->Prop) (env:List AV) (a σ:List aj) (v:AV):Option bI->Prop
 |none=>K (v::env) a σ
 |some p=>K (v::env) σ (du σ p)
def bA (L:CE) (vars:List AV) (op:bZ) (prev:Bool) (env:List AV) (a σ:List aj) (K:List AV->List aj->List aj->Prop):Prop:=
 match op.gG,prev,op.il with
 |true,_,_=>rT L σ (rv vars env) op λv σ' =>K (v::env) [] σ'
 |false,true,true=>kZ L a σ.length (rv vars env) op (ct K env σ σ)
 |false,true,false=>kZ L a σ.length (rv vars env) op (ct K env a σ)
 |false,false,true=>kZ L σ σ.length (rv vars env) op (ct K env σ σ)
 |false,false,false=>kZ L σ σ.length (rv vars env) op (ct K env a σ)
def gK (b:Bool) (A B:Prop):Prop:=(b=true->A)/\(b=false->B)
variable{A B:Prop}
def xQ:gK true A B=A:=by simp[gK]
def xR:gK false A B=B:=by simp[gK]
def LK (L:CE) (vars:List AV):List Ln->List AV->List aj->List aj->(List AV->List aj->Prop)->Prop
 | [],env,_,σ,K=>K env σ
 |⟨op,g,prev⟩::ls,env,a,σ,K=>match g with
  |none=>bA L vars op prev env a σ λenv a σ=>LK L vars ls env a σ K
  |some (.t d,w)=>match nth env d with
   |.bool b=>match w with
    |true=>gK b (bA L vars op prev (bD env d (.bool true)) a σ λenv a σ=>LK L vars ls env a σ K) (LK L vars ls (.bz []::bD env d (.bool false)) a σ K)
    |false=>gK b (LK L vars ls (.bz []::bD env d (.bool true)) a σ K) (bA L vars op prev (bD env d (.bool false)) a σ λenv a σ=>LK L vars ls env a σ K)
   |.bz []=>LK L vars ls (.bz []::env) a σ K
   |_=>False
  |some (.v k,w)=>match nth vars k with
   |.bool b=>match w with
    |true=>gK b (bA L vars op prev env a σ λenv a σ=>LK L vars ls env a σ K) (LK L vars ls (.bz []::env) a σ K)
    |false=>gK b (LK L vars ls (.bz []::env) a σ K) (bA L vars op prev env a σ λenv a σ=>LK L vars ls env a σ K)
   |.bz []=>LK L vars ls (.bz []::env) a σ K
   |_=>False
  |some (.c _,_)=>False
def Ec:∀{l:List AV}{d:Nat}{x:AV},x ≠ .au->nth l d=x->bD l d x=l
 | [],d,x,a,h=>by simp[nth]at h;exact absurd h.symm a
 |y::r,0,x,_,h=>by simp[nth]at h;simp[bD,h]
 |y::r,d+1,x,a,h=>by simp only[nth]at h;simp[bD,Ec a h]
def Ed{L:CE}{vars:List AV}{op:bZ}{g:Option (Rf×Bool)}{prev:Bool}{env:List AV}{a σ:List aj}{K:List AV->List aj->List aj->Prop}(j:want vars env g=some true) (h:bA L vars op prev env a σ K) :
  ∃s,bS L vars ⟨env,a,σ⟩ ⟨op,g,prev⟩=some s/\K s.env s.aF s.σ:=by
 unfold bA at h;unfold bS;simp only[j];have fin:∀e f,(if prev=true then a else σ)=e->(if op.il=true then σ else a)=f->op.gG=false->kZ L e σ.length (rv vars env) op (ct K env f σ)->
   ∃s,(if op.gG=true then match dO L σ (rv vars env) op with
    |some (v,σ')=>some (⟨v::env,[],σ'⟩:LS)
    |none=>none
   else match ev L (if prev=true then a else σ) σ.length [] (rv vars env) op with
    |some (v,none)=>some ⟨v::env,if op.il=true then σ else a,σ⟩
    |some (v,some p)=>some ⟨v::env,σ,du σ p⟩
    |none=>none)=some s/\K s.env s.aF s.σ:=λe f l m i h=>by
  obtain⟨v,p,d,b⟩:=Eb h;rw[ae (by simp[i]),l,m,d]
  cases p with
  |none=>exact⟨_,rfl,b⟩
  |some p=>exact⟨_,rfl,b⟩
 split at h
 .rename_i i
  obtain⟨v,σ', d,b⟩:=NS h;rw[ah i,d];exact⟨_,rfl,b⟩
 .rename_i d b;exact fin _ _ ab dS d h
 .rename_i d b;exact fin _ _ ab dS d h
 .rename_i d b;exact fin _ _ ab dS d h
 .rename_i d b;exact fin _ _ ab dS d h
variable{qb: List AV}
def qd{L:CE}{vars:List AV}{op:bZ}{g:Option (Rf×Bool)}{prev:Bool}{ls:List Ln}{env: List AV}{a σ:List aj}{K:List AV->List aj->Prop}(e:qb = env) (b:want vars qb g=some false)
  (h:∃q,lines L vars ls ⟨.bz []::qb, a,σ⟩=some q/\K q.env q.σ):∃q,lines L vars (⟨op,g,prev⟩::ls) ⟨env,a,σ⟩=some q/\K q.env q.σ:=by
 subst e;obtain⟨q,d,f⟩:=h;exact⟨q,by simp only[lines,bS,b];exact d,f⟩
def nk{L:CE}{vars:List AV}{op:bZ}{g:Option (Rf×Bool)}{prev:Bool}{ls:List Ln}{env: List AV}{a σ:List aj}{K:List AV->List aj->Prop}{J:List AV->List aj->List aj->Prop}(e:qb = env) (b:want vars qb g=some true)
  (h:bA L vars op prev qb a σ J) (d:∀env a σ,J env a σ->∃q,lines L vars ls ⟨env,a,σ⟩=some q/\K q.env q.σ):∃q,lines L vars (⟨op,g,prev⟩::ls) ⟨env,a,σ⟩=some q/\K q.env q.σ:=by
 subst e;obtain⟨s,f,i⟩:=Ed b h;obtain⟨q,j,l⟩:=d _ _ _ i;exact⟨q,by simp only[lines,f];exact j,l⟩
def jY{L:CE}{vars:List AV}:∀{ls:List Ln}{env:List AV}{f σ:List aj}{K:List AV->List aj->Prop},LK L vars ls env f σ K->∃q,lines L vars ls ⟨env,f,σ⟩=some q/\K q.env q.σ
 | [],env,f,σ,K,h=>⟨_,rfl,h⟩
 |⟨op,g,prev⟩::ls,env,f,σ,K,h=>by
  unfold LK at h;split at h
  .exact nk rfl rfl h λ_ _ _ h=>jY h
  .rename_i d w
   split at h
   .rename_i b a
    have e:∀q,b=q->bD env d (.bool q)=env:=λq i=>Ec ab (i▸a)
    cases w with
    |true=>
     simp only[gK]at h;cases b with
     |true=>exact nk (e true rfl) (by rw[e true rfl];simp[want,rv,a]) (h.1 rfl) λ_ _ _ h=>jY h
     |false=>exact qd (e false rfl) (by rw[e false rfl];simp[want,rv,a]) (jY (h.2 rfl))
    |false=>
     simp only[gK]at h;cases b with
     |true=>exact qd (e true rfl) (by rw[e true rfl];simp[want,rv,a]) (jY (h.1 rfl))
     |false=>exact nk (e false rfl) (by rw[e false rfl];simp[want,rv,a]) (h.2 rfl) λ_ _ _ h=>jY h
   .rename_i a
    exact qd rfl jl (jY h)
   .exact h.elim
  .rename_i k w
   split at h
   .rename_i b a
    cases w with
    |true=>
     simp only[gK]at h;cases b with
     |true=>exact nk rfl jl (h.1 rfl) λ_ _ _ h=>jY h
     |false=>exact qd rfl jl (jY (h.2 rfl))
    |false=>
     simp only[gK]at h;cases b with
     |true=>exact qd rfl jl (jY (h.1 rfl))
     |false=>exact nk rfl jl (h.2 rfl) λ_ _ _ h=>jY h
   .rename_i a
    exact qd rfl jl (jY h)
   .exact h.elim
  .exact h.elim
@[reducible] def rU (env:List AV):Option (Nat×Nat)->Option (Nat×AV)
 |some (t,d)=>some (t,nth env d)
 |none=>none
def WK (L:CE):IC->List AV->Option (Nat×AV)->List aj->(Ex->St->Prop)->Prop
 |.skip,vars,fl,σ,Q=>Q .c5 ⟨vars,fl,σ⟩
 |.bM r,vars,_,σ,Q=>LK L vars r.ls [] σ σ λenv σ=>Q .c5 ⟨ck r.ck (outs env r.outs vars),rU env r.fl,σ⟩
 |.seq a b,vars,fl,σ,Q=>WK L a vars fl σ λe s=>match e with
  |.c5=>WK L b s.vars s.fl s.σ Q
  |e=>Q e s
 |.cond t a b,vars,fl,σ,Q=>match fl with
  |some (d, .bool c)=>d = t/\gK c (WK L a vars none σ Q) (WK L b vars none σ Q)
  |_=>False
 |.fh k a b,vars,fl,σ,Q=>match nth vars k with
  |.bool c=>gK c (WK L a vars fl σ Q) (WK L b vars fl σ Q)
  |_=>False
 |.block id c,vars,fl,σ,Q=>WK L c vars fl σ (Out id Q)
 |.exit id,vars,fl,σ,Q=>Q (.exit id) ⟨vars,fl,σ⟩
 |.ret,vars,fl,σ,Q=>Q .ret ⟨vars,fl,σ⟩
 |.bad,_,_,_,_=>False
 |.cut _ c,vars,fl,σ,Q=>WK L c vars fl σ Q
 |.rq c,vars,fl,σ,Q=>WK L c vars fl σ Q
 |c,vars,fl,σ,Q=>W L c ⟨vars,fl,σ⟩ Q
def KP (L:CE) (d:IC) (Q:Ex->St->Prop):Ex->St->Prop:=λe s=>match e with
 |.c5=>WK L d s.vars s.fl s.σ Q
 |e=>Q e s
def gy{L:CE}:∀{c:IC}{vars:List AV}{fl:Option (Nat×AV)}{σ:List aj}{Q:Ex->St->Prop},WK L c vars fl σ Q->W L c ⟨vars,fl,σ⟩ Q
 |.skip,vars,fl,σ,Q,h=>NL h
 |.bM r,vars,fl,σ,Q,h=>by
  unfold WK at h;obtain⟨q,d,f⟩:=jY h;refine D9 (s' :=⟨ck r.ck (outs q.env r.outs vars),rU q.env r.fl,q.σ⟩) ?_ f;simp only[aT,d]
  rfl
 |.seq a b,vars,fl,σ,Q,h=>Ea ((gy (c:=a) h).mono λe s g=>by
  cases e with
  |c5=>exact gy (c:=b) g
  |exit j=>exact g
  |ret=>exact g)
 |.cond t a b,vars,fl,σ,Q,h=>by
  unfold WK at h;split at h
  .obtain⟨rfl,d,f⟩:=h
   exact NO (λe=>gy (d e)) (λe=>gy (f e))
  .exact h.elim
 |.fh k a b,vars,fl,σ,Q,h=>by
  unfold WK at h;split at h
  .rename_i c i
   exact NP i (λe=>gy (h.1 e)) (λe=>gy (h.2 e))
  .exact h.elim
 |.block id c,vars,fl,σ,Q,h=>NQ (gy (c:=c) h)
 |.exit id,vars,fl,σ,Q,h=>NM h
 |.ret,vars,fl,σ,Q,h=>D8 h
 |.loop c,vars,fl,σ,Q,h=>h
 |.mW k,vars,fl,σ,Q,h=>h
 |.lex c,vars,fl,σ,Q,h=>h
 |.bad,vars,fl,σ,Q,h=>h.elim
 |.cut b c,vars,fl,σ,Q,h=>by
  obtain⟨n,e,s', d,f⟩:=gy (c:=c) h;exact⟨n,e,s', by simpa only[exec]using d,f⟩
 |.rq c,vars,fl,σ,Q,h=>by
  obtain⟨n,e,s', d,f⟩:=gy (c:=c) h;exact⟨n,e,s', by simpa only[exec]using d,f⟩
section
variable{L:CE}{vars:List AV}{fl:Option (Nat×AV)}{σ:List aj}{Q:Ex->St->Prop}
def NT:WK L .skip vars fl σ Q=Q .c5 ⟨vars,fl,σ⟩:=(rfl)
def NU{r:dt}:WK L (.bM r) vars fl σ Q=LK L vars r.ls [] σ σ λenv σ=>Q .c5 ⟨ck r.ck (outs env r.outs vars),rU env r.fl,σ⟩:=(rfl)
def NV{a b:IC}:WK L (.seq a b) vars fl σ Q=WK L a vars fl σ (KP L b Q):=(rfl)
variable{a b:IC}
def NW{t:Nat}{c:Bool}:WK L (.cond t a b) vars (some (t,.bool c)) σ Q=gK c (WK L a vars none σ Q) (WK L b vars none σ Q):=by
 apply propext;exact⟨λh=>h.2,λh=>⟨rfl,h⟩⟩
def NX{k:Nat}:WK L (.fh k a b) vars fl σ Q=match nth vars k with
  |.bool c=>gK c (WK L a vars fl σ Q) (WK L b vars fl σ Q)
  |_=>False:=by conv=>lhs;unfold WK
def NY{id:Nat}{c:IC}:WK L (.block id c) vars fl σ Q=WK L c vars fl σ (Out id Q):=(rfl)
def NZ{id:Nat}:WK L (.exit id) vars fl σ Q=Q (.exit id) ⟨vars,fl,σ⟩:=(rfl)
def N0:WK L .ret vars fl σ Q=Q .ret ⟨vars,fl,σ⟩:=(rfl)
def N4{c:IC}:WK L (.loop c) vars fl σ Q=W L (.loop c) ⟨vars,fl,σ⟩ Q:=(rfl)
def N5{k:Nat}:WK L (.mW k) vars fl σ Q=W L (.mW k) ⟨vars,fl,σ⟩ Q:=(rfl)
def Ee{c:IC}:WK L (.lex c) vars fl σ Q=W L (.lex c) ⟨vars,fl,σ⟩ Q:=(rfl)
def N6:WK L .bad vars fl σ Q=False:=(rfl)
def N7{b:Bool}{c:IC}:WK L (.cut b c) vars fl σ Q=WK L c vars fl σ Q:=(rfl)
def N8{c:IC}:WK L (.rq c) vars fl σ Q=WK L c vars fl σ Q:=(rfl)
def N9{d:IC}:KP L d Q .c5 ⟨vars,fl,σ⟩=WK L d vars fl σ Q:=(rfl)
def Oa{d:IC}{s:St}:KP L d Q .ret s=Q .ret s:=(rfl)
def Ob{d:IC}{s:St}{j:Nat}:KP L d Q (.exit j) s=Q (.exit j) s:=(rfl)
def Oc{id:Nat}{s:St}:Out id Q .c5 s=Q .c5 s:=(rfl)
def Od{id:Nat}{s:St}:Out id Q .ret s=Q .ret s:=(rfl)
def Oe{id j:Nat}{s:St}:Out id Q (.exit j) s=if j=id then Q .c5 s else Q (.exit j) s:=(rfl)
def Of{I:St->Prop}{a:St->Nat}{m:Nat}{s:St}:rO I a m Q .c5 s=(I s/\a s<m):=(rfl)
def Og{I:St->Prop}{a:St->Nat}{m:Nat}{s:St}:rO I a m Q .ret s=Q .ret s:=(rfl)
def Oh{I:St->Prop}{a:St->Nat}{m j:Nat}{s:St}:rO I a m Q (.exit j) s=Q (.exit j) s:=(rfl)
end
def nm (fn:Fn) (K:AV->List aj->Prop):Ex->St->Prop
 |.exit _,_=>False
 |_,s=>aH (results fn s) λv=>K v s.σ
def Oi{G:Nat->Option Fn}{P:gH}(g:cH P){f:Nat}(fn:Fn){args:List AV}{σ:List aj}{K:AV->List aj->Prop}(i:P f=none) (l:G f=some fn) (m:args.length=fn.np)
  (h:WK (lim G P) fn.body (args++List.replicate (fn.nv-fn.np) .au) none σ (nm fn K)):LX (lim G P) f args σ K:=by
 obtain⟨n,e,s,o,a⟩:=gy h;cases e with
 |exit j=>exact a.elim
 |c5=>obtain⟨v,b,d⟩:=gh a;exact rQ (D7 g i l m o (λj=>ab) b) d
 |ret=>obtain⟨v,b,d⟩:=gh a;exact rQ (D7 g i l m o (λj=>ab) b) d
attribute [simp ↓] p9 ni aO rP nj
attribute [irreducible] WK
universe u
inductive Tk {α:Sort u} (a:α):Type
 |k
def nx (x:AV) (K:AV->Prop) (_:Tk K):Prop:=K x
def nL (l:List AV) (K:List AV->Prop) (_:Tk K):Prop:=K l
def nB (l:List aj) (K:List aj->Prop) (_:Tk K):Prop:=K l
def nC (l:List AV) (K:List AV->Prop) (_:Tk K):Prop:=K l
def oK{a:Type}(o:Option a) (K:a->Prop) (_:Tk K):Prop:=aH o K
def gT (b:Bool) (A B:Prop) (_:Tk A) (_:Tk B):Prop:=gK b A B
def im (p A:Prop) (_:Tk A):Prop:=p->A
def xK (l:List AV) (n:Int) (K:AV->Prop) (_:Tk K):Prop:=ui l n K
def lX (L:CE) (f:Nat) (args:List AV) (σ:List aj) (K:AV->List aj->Prop) (_:Tk K):Prop:=LX L f args σ K
def pT (cs:List AV) (off:Nat) (k:Option Nat) (K:AV->Prop) (_:Tk K):Prop:=aH (part cs off k) K
def pU (cs:List AV) (o:Nat) (new:List AV) (K:List AV->Prop) (_:Tk K):Prop:=rS cs o new K
def bk (o:Option aj) (u:Nat) (K:Option Nat->List AV->c6->Prop) (_:Tk K):Prop:=
 match o with
 |some B=>(B.cells.length=u/\B.st.eH=true)/\K B.k B.cells B.st
 |none=>False
section
variable{K:AV->Prop}{t:Tk K}
def Ef{n:Int}:nx (.int n) K t=K (.int n):=(rfl)
def vR{k:Nat}{n:Int}:nx (.ik k n) K t=K (.ik k n):=(rfl)
def Eg{n:Bool}:nx (.bool n) K t=K (.bool n):=(rfl)
def Eh{n:List UInt8}:nx (.str n) K t=K (.str n):=(rfl)
def Ei{l:List AV}:nx (.agg l) K t=K (.agg l):=(rfl)
def Ej{l:List AV}:nx (.bz l) K t=K (.bz l):=(rfl)
def Ek:nx .ag K t=K .ag:=(rfl)
def El{q:Bool}{l:List AV}:nx (.aA q l) K t=K (.aA q l):=(rfl)
def Em{l:List AV}:nx (.arr l) K t=K (.arr l):=(rfl)
def vT{b u o n:Nat}:nx (.sl b u o n) K t=K (.sl b u o n):=(rfl)
def En:nx .gV K t=K .gV:=(rfl)
def Eo{v:AV}:nx (.ar v) K t=K (.ar v):=(rfl)
def Ep{b u o:Nat}:nx (.ptr b u o) K t=K (.ptr b u o):=(rfl)
def Er:nx .gu K t=K .gu:=(rfl)
def Es{f:Nat}{l:List AV}:nx (.func f l) K t=K (.func f l):=(rfl)
def Et:nx .eP K t=K .eP:=(rfl)
def Eu{n:Nat}{v:AV}:nx (.iface n v) K t=K (.iface n v):=(rfl)
def Ev{b:Nat}:nx (.b8 b) K t=K (.b8 b):=(rfl)
def Ew:nx .tK K t=K .tK:=(rfl)
def Ey:nx .emp K t=K .emp:=(rfl)
def Ez:nx .au K t=K .au:=(rfl)
def Oj{x:AV}:nx x K t=K x:=(rfl)
def EA{a:Type}{u:a}{K:a->Prop}{t:Tk K}:oK (some u) K t=K u:=(rfl)
def EB{a:Type}{K:a->Prop}{t:Tk K}:oK none K t=False:=(rfl)
end
def EC{K:List AV->Prop}{t:Tk K}:nL [] K t=K []:=(rfl)
def ED{x:AV}{l:List AV}{K:List AV->Prop}{t:Tk K}:nL (x::l) K t=nx x (λy=>nL l (λl=>K (y::l)) .k) .k:=(rfl)
def Ol{l:List AV}{K:List AV->Prop}{t:Tk K}:nL l K t=K l:=(rfl)
def EE{K:List aj->Prop}{t:Tk K}:nB [] K t=K []:=(rfl)
def EF{k:Option Nat}{cs:List AV}{st:c6}{l:List aj}{K:List aj->Prop}{t:Tk K}:nB (⟨k,cs,st⟩::l) K t=nB l (λl=>K (⟨k,cs,st⟩::l)) .k:=(rfl)
def Om{l:List aj}{K:List aj->Prop}{t:Tk K}:nB l K t=K l:=(rfl)
def On{l:List AV}{K:List AV->Prop}{t:Tk K}:nC l K t=K l:=(rfl)
def EG{A B:Prop}{t:Tk A}{u:Tk B}:gT true A B t u=A:=xQ
def EH{A B:Prop}{t:Tk A}{u:Tk B}:gT false A B t u=B:=xR
def EI{b:Bool}{A B:Prop}{t:Tk A}{u:Tk B}:gT (!b) A B t u=gT b B A u t:=by cases b<;>simp[gT,gK]
def Oo{b:Bool}{A B:Prop}{t:Tk A}{u:Tk B}:gT b A B t u=(im (b=true) A .k/\im (b=false) B .k):=(rfl)
def xS{p:Prop} [Decidable p]{A B:Prop}{t:Tk A}{u:Tk B}:gT (decide p) A B t u=(im p A .k/\im (¬p) B .k):=by
 by_cases h:p<;>simp[gT,gK,im,h]
def Oq{A:Prop}{t:Tk A}:im True A t=A:=by simp[im]
def Ot{A:Prop}{t:Tk A}:im False A t=True:=by simp[im]
def Ou{p A:Prop}{t:Tk A}:im p A t=(p->A):=(rfl)
def EJ{k:Option Nat}{cs:List AV}{u:Nat}{K:Option Nat->List AV->c6->Prop}{t:Tk K}:bk (some ⟨k,cs,.live⟩) u K t=(cs.length=u/\K k cs .live):=by simp[bk,c6.eH]
def EK{k:Option Nat}{cs:List AV}{st:c6}{u:Nat}{K:Option Nat->List AV->c6->Prop}{t:Tk K}:bk (some ⟨k,cs,st⟩) u K t=((cs.length=u/\st.eH=true)/\K k cs st):=(rfl)
def oC{σ:List aj}{b u:Nat}{K:aj->Prop}:aH (upto σ b u) K=bk (ay σ b) u (λk cs st=>K ⟨k,cs,st⟩) .k:=by
 unfold upto bk;cases ay σ b with
 |none=>rfl
 |some B=>
  obtain⟨k,cs,st⟩:=B
  by_cases h:cs.length=u<;>cases st<;>simp[h,aH,c6.eH]
@[reducible] def eX {α β:Type} (f:α->β):List α->List β
 | []=>[]
 |x::r=>f x::eX f r
def fK{a b:Type}(f:a->b):∀l:List a,l.map f=eX f l
 | []=>rfl
 |x::r=>by simp[eX,fK f r]
@[reducible] def ec {α:Type}:List α->List α->List α
 | [],m=>m
 |x::r,m=>x::ec r m
def fg{a:Type}:∀l m:List a,l++m=ec l m
 | [],m=>rfl
 |x::r,m=>by simp[ec,fg r m]
@[reducible] def pe:Nat->List AV->List AV
 |0,_=>[]
 |_,[]=>[]
 |n+1,x::r=>x::pe n r
def EL:∀(n:Nat) (l:List AV),l.take n=pe n l
 |0,l=>by cases l<;>rfl
 |n+1,[]=>rfl
 |n+1,x::r=>by simp[pe,EL n r]
@[reducible] def ph:Nat->List AV->List AV
 |0,l=>l
 |_,[]=>[]
 |n+1,_::r=>ph n r
def EM:∀(n:Nat) (l:List AV),l.drop n=ph n l
 |0,l=>by cases l<;>rfl
 |n+1,[]=>rfl
 |n+1,x::r=>by simp[ph,EM n r]
def Ov{cs:List AV}{off:Nat}{K:AV->Prop}{t:Tk K}:pT cs off none K t=oK (jL cs off) K .k:=(rfl)
def Ow{cs:List AV}{off n:Nat}{K:AV->Prop}{t:Tk K}:pT cs off (some n) K t=(off+n<=cs.length/\nL (pe n (ph off cs)) (λl=>K (.agg l)) .k):=by
 unfold pT part;rw[<-EL,<-EM]
 by_cases h:off+n<=cs.length<;>simp[h,aH,nL]
section
variable{L:CE}{vars env:List AV}{aF σ:List aj}{K:List AV->List aj->List aj->Prop}
def ii (x y:AV) (K:Int->Int->Prop):Prop:=match x,y with
 |.int a,.int b=>K a b
 |_,_=>False
def Ox{a b:Int}{K:Int->Int->Prop}:ii (.int a) (.int b) K=K a b:=(rfl)
def bb (x y:AV) (K:Bool->Bool->Prop):Prop:=match x,y with
 |.bool a,.bool b=>K a b
 |_,_=>False
def Oy{a b:Bool}{K:Bool->Bool->Prop}:bb (.bool a) (.bool b) K=K a b:=(rfl)
def b1 (x:AV) (K:Bool->Prop):Prop:=match x with
 |.bool a=>K a
 |_=>False
def Oz{a:Bool}{K:Bool->Prop}:b1 (.bool a) K=K a:=(rfl)
def xT (x:AV) (K:Int->Prop):Prop:=match x with
 |.ag=>K 0
 |.emp=>K 0
 |.aA _ l=>K l.length
 |.sl _ _ _ n=>K n
 |_=>False
def OA{K:Int->Prop}:xT .ag K=K 0:=(rfl)
def OB{K:Int->Prop}:xT .emp K=K 0:=(rfl)
def OC{q:Bool}{l:List AV}{K:Int->Prop}:xT (.aA q l) K=K l.length:=(rfl)
def OD{b u o n:Nat}{K:Int->Prop}:xT (.sl b u o n) K=K n:=(rfl)
def EN (x:AV) (off:Nat) (k:Option Nat) (K:AV->Prop):Prop:=match x with
 |.ptr b u o=>K (.ptr b u (o+off))
 |.ar v=>pT v.cells off k (λy=>K (.ar y)) .k
 |_=>False
def OE{b u o off:Nat}{k:Option Nat}{K:AV->Prop}:EN (.ptr b u o) off k K=K (.ptr b u (o+off)):=(rfl)
def OF{v:AV}{off:Nat}{k:Option Nat}{K:AV->Prop}:EN (.ar v) off k K=pT v.cells off k (λy=>K (.ar y)) .k:=(rfl)
def EO (x:AV) (K:AV->Prop):Prop:=match x with
 |.ptr b u o=>K (.ptr b u o)
 |.ar v=>K (.ar v)
 |_=>False
def OG{b u o:Nat}{K:AV->Prop}:EO (.ptr b u o) K=K (.ptr b u o):=(rfl)
def OH{v:AV}{K:AV->Prop}:EO (.ar v) K=K (.ar v):=(rfl)
def nq (x:AV) (k:Option Nat) (K:AV->Prop):Prop:=match x with
 |.ar v=>match k,v with
  |none,.agg _=>False
  |none,v=>K v
  |some n,.agg l=>l.length=n/\K (.agg l)
  |some _,_=>False
 |_=>False
def OI{n:Int}{K:AV->Prop}:nq (.ar (.int n)) none K=K (.int n):=(rfl)
def OJ{n:Bool}{K:AV->Prop}:nq (.ar (.bool n)) none K=K (.bool n):=(rfl)
def OK{n:List UInt8}{K:AV->Prop}:nq (.ar (.str n)) none K=K (.str n):=(rfl)
def OL{q:Bool}{l:List AV}{K:AV->Prop}:nq (.ar (.aA q l)) none K=K (.aA q l):=(rfl)
def OM{K:AV->Prop}:nq (.ar .ag) none K=K .ag:=(rfl)
def ON{v:AV}{K:AV->Prop}:nq (.ar (.ar v)) none K=K (.ar v):=(rfl)
def OO{f:Nat}{l:List AV}{K:AV->Prop}:nq (.ar (.func f l)) none K=K (.func f l):=(rfl)
def OP{f:Nat}{l:AV}{K:AV->Prop}:nq (.ar (.iface f l)) none K=K (.iface f l):=(rfl)
def OQ{n:Nat}{l:List AV}{K:AV->Prop}:nq (.ar (.agg l)) (some n) K=(l.length=n/\K (.agg l)):=(rfl)
def fl1 (x:AV) (off:Nat) (k:Option Nat) (K:AV->Prop):Prop:=match x with
 |.agg l=>pT l off k K .k
 |_=>False
def OR{l:List AV}{off:Nat}{k:Option Nat}{K:AV->Prop}:fl1 (.agg l) off k K=pT l off k K .k:=(rfl)
def KQ (x:AV) (i:Nat) (K:AV->Prop):Prop:=match x with
 |.bz l=>oK (jL l i) K .k
 |_=>False
def OS{l:List AV}{i:Nat}{K:AV->Prop}:KQ (.bz l) i K=oK (jL l i) K .k:=(rfl)
def mD (σ:List aj) (x:AV) (K:Bool->Prop):Prop:=match x with
 |.ag=>K true
 |.aA true _=>K false
 |.aA false (_::_)=>K false
 |.sl b u _ _=>aH (upto σ b u) λB=>match B.st with
  |.live=>K false
  |_=>False
 |_=>False
def OT{K:Bool->Prop}:mD σ .ag K=K true:=(rfl)
def OU{l:List AV}{K:Bool->Prop}:mD σ (.aA true l) K=K false:=(rfl)
def OV{x:AV}{l:List AV}{K:Bool->Prop}:mD σ (.aA false (x::l)) K=K false:=(rfl)
def OW{b u o n:Nat}{K:Bool->Prop}:mD σ (.sl b u o n) K=bk (ay σ b) u (λ_ _ st=>st = .live/\K false) .k:=by
 show aH (upto σ b u) _=_;rw[show(λB:aj=>match B.st with | .live=>K false|_=>False)=λB=>B.st = .live/\K false from by funext B;cases B.st<;>simp,oC]
def KR (x i:AV) (st:Nat) (K:AV->Prop):Prop:=match x,i with
 |.aA _ l,.int n=>xK l n (λy=>y.cells.length=st/\K (.ar y)) .k
 |.sl b u off len,.int n=>aO (0<=n/\n<len) (K (.ptr b u (off+n.toNat*st)))
 |_,_=>False
def OX{q:Bool}{l:List AV}{n:Int}{st:Nat}{K:AV->Prop}:KR (.aA q l) (.int n) st K=xK l n (λy=>y.cells.length=st/\K (.ar y)) .k:=(rfl)
def OY{b u off len:Nat}{n:Int}{st:Nat}{K:AV->Prop}:KR (.sl b u off len) (.int n) st K=aO (0<=n/\n<len) (K (.ptr b u (off+n.toNat*st))):=(rfl)
def KS (x i:AV) (n:Nat) (k:Option Nat) (K:AV->Prop):Prop:=match x,i with
 |.ptr b u o,.int j=>aO (0<=j/\j<n) (K (.ptr b u (o+j.toNat*aC k)))
 |.ar v,.int j=>aO (0<=j/\j<n) (pT v.cells (j.toNat*aC k) k (λy=>K (.ar y)) .k)
 |_,_=>False
def OZ{b u o n:Nat}{j:Int}{k:Option Nat}{K:AV->Prop}:KS (.ptr b u o) (.int j) n k K=aO (0<=j/\j<n) (K (.ptr b u (o+j.toNat*aC k))):=(rfl)
def O0{v:AV}{n:Nat}{j:Int}{k:Option Nat}{K:AV->Prop}:KS (.ar v) (.int j) n k K=aO (0<=j/\j<n) (pT v.cells (j.toNat*aC k) k (λy=>K (.ar y)) .k):=(rfl)
def O1 (x:AV) (K:Nat->List AV->Prop):Prop:=match x with
 |.func f a=>K f a
 |_=>False
def O2{f:Nat}{a:List AV}{K:Nat->List AV->Prop}:O1 (.func f a) K=K f a:=(rfl)
def if1 (x:AV) (a:List (Nat×Nat)) (K:Nat->AV->Prop):Prop:=match x with
 |.iface t v=>match fH a t with
  |some f=>K f v
  |none=>False
 |_=>False
def O3{t:Nat}{v:AV}{a:List (Nat×Nat)}{K:Nat->AV->Prop}:if1 (.iface t v) a K=oK (fH a t) (λf=>K f v) .k:=by cases h:fH a t<;>simp[if1,h,oK,aH]
def i1 (x:AV) (K:Int->Prop):Prop:=match x with
 |.int a=>K a
 |.ik _ a=>K a
 |_=>False
def O4{a:Int}{K:Int->Prop}:i1 (.int a) K=K a:=(rfl)
def EP{k:Nat}{a:Int}{K:Int->Prop}:i1 (.ik k a) K=K a:=(rfl)
def st1 (σ:List aj) (p x:AV) (n:Nat) (K:List aj->Prop):Prop:=match p with
 |.ptr b u o=>aH (upto σ b u) λB=>(x.cells.length=n/\B.st.isLive=true/\aQ x=true)/\rS B.cells o x.cells λcs=>K (az σ b ⟨B.k,cs,B.st⟩)
 |_=>False
def O5{b u o n:Nat}{x:AV}{K:List aj->Prop}:st1 σ (.ptr b u o) x n K=bk (ay σ b) u (λk cs st=>(x.cells.length=n/\st.isLive=true/\aQ x=true)/\pU cs o x.cells (λcs=>nC cs (λcs=>nB (az σ b ⟨k,cs,st⟩) K .k) .k) .k) .k:=oC
variable{x:Rf}
def O6:bA L vars (.mv x) false env aF σ K=K (rv vars env x::env) aF σ:=(rfl)
variable{y:Rf}
def O7{o:tm}:bA L vars (.bin o x y) false env aF σ K=ii (rv vars env x) (rv vars env y) λa b=>p9 o a b λv=>K (v::env) aF σ:=(rfl)
def O8:bA L vars (.not x) false env aF σ K=b1 (rv vars env x) λa=>K (.bool (!a)::env) aF σ:=by
 show aH (ev L σ σ.length [] (rv vars env) (.not x)) _=_;simp only[ev,b1];generalize rv vars env x=p;cases p<;>rfl
variable{c:Rf}
theorem O9:bA L vars (.pick c x y) false env aF σ K=b1 (rv vars env c) λa=>K ((match a with|true=>rv vars env x|false=>rv vars env y)::env) aF σ:=by
 show aH (ev L σ σ.length [] (rv vars env) (.pick c x y)) _=_;simp only[ev,b1];cases h:rv vars env c with
 |bool b=>cases b<;>rfl
 |_=>rfl
def Pa:bA L vars (.len x) false env aF σ K=xT (rv vars env x) λa=>K (.int a::env) aF σ:=by
 show aH (ev L σ σ.length [] (rv vars env) (.len x)) _=_;simp only[ev,xT];generalize rv vars env x=p;cases p<;>rfl
def Pb:bA L vars (.mx true x y) false env aF σ K=ii (rv vars env x) (rv vars env y) λa b=>K (.int (max a b)::env) aF σ:=by
 show aH (ev L σ σ.length [] (rv vars env) (.mx true x y)) _=_;simp only[ev,ii];generalize rv vars env x=p;generalize rv vars env y=q;cases p<;>cases q<;>try rfl
 rename_i a b;show K (.int (if a<b then b else a)::env) aF σ=K (.int (max a b)::env) aF σ
 rw[show(if a<b then b else a)=max a b by rw[Int.max_def];split<;>split<;>omega]
def Pc:bA L vars (.mx false x y) false env aF σ K=ii (rv vars env x) (rv vars env y) λa b=>K (.int (min a b)::env) aF σ:=by
 show aH (ev L σ σ.length [] (rv vars env) (.mx false x y)) _=_;simp only[ev,ii];generalize rv vars env x=p;generalize rv vars env y=q;cases p<;>cases q<;>try rfl
 rename_i a b;show K (.int (if b<a then b else a)::env) aF σ=K (.int (min a b)::env) aF σ
 rw[show(if b<a then b else a)=min a b by rw[Int.min_def];split<;>split<;>omega]
variable{off:Nat}
def Pd{k:Option Nat}:bA L vars (.nV x off k) false env aF σ K=EN (rv vars env x) off k λa=>K (a::env) aF σ:=by
 show aH (ev L σ σ.length [] (rv vars env) (.nV x off k)) _=_;simp only[ev,EN];generalize rv vars env x=p;cases p<;>try rfl
 rename_i v;dsimp only[pT];cases part v.cells off k<;>rfl
variable{i:Rf}{st:Nat}
def Pe:bA L vars (.bW x i st) false env aF σ K=KR (rv vars env x) (rv vars env i) st λv=>K (v::env) aF σ:=(rfl)
variable{n:Nat}
def Pf{k:Option Nat}:bA L vars (.ko x i n k) false env aF σ K=KS (rv vars env x) (rv vars env i) n k λv=>K (v::env) aF σ:=(rfl)
def Pg:bA L vars (.vM x) false env aF σ K=EO (rv vars env x) λa=>K (a::env) aF σ:=by
 show aH (ev L σ σ.length [] (rv vars env) (.vM x)) _=_;simp only[ev,EO];generalize rv vars env x=p;cases p<;>rfl
def oD{a:Type}{c:Prop} [Decidable c]{x:a}{K:a->Prop}:aH (if c then some x else none) K=aO c (K x):=by
 by_cases h:c<;>simp[h,aH,aO]
def Ph:bA L vars (.cz x) false env aF σ K=aO (aB (rv vars env x)=true) (K (.ar (rv vars env x)::env) aF σ):=by
 show aH (ev L σ σ.length [] (rv vars env) (.cz x)) _=_;simp only[ev,oD,ct]
def Pj{n:Nat}:bA L vars (.eC n) false env aF σ K=K (.au::env) aF σ:=(rfl)
variable{p:Rf}
def Pk:bA L vars (.gv p x n) false env aF σ K=aO (aB (rv vars env x)=true/\(rv vars env x).cells.length=n) (K (.ar (rv vars env x)::env) aF σ):=by
 show aH (ev L σ σ.length [] (rv vars env) (.gv p x n)) _=_;simp only[ev,oD,ct,aD,bJ]
variable{z:List AV}
def Pm{ps:List (Nat×Nat×Rf)}:bA L vars (.e9 z ps) false env aF σ K=aH (dY z (ps.map λp=>(p.1,p.2.1,rv vars env p.2.2))) λl=>K (.agg l::env) aF σ:=by
 show aH (ev L σ σ.length [] (rv vars env) (.e9 z ps)) _=_;simp only[ev];cases dY z (ps.map λp=>(p.1,p.2.1,rv vars env p.2.2))<;>rfl
def Pn{i:Nat}:bA L vars (.ext x i) false env aF σ K=KQ (rv vars env x) i λa=>K (a::env) aF σ:=by
 show aH (ev L σ σ.length [] (rv vars env) (.ext x i)) _=_;simp only[ev,KQ];generalize rv vars env x=p;cases p<;>try rfl
 rename_i l;dsimp only[oK];cases jL l i<;>rfl
def Po{f:Nat}{cs:List Rf}:bA L vars (.tS f cs) false env aF σ K=K (.func f (cs.map (rv vars env))::env) aF σ:=(rfl)
variable{ps:List Rf}
def Pp:bA L vars (.cA ps st) false env aF σ K=aO (aq (ps.map (rv vars env))=true/\fitAll st (ps.map (rv vars env))=true) (K (.aA false (ps.map (rv vars env))::env) aF σ):=by
 show aH (ev L σ σ.length [] (rv vars env) (.cA ps st)) _=_;simp only[ev,oD,ct,aD]
def Pq:bA L vars (.bY ps st) false env aF σ K=aO (fitAll st (ps.map (rv vars env))=true) (K (.arr (ps.map (rv vars env))::env) aF σ):=by
 show aH (ev L σ σ.length [] (rv vars env) (.bY ps st)) _=_;simp only[ev,oD,ct]
variable{args:List Rf}
def Pr{f:Nat}:bA L vars (.kG f args) false env aF σ K=nj L f (args.map (rv vars env)) λv=>K (v::env) aF σ:=(rfl)
def Ps:bA L vars (.gP x args) false env aF σ K=O1 (rv vars env x) λf a=>nj L f (args.map (rv vars env)++a) λv=>K (v::env) aF σ:=(rfl)
def Pt{n:Bool}:bA L vars (.ma n x) false env aF σ K=mD σ (rv vars env x) λa=>K (.bool (a != n)::env) aF σ:=by
 show aH (ev L σ σ.length [] (rv vars env) (.ma n x)) _=_;cases h:rv vars env x with
 |ag=>simp[ev,h,mD,aH,ct]
 |aA q l=>
  cases q with
  |true=>simp[ev,h,mD,aH,ct]
  |false=>cases l<;>simp[ev,h,mD,aH,ct]
 |sl b u o n=>
  simp only[ev,h,mD];cases upto σ b u with
  |none=>rfl
  |some B=>obtain⟨q,cs,st⟩:=B;cases st<;>simp[aH,ct]
 |_=>simp[ev,h,mD,aH]
def Pu{n:Bool}:bA L vars (.ma n x) true env aF σ K=mD aF (rv vars env x) λa=>K (.bool (a != n)::env) aF σ:=by
 show aH (ev L aF σ.length [] (rv vars env) (.ma n x)) _=_;cases h:rv vars env x with
 |ag=>simp[ev,h,mD,aH,ct]
 |aA q l=>
  cases q with
  |true=>simp[ev,h,mD,aH,ct]
  |false=>cases l<;>simp[ev,h,mD,aH,ct]
 |sl b u o n=>
  simp only[ev,h,mD];cases upto aF b u with
  |none=>rfl
  |some B=>obtain⟨q,cs,st⟩:=B;cases st<;>simp[aH,ct]
 |_=>simp[ev,h,mD,aH]
theorem Pv{k:Option Nat}:bA L vars (.bH x k) false env aF σ K=nq (rv vars env x) k λa=>K (a::env) aF σ:=by
 show aH (ev L σ σ.length [] (rv vars env) (.bH x k)) _=_;simp only[ev,nq];generalize rv vars env x=p;cases p<;>try rfl
 rename_i v;cases k with
 |none=>cases v<;>rfl
 |some n=>
  cases v with
  |agg l=>by_cases h:l.length=n<;>simp[h,aH,ct]
  |_=>rfl
def ld1 (σ:List aj) (x:AV) (k:Option Nat) (K:AV->Prop):Prop:=match x with
 |.ar v=>nq (.ar v) k K
 |.ptr b u o=>aH (upto σ b u) λB=>B.st.isLive=true/\rP B.cells o k K
 |_=>False
def Pw{k:Option Nat}:bA L vars (.ld x k) false env aF σ K=ld1 σ (rv vars env x) k λa=>K (a::env) aF σ:=by
 show kZ L σ σ.length (rv vars env) (.ld x k) _=_;cases h:rv vars env x with
 |ar v=>cases k<;>cases v<;>simp[kZ,h,ld1,nq,ct]
 |ptr b u o=>simp[kZ,h,ld1,ct]
 |_=>simp[kZ,h,ld1]
def Px{k:Option Nat}:bA L vars (.ld x k) true env aF σ K=ld1 aF (rv vars env x) k λa=>K (a::env) aF σ:=by
 show kZ L aF σ.length (rv vars env) (.ld x k) _=_;cases h:rv vars env x with
 |ar v=>cases k<;>cases v<;>simp[kZ,h,ld1,nq,ct]
 |ptr b u o=>simp[kZ,h,ld1,ct]
 |_=>simp[kZ,h,ld1]
def Py (σ:List aj) (x:AV) (a:Int) (b:Option Int) (st:Nat) (K:AV->Prop):Prop:=match x with
 |.aA e l=>aO ((0<=a/\a<=b.getD l.length/\b.getD l.length<=l.length)/\dy st l=true) (K (.aA (e&&decide (0<l.length)) ((l.drop a.toNat).take ((b.getD l.length).toNat-a.toNat))))
 |.sl d u off len=>aH (upto σ d u) λB=>aO ((0<=a/\a<=b.getD len/\b.getD len<=len)/\aC B.k=st) (K (.sl d u (off+a.toNat*st) ((b.getD len).toNat-a.toNat)))
 |_=>False
variable{lo hi:Option Rf}
theorem Pz:bA L vars (.l9 x lo hi st) false env aF σ K=aH (ow (rv vars env) lo) λa=>aH (ox (rv vars env) hi) λb=>Py σ (rv vars env x) a b st λv=>K (v::env) aF σ:=by
 show kZ L σ σ.length (rv vars env) (.l9 x lo hi st) _=_;unfold kZ;simp only;cases ow (rv vars env) lo with
 |none=>rfl
 |some a=>cases ox (rv vars env) hi with
  |none=>rfl
  |some b=>rfl
theorem PA:bA L vars (.l9 x lo hi st) true env aF σ K=aH (ow (rv vars env) lo) λa=>aH (ox (rv vars env) hi) λb=>Py aF (rv vars env x) a b st λv=>K (v::env) aF σ:=by
 show kZ L aF σ.length (rv vars env) (.l9 x lo hi st) _=_;unfold kZ;simp only;cases ow (rv vars env) lo with
 |none=>rfl
 |some a=>cases ox (rv vars env) hi with
  |none=>rfl
  |some b=>rfl
def PB{f:Nat}:bA L vars (.nY f args) false env aF σ K=aH (aM (λx=>view σ false vd (rv vars env x)) args) λvs=>LX L f vs [] λv σ' =>aH (bu σ' true v) λu=>K (u::env) aF σ:=(rfl)
def PD{f:Nat}:bA L vars (.nY f args) true env aF σ K=aH (aM (λx=>view aF false vd (rv vars env x)) args) λvs=>LX L f vs [] λv σ' =>aH (bu σ' true v) λu=>K (u::env) aF σ:=(rfl)
def PE{f:Nat}:bA L vars (.can f args) false env aF σ K=aO (aq (args.map (rv vars env))=true) (LX L f (args.map (rv vars env)) [] λv σ' =>K (iz σ.length v::env) σ (σ++σ'.map (fZ σ.length))):=(rfl)
def PG{k:Option Nat}:bA L vars (.ti x k) false env aF σ K=aO ((rv vars env x).cells.length=aC k/\aQ (rv vars env x)=true) (K (.ptr σ.length (aC k) 0::env) σ (σ ++ [⟨k,(rv vars env x).cells,.live⟩])):=by
 show aH (ev L σ σ.length [] (rv vars env) (.ti x k)) _=_;simp only[ev,oD,ct,du,aD,bJ]
def PH{k:Option Nat}:bA L vars (.j8 z k) false env aF σ K=aO (z.length=aC k) (K (.ptr σ.length (aC k) 0::env) σ (σ ++ [⟨k,z,.live⟩])):=by
 show aH (ev L σ σ.length [] (rv vars env) (.j8 z k)) _=_;simp only[ev,oD,ct,du,bJ]
def PI{n:Rf}{k:Option Nat}:bA L vars (.kf n c z k) false env aF σ K=ii (rv vars env n) (rv vars env c) λn c=>aO (0<=n/\n<=c/\c<=cE/\z.length=aC k) (K (.sl σ.length (cS c.toNat z).length 0 n.toNat::env) σ (σ ++ [⟨k,cS c.toNat z,.live⟩])):=(rfl)
def PJ{k:Option Nat}:bA L vars (.je ps k) false env aF σ K=aO (fitAll (aC k) (ps.map (rv vars env))=true) (K (.sl σ.length ((ps.map (rv vars env)).flatMap AV.cells).length 0 ps.length::env) σ (σ ++ [⟨k,(ps.map (rv vars env)).flatMap AV.cells,.live⟩])):=by
 show aH (ev L σ σ.length [] (rv vars env) (.je ps k)) _=_;simp only[ev,oD,ct,du]
def PK{k:Option Nat}:bA L vars (.nl k) false env aF σ K=K (.sl σ.length 0 0 0::env) σ (σ ++ [⟨k,[],.fN⟩]):=(rfl)
def KT (σ:List aj) (s:AV) (k:Option Nat) (n:Nat) (cs:List AV) (K:AV->List aj->Prop):Prop:=match s with
 |.sl b u off len=>aH (upto σ b u) λB=>aO (off=0/\u=len*aC k/\len+n<=cE/\ob B.k k=true) ((n=0->K (.sl b u off len) σ)/\(n ≠ 0->cs.length ≠ 0/\K (.sl b (u+cs.length) 0 (len+n)) (mX σ b cs)))
 |.ag=>(n=0->K .ag σ)/\(n ≠ 0->n<=cE/\K (.sl σ.length cs.length 0 n) (σ ++ [⟨k,cs,.live⟩]))
 |.emp=>(n=0->K .emp σ)/\(n ≠ 0->n<=cE/\K (.sl σ.length cs.length 0 n) (σ ++ [⟨k,cs,.live⟩]))
 |.arr l=>(n=0->K (if aq l then .aA true l else .arr l) σ)/\(n ≠ 0->(fitAll (aC k) l=true/\l.length+n<=cE)/\K (.sl σ.length (l.flatMap AV.cells++cs).length 0 (l.length+n)) (σ ++ [⟨k,l.flatMap AV.cells++cs,.live⟩]))
 |_=>False
variable{b u len:Nat}{cs:List AV}
def PL{k:Option Nat}{K:AV->List aj->Prop}:KT σ (.sl b u off len) k n cs K=aH (upto σ b u) λB=>aO (off=0/\u=len*aC k/\len+n<=cE/\ob B.k k=true) ((n=0->K (.sl b u off len) σ)/\(n ≠ 0->cs.length ≠ 0/\K (.sl b (u+cs.length) 0 (len+n)) (mX σ b cs))):=(rfl)
variable{s:Rf}
def PM{k:Option Nat}:bA L vars (.app s x k) false env aF σ K=aH (aE σ k (rv vars env x)) λp=>KT σ (rv vars env s) k p.1 p.2 λv a=>K (v::env) σ a:=by
 show kZ L σ σ.length (rv vars env) (.app s x k) _=_;unfold kZ;simp only;cases aE σ k (rv vars env x)with
 |none=>rfl
 |some p=>
  obtain⟨n,cs⟩:=p;cases h:rv vars env s<;>rfl
def PN:bA L vars (.st p x n) false env aF σ K=st1 σ (rv vars env p) (rv vars env x) n λa=>K (.au::env) [] a:=(rfl)
def KU (σ:List aj) (s:AV) (k:Option Nat) (n:Nat) (cs:List AV) (K:AV->List aj->Prop):Prop:=match s with
 |.sl b u off len=>aH (upto σ b u) λB=>aO (off=0/\len+n<=cE/\ob B.k k=true/\(n ≠ 0->cs.length ≠ 0)) ((n=0->K (.sl b u off len) σ)/\(n ≠ 0->u=len*aC k->K (.sl b (u+cs.length) 0 (len+n)) (az σ b ⟨B.k,B.cells++cs,.live⟩))/\(n ≠ 0->u ≠ len*aC k->(len+n)*aC k<=u/\K (.sl b u 0 (len+n)) (az σ b ⟨B.k,putAt B.cells (len*aC k) cs,B.st⟩)))
 |.ag=>(n=0->K .ag σ)/\(n ≠ 0->n<=cE/\K (.sl σ.length cs.length 0 n) (σ ++ [⟨k,cs,.live⟩]))
 |.emp=>(n=0->K .emp σ)/\(n ≠ 0->n<=cE/\K (.sl σ.length cs.length 0 n) (σ ++ [⟨k,cs,.live⟩]))
 |.arr l=>(n=0->K (if aq l then .aA true l else .arr l) σ)/\(n ≠ 0->(fitAll (aC k) l=true/\l.length+n<=cE)/\K (.sl σ.length (l.flatMap AV.cells++cs).length 0 (l.length+n)) (σ ++ [⟨k,l.flatMap AV.cells++cs,.live⟩]))
 |_=>False
def PO{k:Option Nat}{K:AV->List aj->Prop}:KU σ (.sl b u off len) k n cs K=aH (upto σ b u) λB=>aO (off=0/\len+n<=cE/\ob B.k k=true/\(n ≠ 0->cs.length ≠ 0)) ((n=0->K (.sl b u off len) σ)/\(n ≠ 0->u=len*aC k->K (.sl b (u+cs.length) 0 (len+n)) (az σ b ⟨B.k,B.cells++cs,.live⟩))/\(n ≠ 0->u ≠ len*aC k->(len+n)*aC k<=u/\K (.sl b u 0 (len+n)) (az σ b ⟨B.k,putAt B.cells (len*aC k) cs,B.st⟩))):=(rfl)
def PQ{k:Option Nat}:bA L vars (.bB s x k) false env aF σ K=aH (aE σ k (rv vars env x)) λp=>KU σ (rv vars env s) k p.1 p.2 λv a=>K (v::env) [] a:=by
 show rT L σ (rv vars env) (.bB s x k) (λv σ' =>K (v::env) [] σ')=_;unfold rT;simp only;cases aE σ k (rv vars env x)with
 |none=>rfl
 |some p=>
  obtain⟨n,cs⟩:=p;cases h:rv vars env s<;>rfl
def PR{f:Nat}:bA L vars (.lF f args) false env aF σ K=LX L f (args.map (rv vars env)) σ λv a=>K (v::env) [] a:=(rfl)
end
section
variable{L:CE}{vars env:List AV}{aF σ:List aj}{K:List AV->List aj->List aj->Prop}
def PT{x:Rf}:bA L vars (.mv x) false env aF σ K=nx (rv vars env x) (λv=>K (v::env) aF σ) .k:=O6
def ER{o:tm}{x y:Rf}:bA L vars (.bin o x y) false env aF σ K=nx (rv vars env x) (λx=>nx (rv vars env y) (λy=>ii x y λa b=>p9 o a b λv=>K (v::env) aF σ) .k) .k:=O7
def ES{x:Rf}:bA L vars (.not x) false env aF σ K=nx (rv vars env x) (λx=>b1 x λa=>K (.bool (!a)::env) aF σ) .k:=O8
def pk (b:Bool) (x y:AV):AV:=match b with
 |true=>x
 |false=>y
def PU{x y:AV}:pk true x y=x:=(rfl)
def PV{x y:AV}:pk false x y=y:=(rfl)
variable{b:Bool}
def PW{x y:Int}:pk b (.int x) (.int y) = .int (if b=true then x else y):=by cases b<;>rfl
def PX{x y:Bool}:pk b (.bool x) (.bool y) = .bool (if b=true then x else y):=by cases b<;>rfl
def pq (b:Bool) (x y:AV) (K:AV->Prop) (_:Tk K):Prop:=K (pk b x y)
def ET{x y:AV}{K:AV->Prop}{t:Tk K}:pq true x y K t=nx x K .k:=(rfl)
def EU{x y:AV}{K:AV->Prop}{t:Tk K}:pq false x y K t=nx y K .k:=(rfl)
def EV{b:Bool}{x y:Int}{K:AV->Prop}{t:Tk K}:pq b (.int x) (.int y) K t=K (.int (if b=true then x else y)):=by unfold pq;rw[PW]
def EW{b:Bool}{x y:Bool}{K:AV->Prop}{t:Tk K}:pq b (.bool x) (.bool y) K t=K (.bool (if b=true then x else y)):=by unfold pq;rw[PX]
def PY{b:Bool}{x y:AV}{K:AV->Prop}{t:Tk K}:pq b x y K t=K (pk b x y):=(rfl)
def PZ{c x y:Rf}:bA L vars (.pick c x y) false env aF σ K=nx (rv vars env c) (λc=>b1 c λa=>pq a (rv vars env x) (rv vars env y) (λv=>K (v::env) aF σ) .k) .k:=O9
def EX{x:Rf}:bA L vars (.len x) false env aF σ K=nx (rv vars env x) (λx=>xT x λa=>K (.int a::env) aF σ) .k:=Pa
def EY{x y:Rf}:bA L vars (.mx true x y) false env aF σ K=nx (rv vars env x) (λx=>nx (rv vars env y) (λy=>ii x y λa b=>K (.int (max a b)::env) aF σ) .k) .k:=Pb
def EZ{x y:Rf}:bA L vars (.mx false x y) false env aF σ K=nx (rv vars env x) (λx=>nx (rv vars env y) (λy=>ii x y λa b=>K (.int (min a b)::env) aF σ) .k) .k:=Pc
def E0{x:Rf}{off:Nat}{k:Option Nat}:bA L vars (.nV x off k) false env aF σ K=nx (rv vars env x) (λx=>EN x off k λa=>K (a::env) aF σ) .k:=Pd
def E1{x i:Rf}{st:Nat}:bA L vars (.bW x i st) false env aF σ K=nx (rv vars env x) (λx=>nx (rv vars env i) (λi=>KR x i st λv=>K (v::env) aF σ) .k) .k:=Pe
def P0{x i:Rf}{n:Nat}{k:Option Nat}:bA L vars (.ko x i n k) false env aF σ K=nx (rv vars env x) (λx=>nx (rv vars env i) (λi=>KS x i n k λv=>K (v::env) aF σ) .k) .k:=Pf
def E2{x:Rf}:bA L vars (.vM x) false env aF σ K=nx (rv vars env x) (λx=>EO x λa=>K (a::env) aF σ) .k:=Pg
def E3{x:Rf}:bA L vars (.cz x) false env aF σ K=nx (rv vars env x) (λx=>aO (aB x=true) (K (.ar x::env) aF σ)) .k:=Ph
def E4{p x:Rf}{n:Nat}:bA L vars (.gv p x n) false env aF σ K=nx (rv vars env x) (λx=>aO (aB x=true/\x.cells.length=n) (K (.ar x::env) aF σ)) .k:=Pk
def E5{z:List AV}{ps:List (Nat×Nat×Rf)}:bA L vars (.e9 z ps) false env aF σ K=oK (dY z (eX (λp=>(p.1,p.2.1,rv vars env p.2.2)) ps)) (λl=>nL l (λl=>K (.agg l::env) aF σ) .k) .k:=by rw[<-fK];exact Pm
def E6{x:Rf}{i:Nat}:bA L vars (.ext x i) false env aF σ K=nx (rv vars env x) (λx=>KQ x i λa=>nx a (λa=>K (a::env) aF σ) .k) .k:=Pn
def E7{f:Nat}{cs:List Rf}:bA L vars (.tS f cs) false env aF σ K=nL (eX (rv vars env) cs) (λl=>K (.func f l::env) aF σ) .k:=by rw[<-fK];exact Po
def P1{ps:List Rf}{st:Nat}:bA L vars (.cA ps st) false env aF σ K=nL (eX (rv vars env) ps) (λl=>aO (aq l=true/\fitAll st l=true) (K (.aA false l::env) aF σ)) .k:=by rw[<-fK];exact Pp
def P4{ps:List Rf}{st:Nat}:bA L vars (.bY ps st) false env aF σ K=nL (eX (rv vars env) ps) (λl=>aO (fitAll st l=true) (K (.arr l::env) aF σ)) .k:=by rw[<-fK];exact Pq
def cl (L:CE) (f:Nat) (args:List AV) (K:AV->Prop) (_:Tk K):Prop:=nj L f args K
def E8{f:Nat}{args:List AV}{K:AV->Prop}{t:Tk K}:cl L f args K t=(aq args=true/\nL (eX wk args) (λas=>oK (jN L f as) (λv=>nx v K .k) .k) .k):=by rw[<-fK];rfl
def E9{f:Nat}{args:List Rf}:bA L vars (.kG f args) false env aF σ K=nL (eX (rv vars env) args) (λas=>cl L f as (λv=>K (v::env) aF σ) .k) .k:=by rw[<-fK];exact Pr
def P5{x:Rf}{args:List Rf}:bA L vars (.gP x args) false env aF σ K=nx (rv vars env x) (λx=>O1 x λf a=>nL (ec (eX (rv vars env) args) a) (λas=>cl L f as (λv=>K (v::env) aF σ) .k) .k) .k:=by unfold nx nL cl;simp only[<-fK,<-fg];exact Ps
def Fa{n:Bool}{x:Rf}:bA L vars (.ma n x) false env aF σ K=nx (rv vars env x) (λx=>mD σ x λa=>K (.bool (a != n)::env) aF σ) .k:=Pt
def P6{n:Bool}{x:Rf}:bA L vars (.ma n x) true env aF σ K=nx (rv vars env x) (λx=>mD aF x λa=>K (.bool (a != n)::env) aF σ) .k:=Pu
def Fb{x:Rf}{k:Option Nat}:bA L vars (.bH x k) false env aF σ K=nx (rv vars env x) (λx=>nq x k λa=>K (a::env) aF σ) .k:=Pv
def Fc (σ:List aj) (x:AV) (k:Option Nat) (K:AV->Prop):Prop:=match x with
 |.ar v=>nx v (λv=>nq (.ar v) k K) .k
 |.ptr b u o=>bk (ay σ b) u (λ_ cs st=>st.isLive=true/\pT cs o k (λv=>nx v K .k) .k) .k
 |_=>False
def P7{v:AV}{k:Option Nat}{K:AV->Prop}:Fc σ (.ar v) k K=nx v (λv=>nq (.ar v) k K) .k:=(rfl)
def P8{b u o:Nat}{k:Option Nat}{K:AV->Prop}:Fc σ (.ptr b u o) k K=bk (ay σ b) u (λ_ cs st=>st.isLive=true/\pT cs o k (λv=>nx v K .k) .k) .k:=(rfl)
variable{x:AV}
theorem Fe{σ:List aj}{k:Option Nat}{K:AV->Prop}:ld1 σ x k K=Fc σ x k K:=by
 cases x with
 |ptr b u o=>exact oC
 |_=>rfl
def P9{x:Rf}{k:Option Nat}:bA L vars (.ld x k) false env aF σ K=nx (rv vars env x) (λx=>Fc σ x k λa=>K (a::env) aF σ) .k:=by unfold nx;simp only[<-Fe];exact Pw
def Ff{x:Rf}{k:Option Nat}:bA L vars (.ld x k) true env aF σ K=nx (rv vars env x) (λx=>Fc aF x k λa=>K (a::env) aF σ) .k:=by unfold nx;simp only[<-Fe];exact Px
def Fg (σ:List aj) (x:AV) (a:Int) (b:Option Int) (st:Nat) (K:AV->Prop):Prop:=match x with
 |.aA e l=>aO ((0<=a/\a<=b.getD l.length/\b.getD l.length<=l.length)/\dy st l=true) (nC ((l.drop a.toNat).take ((b.getD l.length).toNat-a.toNat)) (λf =>K (.aA (e&&decide (0<l.length)) f)) .k)
 |.sl d u off len=>bk (ay σ d) u (λk _ _=>aO ((0<=a/\a<=b.getD len/\b.getD len<=len)/\aC k=st) (K (.sl d u (off+a.toNat*st) ((b.getD len).toNat-a.toNat)))) .k
 |_=>False
def Qa{d:Bool}{l:List AV}{a:Int}{b:Option Int}{st:Nat}{K:AV->Prop}:Fg σ (.aA d l) a b st K=aO ((0<=a/\a<=b.getD l.length/\b.getD l.length<=l.length)/\dy st l=true) (nC ((l.drop a.toNat).take ((b.getD l.length).toNat-a.toNat)) (λl' =>K (.aA (d&&decide (0<l.length)) l')) .k):=(rfl)
def Qb{d u off len:Nat}{a:Int}{b:Option Int}{st:Nat}{K:AV->Prop}:Fg σ (.sl d u off len) a b st K=bk (ay σ d) u (λk _ _=>aO ((0<=a/\a<=b.getD len/\b.getD len<=len)/\aC k=st) (K (.sl d u (off+a.toNat*st) ((b.getD len).toNat-a.toNat)))) .k:=(rfl)
theorem Fh{σ:List aj}{a:Int}{b:Option Int}{st:Nat}{K:AV->Prop}:Py σ x a b st K=Fg σ x a b st K:=by
 cases x with
 |sl b u o n=>exact oC
 |_=>rfl
def ix1 (x i:AV) (n:Nat) (k:Option Nat) (K:AV->Prop):Prop:=match x,i with
 |.agg l,.int j=>aO (0<=j/\j<n) (pT l (j.toNat*aC k) k (λv=>nx v K .k) .k)
 |_,_=>False
def Fi{l:List AV}{j:Int}{n:Nat}{k:Option Nat}{K:AV->Prop}:ix1 (.agg l) (.int j) n k K=aO (0<=j/\j<n) (pT l (j.toNat*aC k) k (λv=>nx v K .k) .k):=(rfl)
def Fj{x i:Rf}{n:Nat}{k:Option Nat}:bA L vars (.idx x i n k) false env aF σ K=nx (rv vars env x) (λx=>nx (rv vars env i) (λi=>ix1 x i n k λv=>K (v::env) aF σ) .k) .k:=by
 show aH (ev L σ σ.length [] (rv vars env) (.idx x i n k)) _=_;simp only[nx];generalize b:rv vars env x=p;generalize d:rv vars env i=q;simp only[ev,b,d];cases p<;>try rfl
 cases q<;>try rfl
 rename_i l j;rw[Fi]
 by_cases a:0<=j/\j<(n:Int)
 .simp only[ah a,aO,a,true_and,pT,nx]
  cases part l (j.toNat*aC k) k<;>rfl
 .simp only[ae a]
  exact propext ⟨λh=>h.elim,λh=>a h.1⟩
def xU:List AV->List AV->(Bool->Prop)->Prop
 | [],[],K=>K true
 |.int a::xs,.int b::ys,K=>xU xs ys λc=>K (decide (a=b)&&c)
 |_,_,_=>False
def Qc{K:Bool->Prop}:xU [] [] K=K true:=(rfl)
def Fk{a b:Int}{xs ys:List AV}{K:Bool->Prop}:xU (.int a::xs) (.int b::ys) K=xU xs ys λc=>K (decide (a=b)&&c):=(rfl)
def Qd:∀{xs ys:List AV}{K:Bool->Prop},aH (cu xs ys) K=xU xs ys K:=by
 intro xs
 induction xs with
 |nil=>intro ys K;cases ys<;>rfl
 |cons x xs d=>
  intro ys K;cases ys with
  |nil=>cases x<;>rfl
  |cons y ys=>
   cases x<;>try rfl
   cases y<;>try rfl
   rename_i a b;rw[Fk,<-d];simp only[cu];cases cu xs ys<;>rfl
def sq1 (n:Nat) (x y:AV) (K:Bool->Prop):Prop:=match x,y with
 |.agg xs,.agg a=>xs.length=n/\xU xs a K
 |_,_=>False
def Fl{n:Nat}{xs ys:List AV}{K:Bool->Prop}:sq1 n (.agg xs) (.agg ys) K=(xs.length=n/\xU xs ys K):=(rfl)
def Fm{g:Bool}{n:Nat}{x y:Rf}:bA L vars (.seq g n x y) false env aF σ K=nx (rv vars env x) (λx=>nx (rv vars env y) (λy=>sq1 n x y λb=>K (.bool (b != g)::env) aF σ) .k) .k:=by
 show aH (ev L σ σ.length [] (rv vars env) (.seq g n x y)) _=_;simp only[nx];generalize d:rv vars env x=p;generalize e:rv vars env y=q;simp only[ev,d,e];cases p<;>try rfl
 cases q<;>try rfl
 rename_i xs f;rw[Fl,<-Qd]
 by_cases a:xs.length=n
 .simp only[ah a,a,true_and]
  cases cu xs f<;>rfl
 .simp only[ae a]
  exact propext ⟨λh=>h.elim,λh=>a h.1⟩
def mp (o:Option aj) (K:Option Nat->List AV->List (AV×AV)->Prop) (_:Tk K):Prop:=match o with
 |some ⟨k,cs,.map es⟩=>cs.length=0/\K k cs es
 |_=>False
def Qe{k:Option Nat}{cs:List AV}{es:List (AV×AV)}{K:Option Nat->List AV->List (AV×AV)->Prop}{t:Tk K}:mp (some ⟨k,cs,.map es⟩) K t=(cs.length=0/\K k cs es):=(rfl)
theorem vU{σ:List aj}{b:Nat}{K:List (AV×AV)->Prop}:aH (da σ b) K=mp (ay σ b) (λ_ _ es=>K es) .k:=by
 unfold mp da;cases ay σ b with
 |none=>rfl
 |some B=>
  obtain⟨k,cs,st⟩:=B;cases st with
  |map es=>
   by_cases h:cs.length=0
   .simp[h,aH]
   .simp[h,aH]
  |_=>rfl
def Cm (z:AV) (ok:Bool):Option AV->AV
 |some v=>if ok then .bz [v,.bool true]else v
 |none=>if ok then .bz [z,.bool false]else z
theorem Qf{z v:AV}:Cm z false (some v)=v:=rfl
theorem Qg{z:AV}:Cm z false none=z:=rfl
theorem Qh{z v:AV}:Cm z true (some v) = .bz [v,.bool true]:=rfl
theorem Qi{z:AV}:Cm z true none = .bz [z,.bool false]:=rfl
def Fo (σ:List aj) (x:AV) (a:Nat) (k z:AV) (ok:Bool) (K:AV->Prop):Prop:=match x with
 |.b8 b=>aH (da σ b) λes=>aO (bd a k=true) (oK (cw es k) (λo=>nx (Cm z ok o) K .k) .k)
 |_=>False
def Qj{σ:List aj}{b a:Nat}{k z:AV}{ok:Bool}{K:AV->Prop}:Fo σ (.b8 b) a k z ok K=mp (ay σ b) (λ_ _ es=>aO (bd a k=true) (oK (cw es k) (λo=>nx (Cm z ok o) K .k) .k)) .k:=vU
def Fp{x k:Rf}{a:Nat}{z:AV}{ok:Bool}:bA L vars (.tO x a k z ok) false env aF σ K=nx (rv vars env x) (λx=>nx (rv vars env k) (λk=>Fo σ x a k z ok λv=>K (v::env) aF σ) .k) .k:=by
 show aH (ev L σ σ.length [] (rv vars env) (.tO x a k z ok)) _=_;simp only[nx];generalize d:rv vars env x=p;generalize e:rv vars env k=q;simp only[ev,d,e];cases p<;>try rfl
 simp only[Fo];cases da σ _ with
 |none=>rfl
 |some es=>
  simp only[uj,aO]
  by_cases b:bd a q=true
  .simp only[ah b,b,true_and]
   cases cw es q with
   |none=>rfl
   |some o=>cases o<;>rfl
  .simp only[ae b]
   exact propext ⟨λh=>h.elim,λh=>b h.1⟩
def Qk{x k:Rf}{a:Nat}{z:AV}{ok:Bool}:bA L vars (.tO x a k z ok) true env aF σ K=nx (rv vars env x) (λx=>nx (rv vars env k) (λk=>Fo aF x a k z ok λv=>K (v::env) aF σ) .k) .k:=by
 show aH (ev L aF σ.length [] (rv vars env) (.tO x a k z ok)) _=_;simp only[nx];generalize d:rv vars env x=p;generalize e:rv vars env k=q;simp only[ev,d,e];cases p<;>try rfl
 simp only[Fo];cases da aF _ with
 |none=>rfl
 |some es=>
  simp only[uj,aO]
  by_cases b:bd a q=true
  .simp only[ah b,b,true_and]
   cases cw es q with
   |none=>rfl
   |some o=>cases o<;>rfl
  .simp only[ae b]
   exact propext ⟨λh=>h.elim,λh=>b h.1⟩
def Fq (σ:List aj) (x:AV) (K:Int->Prop):Prop:=match x with
 |.b8 b=>aH (da σ b) λes=>K es.length
 |_=>False
def Ql{σ:List aj}{b:Nat}{K:Int->Prop}:Fq σ (.b8 b) K=mp (ay σ b) (λ_ _ es=>K es.length) .k:=vU
def Fs{x:Rf}:bA L vars (.tk x) false env aF σ K=nx (rv vars env x) (λx=>Fq σ x λn=>K (.int n::env) aF σ) .k:=by
 show aH (ev L σ σ.length [] (rv vars env) (.tk x)) _=_;simp only[nx];generalize a:rv vars env x=p;simp only[ev,a];cases p<;>try rfl
 simp only[Fq];cases da σ _<;>rfl
def Qm{x:Rf}:bA L vars (.tk x) true env aF σ K=nx (rv vars env x) (λx=>Fq aF x λn=>K (.int n::env) aF σ) .k:=by
 show aH (ev L aF σ.length [] (rv vars env) (.tk x)) _=_;simp only[nx];generalize a:rv vars env x=p;simp only[ev,a];cases p<;>try rfl
 simp only[Fq];cases da aF _<;>rfl
def Ft:bA L vars .vG false env aF σ K=nB (ec σ [⟨some 0,[],.map []⟩]) (λa=>K (.b8 σ.length::env) σ a) .k:=by rw[<-fg];rfl
def Qn (σ:List aj) (m:AV) (a:Nat) (k x:AV) (K:List aj->Prop):Prop:=match m with
 |.b8 b=>mp (ay σ b) (λd cs es=>aO (bd a k=true/\aB x=true) (oK (cw es k) (λo=>o=none/\nB (az σ b ⟨d,cs,.map (es ++ [(k,x)])⟩) K .k) .k)) .k
 |_=>False
theorem Qo{σ:List aj}{b a:Nat}{k x:AV}{K:List aj->Prop}:Qn σ (.b8 b) a k x K=mp (ay σ b) (λd cs es=>aO (bd a k=true/\aB x=true) (oK (cw es k) (λo=>o=none/\nB (az σ b ⟨d,cs,.map (es ++ [(k,x)])⟩) K .k) .k)) .k:=rfl
def Fu{m k x:Rf}{a:Nat}:bA L vars (.qH m a k x) false env aF σ K=nx (rv vars env m) (λm=>nx (rv vars env k) (λk=>nx (rv vars env x) (λx=>Qn σ m a k x λf=>K (.au::env) [] f) .k) .k) .k:=by
 show aH (dO L σ (rv vars env) (.qH m a k x)) _=_;simp only[nx];generalize g:rv vars env m=p;generalize i:rv vars env k=q;generalize j:rv vars env x=r;simp only[dO,g,i,j];cases p<;>try rfl
 rename_i b;simp only[Qn,mp,da,pF];cases n:ay σ b with
 |none=>rfl
 |some B=>
  obtain⟨s,cs,st⟩:=B;cases st<;>try rfl
  rename_i es
  by_cases e:cs.length=0
  .by_cases d:bd a q=true/\aB r=true
   .simp only[e,d.1,d.2,aO,true_and,jr,cn,Bool.and_self]
    cases cw es q with
    |none=>exact propext ⟨λh=>h.elim,λh=>h.elim⟩
    |some o=>cases o with
     |none=>exact propext ⟨λh=>⟨rfl,h⟩,λh=>h.2⟩
     |some y=>exact propext ⟨λh=>h.elim,λh=>by have:=h.1;simp at this⟩
   .have l : ¬(bd a q&&aB r)=true:=λh=>d ch
    simp only[e,jr,cn,ae l, aO];exact propext ⟨λh=>h.elim,λh=>d h.2.1⟩
  .simp only[e,bJ,dg,false_and]
   rfl
@[reducible] def KV (x:Option AV):Option Int:=match x with
 |none=>some 0
 |some (.int n)=>some n
 |some _=>none
@[reducible] def KW (x:Option AV):Option (Option Int):=match x with
 |none=>some none
 |some (.int n)=>some (some n)
 |some _=>none
@[reducible] def vV (f:Rf->AV):Option Rf->Option AV
 |none=>none
 |some x=>some (f x)
variable{r:Rf->AV}{o:Option Rf}
def Fv:ow r o=KV (vV r o):=by
 cases o with
 |none=>rfl
 |some y=>simp only[ow,KV,vV];cases r y<;>rfl
def Fw:ox r o=KW (vV r o):=by
 cases o with
 |none=>rfl
 |some y=>simp only[ox,KW,vV];cases r y<;>rfl
def Fx{x:Rf}{d e:Option Rf}{st:Nat}:bA L vars (.l9 x d e st) false env aF σ K=oK (KV (vV (rv vars env) d)) (λa=>oK (KW (vV (rv vars env) e)) (λb=>nx (rv vars env x) (λx=>Fg σ x a b st λv=>K (v::env) aF σ) .k) .k) .k:=by unfold oK nx;simp only[<-Fv,<-Fw,<-Fh];exact Pz
def Qp{x:Rf}{d e:Option Rf}{st:Nat}:bA L vars (.l9 x d e st) true env aF σ K=oK (KV (vV (rv vars env) d)) (λa=>oK (KW (vV (rv vars env) e)) (λb=>nx (rv vars env x) (λx=>Fg aF x a b st λv=>K (v::env) aF σ) .k) .k) .k:=by unfold oK nx;simp only[<-Fv,<-Fw,<-Fh];exact PA
def xV{a b d:Type}{f:b->Option d}{g:a->b}:∀{l:List a},aM (λx=>f (g x)) l=aM f (eX g l)
 | []=>rfl
 |x::r=>by simp only[aM,eX];rw[xV (l:=r)]
def Fy{f:Nat}{args:List Rf}:bA L vars (.nY f args) false env aF σ K=nL (eX (rv vars env) args) (λas=>oK (aM (view σ false vd) as) (λvs=>lX L f vs [] (λv σ' =>oK (bu σ' true v) (λu=>K (u::env) aF σ) .k) .k) .k) .k:=by unfold nL;dsimp only;rw[<-xV];exact PB
def Qq{f:Nat}{args:List Rf}:bA L vars (.nY f args) true env aF σ K=nL (eX (rv vars env) args) (λas=>oK (aM (view aF false vd) as) (λvs=>lX L f vs [] (λv σ' =>oK (bu σ' true v) (λu=>K (u::env) aF σ) .k) .k) .k) .k:=by unfold nL;dsimp only;rw[<-xV];exact PD
def Fz{f:Nat}{args:List Rf}:bA L vars (.can f args) false env aF σ K=nL (eX (rv vars env) args) (λas=>aO (aq as=true) (lX L f as [] (λv σ' =>nx (iz σ.length v) (λv=>nB (σ++σ'.map (fZ σ.length)) (λa=>K (v::env) σ a) .k) .k) .k)) .k:=by rw[<-fK];exact PE
def FA{x:Rf}{k:Option Nat}:bA L vars (.ti x k) false env aF σ K=nx (rv vars env x) (λx=>aO (x.cells.length=aC k/\aQ x=true) (nB (ec σ [⟨k,x.cells,.live⟩]) (λa=>K (.ptr σ.length (aC k) 0::env) σ a) .k)) .k:=by unfold nx nB;simp only[<-fg];exact PG
def FB{z:List AV}{k:Option Nat}:bA L vars (.j8 z k) false env aF σ K=aO (z.length=aC k) (nB (ec σ [⟨k,z,.live⟩]) (λa=>K (.ptr σ.length (aC k) 0::env) σ a) .k):=by rw[<-fg];exact PH
def FC{n c:Rf}{z:List AV}{k:Option Nat}:bA L vars (.kf n c z k) false env aF σ K=nx (rv vars env n) (λn=>nx (rv vars env c) (λc=>ii n c λn c=>aO (0<=n/\n<=c/\c<=cE/\z.length=aC k) (nC (cS c.toNat z) (λcs=>nB (ec σ [⟨k,cs,.live⟩]) (λa=>K (.sl σ.length cs.length 0 n.toNat::env) σ a) .k) .k)) .k) .k:=by
 unfold nx nC nB;simp only[<-fg];exact PI
@[reducible] def mh:List AV->List AV
 | []=>[]
 |x::r=>ec x.cells (mh r)
def nu:∀l:List AV,l.flatMap AV.cells=mh l
 | []=>rfl
 |x::r=>by simp only[gR,mh,nu r,fg]
def Qr{ps:List Rf}{k:Option Nat}:bA L vars (.je ps k) false env aF σ K=nL (eX (rv vars env) ps) (λl=>aO (fitAll (aC k) l=true) (nC (mh l) (λcs=>nB (ec σ [⟨k,cs,.live⟩]) (λa=>K (.sl σ.length cs.length 0 ps.length::env) σ a) .k) .k)) .k:=by
 unfold nL nC nB;simp only[<-fg,<-fK,<-nu];exact PJ
def Qs{k:Option Nat}:bA L vars (.nl k) false env aF σ K=nB (ec σ [⟨k,[],.fN⟩]) (λa=>K (.sl σ.length 0 0 0::env) σ a) .k:=by rw[<-fg];exact PK
def src (σ:List aj) (k:Option Nat) (x:AV) (K:Nat->List AV->Prop) (_:Tk K):Prop:=aH (aE σ k x) λp=>K p.1 p.2
def Qt{k:Option Nat}{K:Nat->List AV->Prop}{t:Tk K}:src σ k .ag K t=K 0 []:=(rfl)
def Qu{k:Option Nat}{q:Bool}{l:List AV}{K:Nat->List AV->Prop}{t:Tk K}:src σ k (.aA q l) K t=aO (fitAll (aC k) l=true) (nC (l.flatMap AV.cells) (λcs=>K l.length cs) .k):=by
 unfold src aE;by_cases h:fitAll (aC k) l=true<;>simp[h,aH,aO,nC]
def Qv{k:Option Nat}{K:Nat->List AV->Prop}{t:Tk K}:src σ k .emp K t=K 0 []:=(rfl)
def Qw{k:Option Nat}{l:List AV}{K:Nat->List AV->Prop}{t:Tk K}:src σ k (.arr l) K t=aO (fitAll (aC k) l=true) (nL (mh l) (λcs=>K l.length cs) .k):=by
 rw[<-nu];unfold src aE;by_cases h:fitAll (aC k) l=true<;>simp[h,aH,aO,nL]
def Qx{k:Option Nat}{b u off len:Nat}{K:Nat->List AV->Prop}{t:Tk K}:src σ k (.sl b u off len) K t=bk (ay σ b) u (λa cs _=>aO (off+len*aC k<=cs.length/\aC a = aC k) (nC ((cs.drop off).take (len*aC k)) (λcs=>K len cs) .k)) .k:=by
 rw[<-oC (K:=λB=>aO (off+len*aC k<=B.cells.length/\aC B.k=aC k) (nC ((B.cells.drop off).take (len*aC k)) (λcs=>K len cs) .k))];unfold src aE;simp only;cases upto σ b u with
 |none=>rfl
 |some B=>by_cases h:off+len*aC k<=B.cells.length/\aC B.k=aC k<;>simp[h,aH,aO,nC]
def ap (σ:List aj) (s:AV) (k:Option Nat) (n:Nat) (cs:List AV) (K:AV->List aj->Prop) (_:Tk K):Prop:=KT σ s k n cs K
def nz (n:Nat) (A B:Prop) (_:Tk A) (_:Tk B):Prop:=(n=0->A)/\(n ≠ 0->B)
def FD{A B:Prop}{t:Tk A}{u:Tk B}:nz 0 A B t u=A:=by simp[nz]
def FE{A B:Prop}{t:Tk A}{u:Tk B}:nz 1 A B t u=B:=by simp[nz]
def FF{n:Nat}{A B:Prop}{t:Tk A}{u:Tk B}:nz (n+1) A B t u=B:=by simp[nz]
def Qy{n:Nat}{A B:Prop}{t:Tk A}{u:Tk B}:nz n A B t u=(im (n=0) A .k/\im (n ≠ 0) B .k):=(rfl)
def FG{b u off len:Nat}{k:Option Nat}{n:Nat}{cs:List AV}{K:AV->List aj->Prop}{t:Tk K}:ap σ (.sl b u off len) k n cs K t=bk (ay σ b) u (λd a st=>aO (off=0/\u=len*aC k/\len+n<=cE/\ob d k=true) (nz n (K (.sl b u off len) σ) (cs.length ≠ 0/\nC (a ++ cs) (λc=>nB (az σ b ⟨d, c,.live⟩) (λj=>K (.sl b c.length 0 (len+n)) j) .k) .k) .k .k)) .k:=by
 show KT σ (.sl b u off len) k n cs K=_;rw[PL,oC];cases h:ay σ b with
 |none=>rfl
 |some B=>
  obtain⟨d, a, st⟩:=B;simp only[bk,nz,nC,nB,aO,mX,h,ez];apply propext;constructor
  .rintro⟨⟨rfl,e⟩,f,g,i⟩;exact⟨⟨rfl,e⟩,f,g,i⟩
  .rintro⟨⟨rfl,e⟩,f,g,i⟩;exact⟨⟨rfl,e⟩,f,g,i⟩
def Qz{k:Option Nat}{n:Nat}{cs:List AV}{K:AV->List aj->Prop}{t:Tk K}:ap σ .ag k n cs K t=nz n (K .ag σ) (n<=cE/\nB (ec σ [⟨k,cs,.live⟩]) (λa=>K (.sl σ.length cs.length 0 n) a) .k) .k .k:=l6
def QA{k:Option Nat}{n:Nat}{cs:List AV}{K:AV->List aj->Prop}{t:Tk K}:ap σ .emp k n cs K t=nz n (K .emp σ) (n<=cE/\nB (ec σ [⟨k,cs,.live⟩]) (λa=>K (.sl σ.length cs.length 0 n) a) .k) .k .k:=l6
def QB{l:List AV}{k:Option Nat}{n:Nat}{cs:List AV}{K:AV->List aj->Prop}{t:Tk K}:ap σ (.arr l) k n cs K t=nz n (K (if aq l then .aA true l else .arr l) σ) ((fitAll (aC k) l=true/\l.length+n<=cE)/\nC (ec (mh l) cs) (λc=>nB (ec σ [⟨k,c,.live⟩]) (λa=>K (.sl σ.length c.length 0 (l.length+n)) a) .k) .k) .k .k:=by
 unfold nz nC nB;simp only[<-fg,<-nu];rfl
def FH{s x:Rf}{k:Option Nat}:bA L vars (.app s x k) false env aF σ K=nx (rv vars env x) (λx=>src σ k x (λn cs=>nx (rv vars env s) (λs=>ap σ s k n cs (λv a=>K (v::env) σ a) .k) .k) .k) .k:=PM
def QC{p x:Rf}{n:Nat}:bA L vars (.st p x n) false env aF σ K=nx (rv vars env p) (λp=>nx (rv vars env x) (λx=>st1 σ p x n λa=>K (.au::env) [] a) .k) .k:=PN
def aw (σ:List aj) (s:AV) (k:Option Nat) (n:Nat) (cs:List AV) (K:AV->List aj->Prop) (_:Tk K):Prop:=KU σ s k n cs K
def FI{b u off len:Nat}{k:Option Nat}{n:Nat}{cs:List AV}{K:AV->List aj->Prop}{t:Tk K}:aw σ (.sl b u off len) k n cs K t=bk (ay σ b) u (λe a st=>aO (off=0/\len+n<=cE/\ob e k=true/\(n ≠ 0->cs.length ≠ 0)) (nz n (K (.sl b u off len) σ) (gT (decide (u=len*aC k)) (nC (a ++ cs) (λc=>nB (az σ b ⟨e, c,.live⟩) (λg=>K (.sl b c.length 0 (len+n)) g) .k) .k) ((len+n)*aC k<=u/\nC (putAt a (len*aC k) cs) (λc=>nB (az σ b ⟨e, c,st⟩) (λg=>K (.sl b u 0 (len+n)) g) .k) .k) .k .k) .k .k)) .k:=by
 show KU σ (.sl b u off len) k n cs K=_;rw[PO,oC];cases h:ay σ b with
 |none=>rfl
 |some B=>
  obtain⟨e, a, st⟩:=B;simp only[bk,nz,nC,nB,aO,ez,xS,im];apply propext;constructor
  .rintro⟨⟨rfl,i⟩,j,l,f,m⟩;exact⟨⟨rfl,i⟩,j,l,λd=>⟨f d,m d⟩⟩
  .rintro⟨⟨rfl,i⟩,j,l,f⟩;exact⟨⟨rfl,i⟩,j,l,λd=>(f d).1,λd=>(f d).2⟩
def QD{k:Option Nat}{n:Nat}{cs:List AV}{K:AV->List aj->Prop}{t:Tk K}:aw σ .ag k n cs K t=nz n (K .ag σ) (n<=cE/\nB (ec σ [⟨k,cs,.live⟩]) (λa=>K (.sl σ.length cs.length 0 n) a) .k) .k .k:=l6
def QE{k:Option Nat}{n:Nat}{cs:List AV}{K:AV->List aj->Prop}{t:Tk K}:aw σ .emp k n cs K t=nz n (K .emp σ) (n<=cE/\nB (ec σ [⟨k,cs,.live⟩]) (λa=>K (.sl σ.length cs.length 0 n) a) .k) .k .k:=l6
def QF{l:List AV}{k:Option Nat}{n:Nat}{cs:List AV}{K:AV->List aj->Prop}{t:Tk K}:aw σ (.arr l) k n cs K t=nz n (K (if aq l then .aA true l else .arr l) σ) ((fitAll (aC k) l=true/\l.length+n<=cE)/\nC (ec (mh l) cs) (λc=>nB (ec σ [⟨k,c,.live⟩]) (λa=>K (.sl σ.length c.length 0 (l.length+n)) a) .k) .k) .k .k:=by
 unfold nz nC nB;simp only[<-fg,<-nu];rfl
def QG{s x:Rf}{k:Option Nat}:bA L vars (.bB s x k) false env aF σ K=nx (rv vars env x) (λx=>src σ k x (λn cs=>nx (rv vars env s) (λs=>aw σ s k n cs (λv a=>K (v::env) [] a) .k) .k) .k) .k:=PQ
def c81 (x:AV) (K:AV->Prop):Prop:=match x with
 |.int n=>aO (0<=n/\n<=255) (K (.ik 4 n))
 |_=>False
def QH{n:Int}{K:AV->Prop}:c81 (.int n) K=aO (0<=n/\n<=255) (K (.ik 4 n)):=(rfl)
def ik1 (x y:AV) (K:Bool->Prop):Prop:=match x,y with
 |.ik k a,.ik j b=>aO (k=j) (K (a==b))
 |_,_=>False
def QI{k j:Nat}{a b:Int}{K:Bool->Prop}:ik1 (.ik k a) (.ik j b) K=aO (k=j) (K (a==b)):=(rfl)
def si2 (x:AV) (a:Int) (b:Option Int) (st:Nat) (K:AV->Prop):Prop:=match x with
 |.aA d l=>aO ((0<=a/\a<=b.getD l.length/\b.getD l.length<=l.length)/\dy st l=true) (nC ((l.drop a.toNat).take ((b.getD l.length).toNat-a.toNat)) (λe =>K (.aA (d&&decide (0<l.length)) e)) .k)
 |_=>False
def QJ{d:Bool}{l:List AV}{a:Int}{b:Option Int}{st:Nat}{K:AV->Prop}:si2 (.aA d l) a b st K=aO ((0<=a/\a<=b.getD l.length/\b.getD l.length<=l.length)/\dy st l=true) (nC ((l.drop a.toNat).take ((b.getD l.length).toNat-a.toNat)) (λl' =>K (.aA (d&&decide (0<l.length)) l')) .k):=(rfl)
def QK{st:Nat}:bA L vars (.mG st) false env aF σ K=K (.emp::env) aF σ:=(rfl)
def bs1 (x:AV) (K:AV->Prop):Prop:=match x with
 |.str s=>nx (.aA false (s.map λb=>.ik 4 (b.toNat:Int))) K .k
 |_=>False
def QL{s:List UInt8}{K:AV->Prop}:bs1 (.str s) K=nx (.aA false (s.map λb=>.ik 4 (b.toNat:Int))) K .k:=(rfl)
def si1 (x i:AV) (K:AV->Prop):Prop:=match x,i with
 |.str s,.int n=>0<=n/\aH (s[n.toNat]?) λb=>K (.ik 4 (b.toNat:Int))
 |_,_=>False
def QM{s:List UInt8}{n:Int}{K:AV->Prop}:si1 (.str s) (.int n) K=(0<=n/\aH (s[n.toNat]?) λb=>K (.ik 4 (b.toNat:Int))):=(rfl)
def cw1 (x:AV) (K:AV->Prop):Prop:=match x with
 |.int n=>K (.ik 4 (n%256))
 |_=>False
def QN{n:Int}{K:AV->Prop}:cw1 (.int n) K=K (.ik 4 (n%256)):=(rfl)
def sh1 (x y:AV) (K:AV->Prop):Prop:=match x,y with
 |.int a,.int n=>aO (0<=n/\n<64) (K (.int (a.fdiv (2^n.toNat))))
 |.int a,.ik 7 n=>aO (0<=n/\n<64) (K (.int (a.fdiv (2^n.toNat))))
 |_,_=>False
def QO{a n:Int}{K:AV->Prop}:sh1 (.int a) (.int n) K=aO (0<=n/\n<64) (K (.int (a.fdiv (2^n.toNat)))):=(rfl)
def QP{a n:Int}{K:AV->Prop}:sh1 (.int a) (.ik 7 n) K=aO (0<=n/\n<64) (K (.int (a.fdiv (2^n.toNat)))):=(rfl)
def ss1 (n:Nat) (x y:AV) (K:Bool->Prop):Prop:=match x,y with
 |.agg xs,.agg a=>xs.length=n/\aH (mb xs a) K
 |_,_=>False
def QQ{n:Nat}{xs ys:List AV}{K:Bool->Prop}:ss1 n (.agg xs) (.agg ys) K=(xs.length=n/\aH (mb xs ys) K):=(rfl)
def uk (es:List (AV×AV)) (k x:AV) (o:Option AV):List (AV×AV):=match o with
 |none=>es ++ [(k,x)]
 |some _=>oZ es k x
theorem QR{es:List (AV×AV)}{k x:AV}:uk es k x none=es ++ [(k,x)]:=rfl
theorem QS{es:List (AV×AV)}{k x y:AV}:uk es k x (some y)=oZ es k x:=rfl
def ms1 (σ:List aj) (m:AV) (a:Nat) (k x:AV) (K:List aj->Prop):Prop:=match m with
 |.b8 b=>mp (ay σ b) (λd cs es=>aO (bd a k=true/\aQ x=true) (oK (cw es k) (λo=>nB (az σ b ⟨d,cs,.map (uk es k x o)⟩) K .k) .k)) .k
 |_=>False
theorem QT{σ:List aj}{b a:Nat}{k x:AV}{K:List aj->Prop}:ms1 σ (.b8 b) a k x K=mp (ay σ b) (λd cs es=>aO (bd a k=true/\aQ x=true) (oK (cw es k) (λo=>nB (az σ b ⟨d,cs,.map (uk es k x o)⟩) K .k) .k)) .k:=rfl
def FJ{f:Nat}{args:List Rf}:bA L vars (.lF f args) false env aF σ K=nL (eX (rv vars env) args) (λas=>lX L f as σ (λv a=>nx v (λv=>nB a (λa=>K (v::env) [] a) .k) .k) .k) .k:=by rw[<-fK];exact PR
end
section
variable{L:CE}{vars env:List AV}{aF σ:List aj}{K:List AV->List aj->Prop}{ls:List Ln}{op:bZ}{prev:Bool}
def QU:LK L vars [] env aF σ K=K env σ:=by unfold LK;rfl
def QV:LK L vars (⟨op,none,prev⟩::ls) env aF σ K=bA L vars op prev env aF σ λenv aF σ=>LK L vars ls env aF σ K:=by conv=>lhs;unfold LK
def rV (x:AV) (w:Bool) (go skip go' a : Prop) (_:Tk go) (_:Tk skip) (_:Tk go') (_:Tk a):Prop:=match x with
 |.bool b=>match w with
  |true=>gK b go' a
  |false=>gK b a go'
 |.bz []=>skip
 |_=>False
def QW{w:Bool}{A B C D:Prop}{s:Tk A}{t:Tk B}{u:Tk C}{v:Tk D}:rV (.bz []) w A B C D s t u v=B:=(rfl)
def QX{b:Bool}{A B C D:Prop}{s:Tk A}{t:Tk B}{u:Tk C}{v:Tk D}:rV (.bool b) true A B C D s t u v=gT b C D .k .k:=(rfl)
def QY{b:Bool}{A B C D:Prop}{s:Tk A}{t:Tk B}{u:Tk C}{v:Tk D}:rV (.bool b) false A B C D s t u v=gT b D C .k .k:=(rfl)
def QZ{A B C D:Prop}{s:Tk A}{t:Tk B}{u:Tk C}{v:Tk D}:rV (.bool true) true A B C D s t u v=C:=xQ
def Q0{A B C D:Prop}{s:Tk A}{t:Tk B}{u:Tk C}{v:Tk D}:rV (.bool true) false A B C D s t u v=D:=xQ
def Q1{A B C D:Prop}{s:Tk A}{t:Tk B}{u:Tk C}{v:Tk D}:rV (.bool false) true A B C D s t u v=D:=xR
def Q2{A B C D:Prop}{s:Tk A}{t:Tk B}{u:Tk C}{v:Tk D}:rV (.bool false) false A B C D s t u v=C:=xR
theorem Q3{d:Nat}{w:Bool}:LK L vars (⟨op,some (.t d,w),prev⟩::ls) env aF σ K=nx (nth env d) (λx=>rV x w
   (bA L vars op prev env aF σ λenv aF σ=>LK L vars ls env aF σ K)
   (LK L vars ls (.bz []::env) aF σ K)
   (nL (bD env d (.bool w)) (λenv=>bA L vars op prev env aF σ λenv aF σ=>LK L vars ls env aF σ K) .k)
   (nL (bD env d (.bool (!w))) (λenv=>LK L vars ls (.bz []::env) aF σ K) .k) .k .k .k .k) .k:=by
 conv=>lhs;unfold LK
 simp only[rV,nx,nL];cases nth env d with
 |bool b=>cases w<;>rfl
 |bz l=>cases l<;>rfl
 |_=>rfl
def Q4{d:Nat}{w:Bool}:LK L vars (⟨op,some (.v d,w),prev⟩::ls) env aF σ K=nx (nth vars d) (λx=>rV x w
   (bA L vars op prev env aF σ λenv aF σ=>LK L vars ls env aF σ K)
   (LK L vars ls (.bz []::env) aF σ K)
   (bA L vars op prev env aF σ λenv aF σ=>LK L vars ls env aF σ K)
   (LK L vars ls (.bz []::env) aF σ K) .k .k .k .k) .k:=by
 conv=>lhs;unfold LK
 simp only[rV,nx]
 all_goals (cases nth vars d with
  |bool b=>cases w<;>rfl
  |bz l=>cases l<;>rfl
  |_=>rfl)
end
def nF (fl:Option (Nat×AV)) (K:Option (Nat×AV)->Prop) (_:Tk K):Prop:=K fl
def Q5{K:Option (Nat×AV)->Prop}{t:Tk K}:nF none K t=K none:=(rfl)
def Q6{n:Nat}{x:AV}{K:Option (Nat×AV)->Prop}{t:Tk K}:nF (some (n,x)) K t=nx x (λx=>K (some (n,x))) .k:=(rfl)
section
variable{L:CE}{vars:List AV}{fl:Option (Nat×AV)}{σ:List aj}{Q:Ex->St->Prop}
def Q7{ls:List Ln}{os:List (Nat×Nat)}{a:List Nat}{f:Option (Nat×Nat)}:WK L (.bM ⟨ls,os,a,f⟩) vars fl σ Q=LK L vars ls [] σ σ λenv σ=>nL (ck a (outs env os vars)) (λvs=>nF (rU env f) (λf=>Q .c5 ⟨vs,f,σ⟩) .k) .k:=NU
def Q8{t:Nat}{a b:IC}{c:Bool}:WK L (.cond t a b) vars (some (t,.bool c)) σ Q=gT c (WK L a vars none σ Q) (WK L b vars none σ Q) .k .k:=NW
def Q9{k:Nat}{a b:IC}:WK L (.fh k a b) vars fl σ Q=nx (nth vars k) (λx=>b1 x λc=>gT c (WK L a vars fl σ Q) (WK L b vars fl σ Q) .k .k) .k:=by
 rw[NX];unfold nx b1;cases nth vars k<;>rfl
end
attribute [simp ↓] QI QJ OB     QA QE Qv QL QM QN QO QP QQ QT QR QS       Qe Qj Ql Qo Ox Oy Oz O4 EP  Fi Fl Qc Fk OA OC OD OE OF OG OH OI OJ OK OL OM ON OO OP OQ OR OS OT OU OV OW P7 P8 Qa Qb OX OY OZ O0 O2 O3 O5
attribute [simp ↓] Ef vR Eg Eh Ei Ej Ek El Em vT En Eo Ep Er Es Et Eu Ev Ew Ey Ez EA EB EC ED EE EF EG EH EI xS EJ EK Ov Ow
attribute [simp] EA EB EC ED EE EF EG EH EI xS Oq Ot EJ EK
attribute [simp] Ef vR Eg Eh Ei Ej Ek El Em vT En Eo Ep Er Es Et Eu Ev Ew Ey Ez
attribute [simp low] Oj Ol Om On Oo Ou PY Qy
attribute [simp ↓] ET EU EV EW E8 Qt Qu Qw Qx FD FE FF FG Qz QB FI QD QF
attribute [simp] Qf Qg Qh Qi ET EU EV EW FD FE FF PU PV
attribute [simp ↓]   QK              Ft Fp Qk Fs Qm Fu PT ER  Fm Fj ES PZ EX EY EZ E0 E1 P0 E2 E3 Pj E4 E5  E6 E7  P1 P4 E9 P5  Fa P6 Fb P9 Ff  Fx Qp  Fy Qq Fz FA FB FC Qr Qs FH QC QG FJ   QU QV Q3 Q4 QW QZ Q0 Q1 Q2
attribute [simp ↓ low] QX QY
attribute [simp ↓] Q5 Q6 Q7 Q8 Q9
def Ra{a b:Type}{f:a->b}:eX f []=[]:=(rfl)
def Rb{a b:Type}{f:a->b}{x:a}{l:List a}:eX f (x::l)=f x::eX f l:=(rfl)
def Rc{a b:Type}{f:a->b}{l:List a}:eX f l=l.map f:=(fK f l).symm
def Re{a:Type}{l:List a}:ec [] l=l:=(rfl)
def Rg{a:Type}{x:a}{l m:List a}:ec (x::l) m=x::ec l m:=(rfl)
def Rh{a:Type}{l m:List a}:ec l m=l++m:=(fg l m).symm
attribute [simp] Ra Rb Re Rg uj
attribute [simp low] Rc Rh
def ix{a:Type} [Inhabited a] (l:List a) (n:Int):a:=l.getD n.toNat default
abbrev iL (l:List Int):AV:=.aA false (l.map .int)
abbrev bL (l:List Bool):AV:=.aA false (l.map .bool)
abbrev aW (l:List (List Int)):AV:=.aA false (l.map iL)
def jA:∀(l:List AV) (i:Nat),jL l i=l[i]?
 | [],i=>by simp[jL]
 |x::r,0=>rfl
 |x::r,i+1=>by simp[jL,jA r i]
section
variable{α:Type} [Inhabited α]
variable{n:Int}
theorem bt{l:List α}(a:0<=n) (b:n<l.length):ix l n∈l:=by
 unfold ix;rw[gZ,cG aa]
 simp
theorem ky{l:List α}(a:0<=n) (b:n<l.length):l[n.toNat]? = some (ix l n):=by
 unfold ix;rw[gZ,cG aa]
 simp
theorem aK{l:List α}{n:Nat}(a:n<l.length):ix l (n:Int)=l[n]:=by
 unfold ix;rw[gZ,kg,cG aa]
 simp
theorem Ri{f:α->AV}{xs:List α}{K:AV->Prop}:ui (xs.map f) n K=((0<=n/\n<xs.length)/\K (f (ix xs n))):=by
 apply propext;unfold ui;constructor
 .rintro⟨b,y,a,d⟩
  rw[jA,eQ]at a
  by_cases e:n<xs.length
  .rw[ky b e]at a
   simp at a;subst a;exact⟨⟨b,e⟩,d⟩
  .rw[lV aa]at a;simp at a
 .rintro⟨⟨b,a⟩,d⟩
  exact⟨b,_,by rw[jA,eQ,ky b a];rfl,d⟩
end
def Rj{fn:Fn}{K:AV->List aj->Prop}{s:St}:nm fn K .ret s=oK (results fn s) (λv=>K v s.σ) .k:=(rfl)
def Rk{fn:Fn}{K:AV->List aj->Prop}{s:St}:nm fn K .c5 s=oK (results fn s) (λv=>K v s.σ) .k:=(rfl)
def Rl{a:Type} [Inhabited a]{f:a->AV}{xs:List a}{n:Int}{K:AV->Prop}{t:Tk K}:xK (xs.map f) n K t=((0<=n/\n<xs.length)/\K (f (ix xs n))):=Ri
variable{i:Int}
def rW{a:Type} [Inhabited a]{l:List a}(b:0<=i) (d:i<l.length):l.drop i.toNat=ix l i::l.drop (i+1).toNat:=by
 have e:(i+1).toNat=i.toNat+1:=aa
 rw[e,kQ aa,ix,gZ,cG aa]
 simp
def xW{a:Type}{l:List a}(b:l.length<=i):l.drop i.toNat=[]:=kP aa
def b5:List (Nat×AV)->List AV->List AV
 | [],vs=>vs
 |(k,x)::r,vs=>b5 r (bD vs k x)
def More{b:Type}(f:b->List (Nat×AV)) (g:b->List aj) (I:b->Prop) (d:b->Nat) (m:Nat) (vs:List AV) (Q:Ex->St->Prop):Ex->St->Prop:=λe s=>match e with
 |.c5=>∃a,s=⟨b5 (f a) vs,none,g a⟩/\I a/\d a<m
 |e=>Q e s
section
variable{L:CE}{α:Type}{f:α->List (Nat×AV)}{g:α->List aj}{I:α->Prop}{μ:α->Nat}{m:Nat}{vs:List AV}{Q:Ex->St->Prop}
def ax{s:St}:More f g I μ m vs Q .c5 s=∃a,s=⟨b5 (f a) vs,none,g a⟩/\I a/\μ a<m:=(rfl)
def Rm{s:St}:More f g I μ m vs Q .ret s=Q .ret s:=(rfl)
def Rn{s:St}{j:Nat}:More f g I μ m vs Q (.exit j) s=Q (.exit j) s:=(rfl)
def a6{c:IC}{fl:Option (Nat×AV)}{σ:List aj}(f:α->List (Nat×AV)) (g:α->List aj) (I:α->Prop) (μ:α->Nat) (d:α) (r:(⟨vs,fl,σ⟩:St)=⟨b5 (f d) vs,none,g d⟩) (i:I d)
  (u:∀a,I a->WK L c (b5 (f a) vs) none (g a) (More f g I μ (μ a) vs Q)):W L (.loop c) ⟨vs,fl,σ⟩ Q:=by
 have go:∀(k:Nat) (a:α),μ a<k->I a->W L (.loop c) ⟨b5 (f a) vs,none,g a⟩ Q:=by
  intro k
  induction k with
  |zero=>intro a h;omega
  |succ k w=>
   intro a C i;obtain⟨n,e,p, l,m⟩:=gy (u a i);cases e with
   |c5=>
    obtain⟨y, rfl,z,D⟩:=m;obtain⟨b, A, o, q,B⟩:=w y aa z
    refine⟨max n b + 1,A, o, ?_,B⟩;simp only[exec]at q ⊢;simp only[iter];rw[jX (p8 L) (show n<=max n b + 1 by omega) _ _ _ l]
    exact rN (λs x h=>jX (p8 L) (show b <=max n b + 1 by omega) _ _ _ h) (show b <=max n b by omega) q
   |exit j=>exact⟨n+1,.exit j,p, by simp only[exec,iter];rw[jX (p8 L) (Nat.le_succ n) _ _ _ l],m⟩
   |ret=>exact⟨n+1,.ret,p, by simp only[exec,iter];rw[jX (p8 L) (Nat.le_succ n) _ _ _ l],m⟩
 rw[r];exact go _ d (Nat.lt_succ_self _) i
end
section
variable{σ:List aj}{fr:Bool}{k:Nat}
def Ro{n:Int}:view σ fr (k+1) (.int n)=some (.int n):=(rfl)
def Rp{n:Bool}:view σ fr (k+1) (.bool n)=some (.bool n):=(rfl)
def Rr{n:List UInt8}:view σ fr (k+1) (.str n)=some (.str n):=(rfl)
def Rs:view σ fr (k+1) .ag=some (.aA false []):=(rfl)
def Rt:view σ fr (k+1) .eP=some .eP:=(rfl)
def Ru{b:Bool}{l:List AV}:view σ false (k+1) (.aA b l)=some (.aA false l):=(rfl)
def Rv{l:List AV}:view σ fr (k+1) (.agg l)=match aM (view σ fr k) l with
 |none=>none
 |some l=>some (.agg l):=(rfl)
def Rw{n:Int}:view σ fr vd (.int n)=some (.int n):=(rfl)
def Rx{n:Bool}:view σ fr vd (.bool n)=some (.bool n):=(rfl)
def Ry{n:List UInt8}:view σ fr vd (.str n)=some (.str n):=(rfl)
def Rz:view σ fr vd .ag=some (.aA false []):=(rfl)
def RD:view σ fr vd .eP=some .eP:=(rfl)
def RE{b:Bool}{l:List AV}:view σ false vd (.aA b l)=some (.aA false l):=(rfl)
def RF{l:List AV}:view σ fr vd (.agg l)=match aM (view σ fr 11) l with
 |none=>none
 |some l=>some (.agg l):=(rfl)
end
section
variable{σ:List aj}{fr:Bool}
def RG{n:Int}:bu σ fr (.int n)=some (.int n):=(rfl)
def RH{n:Bool}:bu σ fr (.bool n)=some (.bool n):=(rfl)
def RI{n:List UInt8}:bu σ fr (.str n)=some (.str n):=(rfl)
def RJ:bu σ fr .ag=some (.aA false []):=(rfl)
def RK:bu σ fr .eP=some .eP:=(rfl)
def RL{b:Bool}{l:List AV}:bu σ false (.aA b l)=some (.aA false l):=(rfl)
def RM{b u off len:Nat}:bu σ fr (.sl b u off len)=view σ fr vd (.sl b u off len):=(rfl)
def RN{b u off:Nat}:bu σ fr (.ptr b u off)=view σ fr vd (.ptr b u off):=(rfl)
def RO{l:List AV}:bu σ fr (.agg l)=view σ fr vd (.agg l):=(rfl)
def RP{t:Nat}{l:AV}:bu σ fr (.iface t l)=view σ fr vd (.iface t l):=(rfl)
def RQ{l:List AV}:bu σ fr (.bz l)=match aM (view σ fr vd) l with
  |none=>none
  |some l=>some (.bz l):=(rfl)
end
attribute [simp] RG RH RI RJ RK RL RM RN RO RP RQ
attribute [simp] Ro Rp Rr Rs Rt Ru Rv Rw Rx Ry Rz RD RE RF b5
attribute [simp ↓] ax Rm Rn N6 N7 N8 NT NV NY NZ N0 N4 N5 Ee N9 Oa Ob Oc Od Oe Of Og Oh Rj Rk Rl
def RR (n:Int):AV.cells (.int n)=[(.int n)]:=(rfl)
def RS (n:Int):aQ (.int n)=true:=(rfl)
def RT (n:Int):wk (.int n)=(.int n):=(rfl)
def RU (n:Int):dr (.int n)=(.int n):=(rfl)
def RV (k:Nat) (n:Int):AV.cells (.ik k n)=[(.ik k n)]:=(rfl)
def RW (k:Nat) (n:Int):aQ (.ik k n)=true:=(rfl)
def FK (k:Nat) (n:Int):wk (.ik k n)=(.ik k n):=(rfl)
def RX (k:Nat) (n:Int):dr (.ik k n)=(.ik k n):=(rfl)
def RY (b:Bool):AV.cells (.bool b)=[(.bool b)]:=(rfl)
def RZ (b:Bool):aQ (.bool b)=true:=(rfl)
def R0 (b:Bool):wk (.bool b)=(.bool b):=(rfl)
def R1 (b:Bool):dr (.bool b)=(.bool b):=(rfl)
def R2 (l:List UInt8):AV.cells (.str l)=[(.str l)]:=(rfl)
def R3 (l:List UInt8):aQ (.str l)=true:=(rfl)
def R4 (l:List UInt8):wk (.str l)=(.str l):=(rfl)
def R5 (l:List UInt8):dr (.str l)=(.str l):=(rfl)
def R6  : AV.cells .ag=[.ag]:=(rfl)
def R7  : aQ .ag=true:=(rfl)
def R8  : wk .ag=(.aA false []):=(rfl)
def R9  : dr .ag=(.aA false []):=(rfl)
def Sa (b:Bool) (l:List AV):AV.cells (.aA b l)=[(.aA b l)]:=(rfl)
def Sb (b:Bool) (l:List AV):aQ (.aA b l)=true:=(rfl)
def Sc (b:Bool) (l:List AV):wk (.aA b l)=(.aA false l):=(rfl)
def Sd (b:Bool) (l:List AV):dr (.aA b l)=(.aA false l):=(rfl)
def Se (l:List AV):AV.cells (.arr l)=[(.arr l)]:=(rfl)
def Sf (l:List AV):aQ (.arr l)=true:=(rfl)
def Sg (l:List AV):wk (.arr l)=(.arr l):=(rfl)
def Si (l:List AV):dr (.arr l)=(.arr l):=(rfl)
def Sj (b u o n:Nat):AV.cells (.sl b u o n)=[(.sl b u o n)]:=(rfl)
def Sk (b u o n:Nat):aQ (.sl b u o n)=true:=(rfl)
def FL (b u o n:Nat):wk (.sl b u o n)=(.sl b u o n):=(rfl)
def Sl (b u o n:Nat):dr (.sl b u o n)=(.sl b u o n):=(rfl)
def Sm  : AV.cells .gV=[.gV]:=(rfl)
def Sp  : aQ .gV=true:=(rfl)
def Sq  : wk .gV = .gV:=(rfl)
def Sr  : dr .gV = .gV:=(rfl)
def Ss (v:AV):AV.cells (.ar v)=[(.ar v)]:=(rfl)
def Su (v:AV):aQ (.ar v)=true:=(rfl)
def Sv (v:AV):wk (.ar v)=(.ar v):=(rfl)
def Sw (v:AV):dr (.ar v)=(.ar v):=(rfl)
def Sx (b:Nat):AV.cells (.b8 b)=[(.b8 b)]:=(rfl)
def Sy (b:Nat):aQ (.b8 b)=true:=(rfl)
def Sz (b:Nat):wk (.b8 b)=(.b8 b):=(rfl)
def SA (b:Nat):dr (.b8 b)=(.b8 b):=(rfl)
def SB (b u o:Nat):AV.cells (.ptr b u o)=[(.ptr b u o)]:=(rfl)
def SC (b u o:Nat):aQ (.ptr b u o)=true:=(rfl)
def SD (b u o:Nat):wk (.ptr b u o)=(.ptr b u o):=(rfl)
def SE (b u o:Nat):dr (.ptr b u o)=(.ptr b u o):=(rfl)
def SF  : AV.cells .gu=[.gu]:=(rfl)
def SG  : aQ .gu=true:=(rfl)
def SH  : wk .gu = .gu:=(rfl)
def SI  : dr .gu = .gu:=(rfl)
def SJ (f:Nat) (l:List AV):AV.cells (.func f l)=[(.func f l)]:=(rfl)
def SK (f:Nat) (l:List AV):aQ (.func f l)=true:=(rfl)
def SL (f:Nat) (l:List AV):wk (.func f l)=(.func f l):=(rfl)
def SM (f:Nat) (l:List AV):dr (.func f l)=(.func f l):=(rfl)
def SN  : AV.cells .eP=[.eP]:=(rfl)
def SO  : aQ .eP=true:=(rfl)
def SP  : wk .eP = .eP:=(rfl)
def SQ  : dr .eP = .eP:=(rfl)
def SR (t:Nat) (v:AV):AV.cells (.iface t v)=[(.iface t v)]:=(rfl)
def SS (t:Nat) (v:AV):aQ (.iface t v)=true:=(rfl)
def SU (t:Nat) (v:AV):wk (.iface t v)=(.iface t v):=(rfl)
def SV (t:Nat) (v:AV):dr (.iface t v)=(.iface t v):=(rfl)
def SX (l:List AV):AV.cells (.agg l)=l:=(rfl)
def SY (l:List AV):wk (.agg l) = .agg (l.map dr):=(rfl)
def SZ (l:List AV):dr (.agg l) = .agg l:=(rfl)
def cR:AV->Bool
 |.au | .bz _ | .agg _=>false
 |_=>true
def S0 (l:List AV):aQ (.agg l)=l.all cR:=by
 rfl
def S1 (n:Int):cR (.int n)=true:=(rfl)
def S2 (k:Nat) (n:Int):cR (.ik k n)=true:=(rfl)
def S3 (b:Bool):cR (.bool b)=true:=(rfl)
def S4 (l:List UInt8):cR (.str l)=true:=(rfl)
def S5  : cR .ag=true:=(rfl)
def S6 (b:Bool) (l:List AV):cR (.aA b l)=true:=(rfl)
def S7 (l:List AV):cR (.arr l)=true:=(rfl)
def S8 (b u o n:Nat):cR (.sl b u o n)=true:=(rfl)
def S9  : cR .gV=true:=(rfl)
def Ta (v:AV):cR (.ar v)=true:=(rfl)
def Tb (b u o:Nat):cR (.ptr b u o)=true:=(rfl)
def Tc  : cR .gu=true:=(rfl)
def Td (f:Nat) (l:List AV):cR (.func f l)=true:=(rfl)
def Te  : cR .eP=true:=(rfl)
def Tf (t:Nat) (v:AV):cR (.iface t v)=true:=(rfl)
attribute [simp] Sx Sy Sz SA RR RS RT RU RV RW FK RX RY RZ R0 R1 R2 R3 R4 R5 R6 R7 R8 R9 Sa Sb Sc Sd Se Sf Sg Si Sj Sk FL Sl Sm Sp Sq Sr Ss Su Sv Sw SB SC SD SE SF SG SH SI SJ SK SL SM SN SO SP SQ SR SS SU SV SX SY SZ S0 S1 S2 S3 S4 S5 S6 S7 S8 S9 Ta Tb Tc Td Te Tf
attribute [simp] results aM gf rv nth bD ck outs rU part jL aq aB
def Tg{st:Nat}:fitAll st []=true:=(rfl)
def FM{st:Nat}{x:AV}{l:List AV}:fitAll st (x::l)=(x.cells.length==st&&aQ x&&fitAll st l):=(rfl)
def um{a:Type}{f:a->AV}{st:Nat}(h:∀x,(f x).cells.length=st/\aQ (f x)=true):∀{l:List a},fitAll st (l.map f)=true
 | []=>rfl
 |x::l=>by simp only[bC,FM,h x,um h (l:=l),jr,Bool.and_self]
def Th{l:List Int}:fitAll 1 (l.map .int)=true:=um (f:=AV.int) λ_=>⟨rfl,rfl⟩
def Ti{l:List Bool}:fitAll 1 (l.map .bool)=true:=um (f:=AV.bool) λ_=>⟨rfl,rfl⟩
def Tj{a:Type}{b:Bool}{f:a->List AV}{l:List a}:fitAll 1 (l.map λx=>.aA b (f x))=true:=um (f:=λx=>AV.aA b (f x)) λ_=>⟨rfl,rfl⟩
def rX{a:Type}{f:a->AV}(h:∀x,(f x).cells=[f x]):∀{l:List a},(l.map f).flatMap AV.cells=l.map f
 | []=>rfl
 |x::l=>by simp only[bC,gR,h x,rX h (l:=l)];rfl
theorem Tl{l:List Int}:(l.map AV.int).flatMap AV.cells=l.map .int:=rX (f:=AV.int) λ_=>rfl
theorem Tm{l:List Bool}:(l.map AV.bool).flatMap AV.cells=l.map .bool:=rX (f:=AV.bool) λ_=>rfl
theorem Tn{a:Type}{b:Bool}{f:a->List AV}{l:List a}:(l.map λx=>AV.aA b (f x)).flatMap AV.cells=l.map λx=>.aA b (f x):=rX (f:=λx=>AV.aA b (f x)) λ_=>rfl
attribute [simp] Tg FM Th Ti Tj Tl Tm Tn
def To:c6.isLive .live=true:=(rfl)
def Tp:c6.isLive .fN=false:=(rfl)
def Tq:aC none=1:=(rfl)
def Tr{n:Nat}:aC (some n)=n:=(rfl)
def Tt:ob none none=true:=(rfl)
def Tu{a b:Nat}:ob (some a) (some b)=(a==b):=(rfl)
attribute [simp] To Tp Tq Tr Tt Tu
@[reducible] def lI:List AV->List AV->List AV
 |cs,[]=>cs
 | [],_=>[]
 |_::cs,y::new=>y::lI cs new
@[reducible] def qe:List AV->Nat->List AV->List AV
 |cs,0,new=>lI cs new
 | [],_,_=>[]
 |x::cs,n+1,new=>x::qe cs n new
def FN:∀{cs new:List AV},new.length<=cs.length->lI cs new=new++cs.drop new.length
 |cs,[],_=>by cases cs<;>simp[lI]
 | [],y::new,h=>by simp at h
 |c::cs,y::new,h=>by simp[lI,FN (cs:=cs) (new:=new) ch]
def rY:∀{cs:List AV}{o:Nat}{new:List AV},o+new.length<=cs.length->putAt cs o new=qe cs o new
 |cs,0,new,h=>by
  have e:qe cs 0 new=lI cs new:=by cases cs<;>rfl
  rw[e,FN ch];simp[putAt]
 | [],o+1,new,h=>by simp at h
 |c::cs,o+1,new,h=>by
  have e:=rY (cs:=cs) (o:=o) (new:=new) (by simp at h;omega)
  simp only[qe];rw[<-e];simp only[putAt,List.take_succ_cons,kU]
  congr 2
  rw[show o+1+new.length=(o+new.length)+1 by omega,List.drop_succ_cons]
section
variable{K:List AV->Prop}{t:Tk K}
def xX{cs:List AV}{o:Nat}{new:List AV}:pU cs o new K t=(o+new.length<=cs.length/\nL (qe cs o new) K .k):=by
 unfold pU rS nL
 by_cases h:o+new.length<=cs.length
 .simp only[h,true_and];rw[rY h]
 .simp[h]
variable{o:Nat}
def FO{a:Type}{f:a->AV}{xs:List a}{y:a}(h:o<xs.length):putAt (xs.map f) o [f y]=(xs.set o y).map f:=by
 unfold putAt;rw[List.set_eq_take_append_cons_drop,ah h];simp[List.map_take,List.map_drop]
def oE{a:Type}{f:a->AV}{xs:List a}{y:a}:pU (xs.map f) o [f y] K t=(o<xs.length/\K ((xs.set o y).map f)):=by
 unfold pU rS
 by_cases h:o<xs.length
 .simp only[cP,List.length_singleton,FO h]
  simp[h];omega
 .simp[h]
  intro b; omega
def Tv{xs:List Int}{o:Nat}{y:Int}:pU (xs.map .int) o [AV.int y] K t=(o<xs.length/\K ((xs.set o y).map .int)):=oE
def Tw{xs:List Bool}{o:Nat}{y:Bool}:pU (xs.map .bool) o [AV.bool y] K t=(o<xs.length/\K ((xs.set o y).map .bool)):=oE
def FP{xs:List (List Int)}{o:Nat}{y:List Int}:pU (xs.map iL) o [AV.aA false (y.map .int)] K t=(o<xs.length/\K ((xs.set o y).map iL)):=oE
def FQ{xs:List (List Bool)}{o:Nat}{y:List Bool}:pU (xs.map bL) o [AV.aA false (y.map .bool)] K t=(o<xs.length/\K ((xs.set o y).map bL)):=oE
def Tx{xs:List Int}{n:Int}{y:Int}:pU (xs.map .int) (0+n.toNat*1) [AV.int y] K t=(n.toNat<xs.length/\K ((xs.set n.toNat y).map .int)):=by
 rw[show 0+n.toNat*1=n.toNat by omega];exact oE
def Tz{xs:List Bool}{n:Int}{y:Bool}:pU (xs.map .bool) (0+n.toNat*1) [AV.bool y] K t=(n.toNat<xs.length/\K ((xs.set n.toNat y).map .bool)):=by
 rw[show 0+n.toNat*1=n.toNat by omega];exact oE
def TA{xs:List Int}:nC (xs.map .int) K t=K (xs.map .int):=(rfl)
def TB{xs:List Bool}:nC (xs.map .bool) K t=K (xs.map .bool):=(rfl)
def FT{xs:List (List Int)}:nC (xs.map iL) K t=K (xs.map iL):=(rfl)
def uo{a:Type}{f:a->AV}{xs:List a}{y:a}:nC (xs.map f ++ [f y]) K t=K ((xs ++ [y]).map f):=by simp[nC]
def TC{xs:List Int}{y:Int}:nC (xs.map .int ++ [.int y]) K t=K ((xs ++ [y]).map .int):=uo
def TD{xs:List Bool}{y:Bool}:nC (xs.map .bool ++ [.bool y]) K t=K ((xs ++ [y]).map .bool):=uo
def TE{xs:List (List Int)}{y:List Int}:nC (xs.map iL ++ [.aA false (y.map .int)]) K t=K ((xs ++ [y]).map iL):=uo
def TF{xs:List (List Bool)}{y:List Bool}:nC (xs.map bL ++ [.aA false (y.map .bool)]) K t=K ((xs ++ [y]).map bL):=uo
def TG{a:Type}{f:a->AV}{xs ys:List a}:nC (xs.map f++ys.map f) K t=K ((xs++ys).map f):=by simp[nC]
def TH{y:AV}:nC ([] ++ [y]) K t=K [y]:=(rfl)
def TI{ys:List AV}:nC ([]++ys) K t=K ys:=(rfl)
def TJ:nC [] K t=K []:=(rfl)
def TK{x:AV}:nC [x] K t=K [x]:=(rfl)
def TL{xs:List Int}{o:Nat}{y:Int}(h:o<xs.length):nC (putAt (xs.map .int) o [.int y]) K t=K ((xs.set o y).map .int):=by
 unfold nC;rw[FO h]
def xY{n:Nat}{x:AV}:nC (cS n [x]) K t=K (List.replicate n x):=by
 unfold nC cS;congr 1;simp
def TM{n:Nat}{b:Bool}:nC (cS n [.bool b]) K t=K ((List.replicate n b).map .bool):=by rw[xY];simp
def TN{n:Nat}{b:Int}:nC (cS n [.int b]) K t=K ((List.replicate n b).map .int):=by rw[xY];simp
def xZ{a:Type}{f:a->AV}(h:∀x,(f x).cells=[f x]){xs:List a}:nC ((xs.map f).flatMap AV.cells) K t=K (xs.map f):=by rw[rX h];rfl
theorem TO{xs:List Int}:nC ((xs.map AV.int).flatMap AV.cells) K t=K (xs.map .int):=xZ λ_=>rfl
theorem TP{xs:List Bool}:nC ((xs.map AV.bool).flatMap AV.cells) K t=K (xs.map .bool):=xZ λ_=>rfl
theorem TQ{xs:List (List Int)}:nC ((xs.map iL).flatMap AV.cells) K t=K (xs.map iL):=xZ λ_=>rfl
end
section
variable{K:AV->Prop}{t:Tk K}
def vW{a:Type} [Inhabited a]{f:a->AV}{xs:List a}{n:Int}:pT (xs.map f) (0+n.toNat*1) none K t=(n.toNat<xs.length/\K (f (ix xs n))):=by
 unfold pT part;rw[show 0+n.toNat*1=n.toNat by omega]
 simp only[jA,eQ,ix,gZ]
 by_cases h:n.toNat<xs.length
 .rw[cG h];simp[aH,h]
 .rw[lV aa];simp[aH,h]
def TR{a:Type} [Inhabited a]{f:a->AV}{xs:List a}{n:Nat}:pT (xs.map f) n none K t=(n<xs.length/\K (f (ix xs n))):=by
 have:=vW (K:=K) (t:=t) (f:=f) (xs:=xs) (n:=n);simpa using this
end
section
variable{K:AV->Prop}{t:Tk K}
end
def FU{L:CE}{f:Nat}{l:List AV}{σ:List aj}{K:AV->List aj->Prop}{t:Tk K}:lX L f l σ K t=oK (L f l σ) (λp=>K p.1 p.2) .k:=(rfl)
attribute [simp ↓ 20000] Tv Tw FP FQ Tx Tz vW TA TB FT TC TD TE TF TG TH TI TJ TK TL TM TN TO TP TQ
attribute [simp ↓] xX xY FU
attribute [simp ↓ 10500] TR
def TS:cE=1073741824:=(rfl)
attribute [simp] TS
def la{a:Type}:List a->c6
 | []=>.fN
 |_::_=>.live
def TT{a:Type}:la ([]:List a) = .fN:=(rfl)
def TU{a:Type}{x:a}{l:List a}:la (x::l) = .live:=(rfl)
def TV{a:Type}{l:List a}:(la l).eH=true:=by cases l<;>rfl
theorem TW:c6.eH .live=true:=rfl
theorem TX:c6.eH .fN=true:=rfl
theorem TY:c6.eH .dead=false:=rfl
theorem TZ{es:List (AV×AV)}:c6.eH (.map es)=false:=rfl
def T2{a:Type}{x:a}{l:List a}:la (l ++ [x]) = .live:=by cases l<;>rfl
def T3{a:Type}{k:Nat}{x:a}{l:List a}:la (l.set k x)=la l:=by cases l<;>cases k<;>rfl
def T4{a:Type}{l:List a}:((la l).isLive=true)=(l ≠ []):=by cases l<;>simp[la,c6.isLive]
def T5{a b:Type}{f:a->b}{l:List a}:la (l.map f)=la l:=by cases l<;>rfl
attribute [simp] TT TU TV TW TX TY TZ T2 T3 T4 T5
def aL{b:Type}{f:b->List (Nat×AV)}{g:b->List aj}{I:b->Prop}{e:b->Nat}{m:Nat}{vs d : List AV}{σ:List aj}{Q:Ex->St->Prop}(a:b) (h:d = b5 (f a) vs) (i:σ=g a) (j:I a) (l:e a<m):More f g I e m vs Q .c5 ⟨d, none,σ⟩:=⟨a,by rw[h,i],j,l⟩
def T6{cs:List AV}{K:List AV->Prop}{t:Tk K}:oK (dY cs []) K t=K cs:=(rfl)
def T7{cs:List AV}{o n:Nat}{x:AV}{r:List (Nat×Nat×AV)}{K:List AV->Prop}{t:Tk K}:oK (dY cs ((o,n,x)::r)) K t=nx x (λx=>(x.cells.length=n/\o+n<=cs.length/\aQ x=true)/\nL (qe cs o x.cells) (λcs=>oK (dY cs r) K .k) .k) .k:=by
 unfold nx nL oK
 by_cases h:x.cells.length=n/\o+n<=cs.length/\aQ x=true
 .have e:=rY (cs:=cs) (o:=o) (new:=x.cells) (by rw[h.1];exact h.2.1)
  simp only[h,and_self,true_and,dY,<-e];simp[h]
 .have e:dY cs ((o,n,x)::r)=none:=by
   unfold dY;rw[ae];simp only[aD,bJ,cO,and_assoc];exact h
  rw[e];simp only[h,false_and,aH]
attribute [simp ↓] T6 T7
end Ab
