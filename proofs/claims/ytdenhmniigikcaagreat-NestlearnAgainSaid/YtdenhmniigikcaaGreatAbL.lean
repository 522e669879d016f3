/- The interpreter with as much fuel as is wanted: more fuel gives the same answer; the limit, and that it is reached. What is to be shown of a run of the interpreter, as a formula that simp can print. How each line of a region reads: one rule a kind of line. Rules for simp: how the conditions of a run read. More rules for simp: cells of blocks as lists of numbers. Condition: none. -/
import Derived.Test.YtdenhmniigikcaaGreatAbCore
set_option linter.all false
namespace Ab
def CE.le (a b:CE):Prop:=∀f args σ x,a f args σ=some x->b f args σ=some x
theorem uj{a b:CE}(h:CE.le a b){f:Nat}{args:List AV}{x:AV}(e:iZ a f args=some x):iZ b f args=some x:=by
 unfold iZ at e ⊢;split at e
 case isFalse=>simp at e
 rename_i hn;rw[ab hn];cases hc:a f (args.map wk) []with
 |none=>simp[hc]at e
 |some r=>rw[h _ _ _ _ hc];simpa[hc]using e
theorem BU{a b:CE}(h:CE.le a b){σ:List ag}{nl:Nat}{ps:List aX}{r:Rf->AV}{o:cU}{x:AV×Option aX}(e:ev a σ nl ps r o=some x):ev b σ nl ps r o=some x:=by
 cases o
 case cu f args=>
  simp only[ev,nu]at e ⊢;obtain⟨y,h1,h2⟩:=e;exact⟨y,uj h h1,h2⟩
 case lD y args=>
  simp only[ev]at e ⊢;cases hr:r y<;>simp only[hr]at e<;>try(simp at e;done)
  simp only[nu]at e ⊢;obtain⟨y,h1,h2⟩:=e;exact⟨y,uj h h1,h2⟩
 case inv y gB args=>
  simp only[ev]at e ⊢;cases hr:r y<;>simp only[hr]at e<;>try(simp at e;done)
  rename_i t v;cases ht:eK gB t with
  |none=>simp[ht]at e
  |some f=>
   simp only[ht,nu]at e ⊢;obtain⟨y,h1,h2⟩:=e;exact⟨y,uj h h1,h2⟩
 case can f args=>
  simp only[ev]at e ⊢;split at e
  case isFalse=>simp at e
  rename_i hn;rw[ab hn];cases hc:a f (args.map r) []with
  |none=>simp[hc]at e
  |some q=>rw[h _ _ _ _ hc];simpa[hc]using e
 case tO f args=>
  simp only[ev]at e ⊢;cases hm:bV (λx=>view σ false vd (r x)) args with
  |none=>simp[hm]at e
  |some vs=>
   simp only[hm]at e ⊢;cases hc:a f vs []with
   |none=>simp[hc]at e
   |some q=>rw[h _ _ _ _ hc];simpa[hc]using e
 all_goals exact e
theorem aah{a b:CE}(h:CE.le a b){σ:List ag}{r:Rf->AV}{o:cU}{x:AV×List ag}(e:fC a σ r o=some x):fC b σ r o=some x:=by
 cases o
 case fF f args=>exact h _ _ _ _ e
 case kT y args=>
  simp only[fC]at e ⊢;cases hr:r y<;>simp only[hr]at e<;>try(simp at e;done)
  exact h _ _ _ _ e
 case p8 y gB args=>
  simp only[fC]at e ⊢;cases hr:r y<;>simp only[hr]at e<;>try(simp at e;done)
  rename_i t v;cases ht:eK gB t with
  |none=>simp[ht]at e
  |some f=>simp only[ht]at e ⊢;exact h _ _ _ _ e
 case st=>exact e
 case dm=>exact e
 case vi=>exact e
 case vh=>exact e
 case xu=>exact e
 case FN=>exact e
 all_goals
  simp only[fC]at e ⊢;split at e
  ·rename_i hc;rw[BU h hc];exact e
  ·rename_i hc;rw[BU h hc];exact e
  ·simp at e
theorem NK{a b:CE}(h:CE.le a b){vars:List AV}{s s' : LS}{l:Ln}(e:dd a vars s l=some s'):dd b vars s l=some s' :=by
 unfold dd at e ⊢;split at e
 ·simp at e
 ·exact e
 ·split at e
  ·rename_i hw
   rw[ab hw];split at e
   ·rename_i hc;rw[aah h hc];exact e
   ·simp at e
  ·rename_i hw
   rw[aa hw];split at e
   ·rename_i hc;rw[BU h hc];exact e
   ·rename_i hc;rw[BU h hc];exact e
   ·simp at e
theorem HW{a b:CE}(h:CE.le a b){vars:List AV}:∀{ls:List Ln}{s s' : LS},lines a vars ls s=some s' ->lines b vars ls s=some s'
 | [],_,_,e=>e
 |l::ls,s,s', e=>by
  simp only[lines]at e ⊢;cases h1:dd a vars s l with
  |none=>simp[h1]at e
  |some q=>rw[NK h h1];simp only[h1]at e;exact HW h e
theorem aai{a b:CE}(h:CE.le a b){r:ga}{s s' : St}(e:dp a r s=some s'):dp b r s=some s' :=by
 unfold dp at e ⊢;cases h1:lines a s.vars r.ls ⟨[],s.σ,s.σ⟩with
 |none=>simp[h1]at e
 |some q=>rw[HW h h1];simpa[h1]using e
theorem yT{f g:St->Option (Ex×St)}(h:∀s x,f s=some x->g s=some x):∀{n m:Nat}{s:St}{x:Ex×St},n<=m->iter f n s=some x->iter g m s=some x
 |0,_,_,_,_,e=>by simp[iter]at e
 |n+1,0,_,_,hn,_=>by omega
 |n+1,m+1,s,x,hn,e=>by
  simp only[iter]at e ⊢;cases h1:f s with
  |none=>simp[h1]at e
  |some q=>
   rw[h _ _ h1];obtain⟨e1,s1⟩:=q;cases e1 with
   |fm=>simp only[h1]at e ⊢;exact yT h (by omega) e
   |exit j=>simpa[h1]using e
   |ret=>simpa[h1]using e
theorem rD{a b:CE}(h:CE.le a b){n m:Nat}(hn:n<=m):∀(c:IC) (s:St) (x:Ex×St),exec n a c s=some x->exec m b c s=some x:=by
 intro c
 induction c with
 |skip=>intro s x e;simpa[exec]using e
 |ae r=>
  intro s x e;simp only[exec]at e ⊢;cases h1:dp a r s with
  |none=>simp[h1]at e
  |some q=>rw[aai h h1];simpa[h1]using e
 |seq c d yU yV=>
  intro s x e;simp only[exec]at e ⊢;cases h1:exec n a c s with
  |none=>simp[h1]at e
  |some q=>
   rw[yU _ _ h1];obtain⟨e1,s1⟩:=q;cases e1 with
   |fm=>simp only[h1]at e ⊢;exact yV _ _ e
   |exit j=>simpa[h1]using e
   |ret=>simpa[h1]using e
 |cond t c d yU yV=>
  intro s x e;simp only[exec]at e ⊢;split at e
  ·split at e
   ·split at e
    ·rename_i h1 h2 h3;rw[ab h2,ab h3];exact yU _ _ e
    ·rename_i h1 h2 h3;rw[ab h2,aa h3];exact yV _ _ e
   ·simp at e
  ·simp at e
 |kO k c d yU yV=>
  intro s x e;simp only[exec]at e ⊢;split at e
  ·split at e
   ·rename_i h1 h2;rw[ab h2];exact yU _ _ e
   ·rename_i h1 h2;rw[aa h2];exact yV _ _ e
  ·simp at e
 |block id c ih=>
  intro s x e;simp only[exec]at e ⊢;cases h1:exec n a c s with
  |none=>simp[h1]at e
  |some q=>rw[ih _ _ h1];simpa[h1]using e
 |loop c ih=>
  intro s x e;simp only[exec]at e ⊢;exact yT ih hn e
 |exit id=>intro s x e;simpa[exec]using e
 |ret=>intro s x e;simpa[exec]using e
 |lu k=>intro s x e;simpa[exec]using e
 |bad=>intro s x e;simp[exec]at e
 |cut b c ih=>intro s x e;simp only[exec]at e ⊢;exact ih _ _ e
 |FU c ih=>intro s x e;simp only[exec]at e ⊢;exact ih _ _ e
 |lex c ih=>
  intro s x e;simp only[exec]at e ⊢;cases h1:exec n a c s with
  |none=>simp[h1]at e
  |some q=>rw[ih _ _ h1];simpa[h1]using e
def dV (Q:ke):Prop:=∀f p,Q f=some p->∀a b:CE,CE.le a b->∀args σ v,p a args σ=some v->p b args σ=some v
section
variable{G:Nat->Option Fn}{Q:ke}
theorem BV (hQ:dV Q){n m:Nat}(hn:n<=m):∀{d e:Nat},d<=e->CE.le (dH G Q n d) (dH G Q m e)
 |0,_,_=>λf args σ x h=>by simp[dH]at h
 |d+1,0,h=>by omega
 |d+1,e+1,hd=>λf args σ x h=>by
  have ih:=BV hQ hn (show d<=e by omega)
  simp only[dH]at h ⊢;cases hq:Q f with
  |some p=>
   simp only[hq]at h ⊢;exact hQ f p hq _ _ ih _ _ _ h
  |none=>
   simp only[hq]at h ⊢;cases hg:G f with
   |none=>simp[hg]at h
   |some fn=>
    simp only[hg]at h ⊢;split at h
    case isFalse=>simp at h
    rename_i hl;rw[ab hl];cases he:exec n (dH G Q n d) fn.body {vars:=args++List.replicate (fn.nv-fn.np) .aM,fl:=none,σ}with
    |none=>simp[he]at h
    |some q=>rw[rD ih hn _ _ _ he];simpa[he]using h
def cN (G:Nat->Option Fn) (Q:ke) (n:Nat):CE:=dH G Q n n
theorem sI (hQ:dV Q){n m:Nat}(hn:n<=m):CE.le (cN G Q n) (cN G Q m):=BV hQ hn hn
open Classical in
noncomputable def lim (G:Nat->Option Fn) (Q:ke):CE:=λf args σ=>if h:∃x,∃N,cN G Q N f args σ=some x then some (choose h)else none
theorem BW (hQ:dV Q){N f:Nat}{args:List AV}{σ:List ag}{x:AV×List ag}(h:cN G Q N f args σ=some x):lim G Q f args σ=some x:=by
 have hx:∃x,∃N,cN G Q N f args σ=some x:=⟨x,N,h⟩;unfold lim;rw[dif_pos hx];obtain⟨M,hM⟩:=Classical.choose_spec hx;have h1:=sI (G:=G) hQ (Nat.le_max_left N M) _ _ _ _ h;have h2:=sI (G:=G) hQ (Nat.le_max_right N M) _ _ _ _ hM;rw[h1]at h2;exact h2.symm
theorem uA{f:Nat}{args:List AV}{σ:List ag}{x:AV×List ag}(h:lim G Q f args σ=some x):∃N,cN G Q N f args σ=some x:=by
 unfold lim at h;split at h
 ·rename_i hx
  obtain⟨M,hM⟩:=Classical.choose_spec hx;exact⟨M,by rw[hM];exact h⟩
 ·simp at h
variable (hQ:dV Q)
include hQ
theorem yw{f:Nat}{args:List AV}{x:AV}(e:iZ (lim G Q) f args=some x):∃N,iZ (cN G Q N) f args=some x:=by
 unfold iZ at e;split at e
 case isFalse=>simp at e
 rename_i hn;cases hc:lim G Q f (args.map wk) []with
 |none=>simp[hc]at e
 |some r=>
  obtain⟨N,hN⟩:=uA hc;exact⟨N,by unfold iZ;rw[ab hn,hN];simpa[hc]using e⟩
theorem BX{σ:List ag}{nl:Nat}{ps:List aX}{r:Rf->AV}{o:cU}{x:AV×Option aX}(e:ev (lim G Q) σ nl ps r o=some x):∃N,ev (cN G Q N) σ nl ps r o=some x:=by
 cases o
 case cu f args=>
  simp only[ev,nu]at e ⊢;obtain⟨y,h1,h2⟩:=e;obtain⟨N,hN⟩:=yw hQ h1;exact⟨N,y,hN,h2⟩
 case lD y args=>
  simp only[ev]at e ⊢;cases hr:r y<;>simp only[hr]at e<;>try(simp at e;done)
  simp only[nu]at e ⊢;obtain⟨y,h1,h2⟩:=e;obtain⟨N,hN⟩:=yw hQ h1;exact⟨N,y,hN,h2⟩
 case inv y gB args=>
  simp only[ev]at e ⊢;cases hr:r y<;>simp only[hr]at e<;>try(simp at e;done)
  rename_i t v;cases ht:eK gB t with
  |none=>simp[ht]at e
  |some f=>
   simp only[ht,nu]at e ⊢;obtain⟨y,h1,h2⟩:=e;obtain⟨N,hN⟩:=yw hQ h1;exact⟨N,y,hN,h2⟩
 case can f args=>
  simp only[ev]at e ⊢;split at e
  case isFalse=>simp at e
  rename_i hn;cases hc:lim G Q f (args.map r) []with
  |none=>simp[hc]at e
  |some q=>
   obtain⟨N,hN⟩:=uA hc;exact⟨N,by rw[ab hn,hN];simpa[hc]using e⟩
 case tO f args=>
  simp only[ev]at e ⊢;cases hm:bV (λx=>view σ false vd (r x)) args with
  |none=>simp[hm]at e
  |some vs=>
   simp only[hm]at e ⊢;cases hc:lim G Q f vs []with
   |none=>simp[hc]at e
   |some q=>
    obtain⟨N,hN⟩:=uA hc;exact⟨N,by rw[hN];simpa[hc]using e⟩
 all_goals exact⟨0,e⟩
theorem aaj{σ:List ag}{r:Rf->AV}{o:cU}{x:AV×List ag}(e:fC (lim G Q) σ r o=some x):∃N,fC (cN G Q N) σ r o=some x:=by
 cases o
 case fF f args=>exact uA e
 case kT y args=>
  simp only[fC]at e ⊢;cases hr:r y<;>simp only[hr]at e<;>try(simp at e;done)
  exact uA e
 case p8 y gB args=>
  simp only[fC]at e ⊢;cases hr:r y<;>simp only[hr]at e<;>try(simp at e;done)
  rename_i t v;cases ht:eK gB t with
  |none=>simp[ht]at e
  |some f=>simp only[ht]at e ⊢;exact uA e
 case st=>exact⟨0,e⟩
 case dm=>exact⟨0,e⟩
 case vi=>exact⟨0,e⟩
 case vh=>exact⟨0,e⟩
 case xu=>exact⟨0,e⟩
 case FN=>exact⟨0,e⟩
 all_goals
  simp only[fC]at e ⊢;split at e
  ·rename_i hc;obtain⟨N,hN⟩:=BX hQ hc;exact⟨N,by rw[hN];exact e⟩
  ·rename_i hc;obtain⟨N,hN⟩:=BX hQ hc;exact⟨N,by rw[hN];exact e⟩
  ·simp at e
theorem aak{vars:List AV}{s s' : LS}{l:Ln}(e:dd (lim G Q) vars s l=some s'):∃N,dd (cN G Q N) vars s l=some s' :=by
 unfold dd at e ⊢;cases hw:want vars s.env l.g with
 |none=>simp[hw]at e
 |some b=>
  cases b with
  |false=>exact⟨0,by simpa[hw]using e⟩
  |true=>
   simp only[hw]at e ⊢;split at e
   ·rename_i hW
    split at e
    ·rename_i hc;obtain⟨N,hN⟩:=aaj hQ hc;exact⟨N,by rw[ab hW,hN];exact e⟩
    ·simp at e
   ·rename_i hW
    split at e
    ·rename_i hc;obtain⟨N,hN⟩:=BX hQ hc;exact⟨N,by rw[aa hW,hN];exact e⟩
    ·rename_i hc;obtain⟨N,hN⟩:=BX hQ hc;exact⟨N,by rw[aa hW,hN];exact e⟩
    ·simp at e
theorem NL{vars:List AV}:∀{ls:List Ln}{s s' : LS},lines (lim G Q) vars ls s=some s' ->∃N,lines (cN G Q N) vars ls s=some s'
 | [],_,_,e=>⟨0,e⟩
 |l::ls,s,s', e=>by
  simp only[lines]at e ⊢;cases h1:dd (lim G Q) vars s l with
  |none=>simp[h1]at e
  |some q=>
   simp only[h1]at e;obtain⟨N,hN⟩:=aak hQ h1;obtain⟨M,hM⟩:=NL e;refine⟨max N M,?_⟩;rw[NK (sI hQ (Nat.le_max_left N M)) hN];exact HW (sI hQ (Nat.le_max_right N M)) hM
theorem aal{r:ga}{s s' : St}(e:dp (lim G Q) r s=some s'):∃N,dp (cN G Q N) r s=some s' :=by
 unfold dp at e ⊢;cases h1:lines (lim G Q) s.vars r.ls ⟨[],s.σ,s.σ⟩with
 |none=>simp[h1]at e
 |some q=>
  obtain⟨N,hN⟩:=NL hQ h1;exact⟨N,by rw[hN];simpa[h1]using e⟩
def qb (G:Nat->Option Fn) (Q:ke) (N:Nat) (c:IC) (s:St):Option (Ex×St):=exec N (cN G Q N) c s
omit hQ in
theorem yW (hQ:dV Q){n m:Nat}(hn:n<=m){c:IC}{s:St}{x:Ex×St}(h:qb G Q n c s=some x):qb G Q m c s=some x:=rD (sI hQ hn) hn _ _ _ h
theorem aam{n:Nat}:∀(c:IC) (s:St) (x:Ex×St),exec n (lim G Q) c s=some x->∃N,qb G Q N c s=some x:=by
 intro c
 induction c with
 |skip=>intro s x e;exact⟨0,by simpa[exec,qb]using e⟩
 |ae r=>
  intro s x e;simp only[exec,qb]at e ⊢;cases h1:dp (lim G Q) r s with
  |none=>simp[h1]at e
  |some q=>obtain⟨N,hN⟩:=aal hQ h1;exact⟨N,by rw[hN];simpa[h1]using e⟩
 |seq c d yU yV=>
  intro s x e;simp only[exec]at e;cases h1:exec n (lim G Q) c s with
  |none=>simp[h1]at e
  |some q=>
   obtain⟨N,hN⟩:=yU _ _ h1;obtain⟨e1,s1⟩:=q;cases e1 with
   |fm=>
    simp only[h1]at e;obtain⟨M,hM⟩:=yV _ _ e;refine⟨max N M,?_⟩;have a1:=yW (G:=G) hQ (Nat.le_max_left N M) hN;have a2:=yW (G:=G) hQ (Nat.le_max_right N M) hM;simp only[qb,exec]at a1 a2 ⊢;rw[a1];exact a2
   |exit j=>exact⟨N,by simp only[qb,exec]at hN ⊢;rw[hN];simpa[h1]using e⟩
   |ret=>exact⟨N,by simp only[qb,exec]at hN ⊢;rw[hN];simpa[h1]using e⟩
 |cond t c d yU yV=>
  intro s x e;simp only[exec]at e;split at e
  ·split at e
   ·split at e
    ·rename_i h1 h2 h3;obtain⟨N,hN⟩:=yU _ _ e;exact⟨N,by simp only[qb,exec,h1,h2,dC]at hN ⊢;rw[ab h3];exact hN⟩
    ·rename_i h1 h2 h3;obtain⟨N,hN⟩:=yV _ _ e;exact⟨N,by simp only[qb,exec,h1,h2,dC]at hN ⊢;rw[aa h3];exact hN⟩
   ·simp at e
  ·simp at e
 |kO k c d yU yV=>
  intro s x e;simp only[exec]at e;split at e
  ·split at e
   ·rename_i h1 h2;obtain⟨N,hN⟩:=yU _ _ e;exact⟨N,by simp only[qb,exec,h1]at hN ⊢;rw[ab h2];exact hN⟩
   ·rename_i h1 h2;obtain⟨N,hN⟩:=yV _ _ e;exact⟨N,by simp only[qb,exec,h1]at hN ⊢;rw[aa h2];exact hN⟩
  ·simp at e
 |block id c ih=>
  intro s x e;simp only[exec]at e;cases h1:exec n (lim G Q) c s with
  |none=>simp[h1]at e
  |some q=>obtain⟨N,hN⟩:=ih _ _ h1;exact⟨N,by simp only[qb,exec]at hN ⊢;rw[hN];simpa[h1]using e⟩
 |loop c ih=>
  intro s x e;simp only[exec]at e;have go:∀(k:Nat) (s:St),iter (exec n (lim G Q) c) k s=some x->∃N,∃j,iter (qb G Q N c) j s=some x:=by
   intro k
   induction k with
   |zero=>intro s e;simp[iter]at e
   |succ k ihk=>
    intro s e;simp only[iter]at e;cases h1:exec n (lim G Q) c s with
    |none=>simp[h1]at e
    |some q=>
     obtain⟨N,hN⟩:=ih _ _ h1;obtain⟨e1,s1⟩:=q;cases e1 with
     |fm=>
      simp only[h1]at e;obtain⟨M,j,hM⟩:=ihk _ e;refine⟨max N M,j+1,?_⟩;simp only[iter];rw[yW (G:=G) hQ (Nat.le_max_left N M) hN];exact yT (λs x h=>yW (G:=G) hQ (Nat.le_max_right N M) h) (bw _) hM
     |exit i=>exact⟨N,1,by simp only[iter];rw[hN];simpa[h1]using e⟩
     |ret=>exact⟨N,1,by simp only[iter];rw[hN];simpa[h1]using e⟩
  obtain⟨N,j,h⟩:=go n s e;refine⟨max N j,?_⟩;simp only[qb,exec];exact yT (λs x h=>yW (G:=G) hQ (Nat.le_max_left N j) h) (Nat.le_max_right N j) h
 |exit id=>intro s x e;exact⟨0,by simpa[exec,qb]using e⟩
 |ret=>intro s x e;exact⟨0,by simpa[exec,qb]using e⟩
 |lu k=>intro s x e;exact⟨0,by simpa[exec,qb]using e⟩
 |bad=>intro s x e;simp[exec]at e
 |cut b c ih=>intro s x e;simp only[exec]at e;obtain⟨N,hN⟩:=ih _ _ e;exact⟨N,by simp only[qb,exec]at hN ⊢;exact hN⟩
 |FU c ih=>intro s x e;simp only[exec]at e;obtain⟨N,hN⟩:=ih _ _ e;exact⟨N,by simp only[qb,exec]at hN ⊢;exact hN⟩
 |lex c ih=>
  intro s x e;simp only[exec]at e;cases h1:exec n (lim G Q) c s with
  |none=>simp[h1]at e
  |some q=>obtain⟨N,hN⟩:=ih _ _ h1;exact⟨N,by simp only[qb,exec]at hN ⊢;rw[hN];simpa[h1]using e⟩
theorem NM{f n:Nat}{fn:Fn}{args:List AV}{σ:List ag}{e:Ex}{s:St}{r:AV}(hq:Q f=none) (hg:G f=some fn) (hl:args.length=fn.np)
  (he:exec n (lim G Q) fn.body {vars:=args++List.replicate (fn.nv-fn.np) .aM,fl:=none,σ}=some (e,s)) (hx:∀j,e ≠ .exit j) (hr:results fn s=some r) :
  lim G Q f args σ=some (r,s.σ):=by
 obtain⟨N,hN⟩:=aam hQ _ _ _ he;refine BW hQ (N:=N+1) ?_;have h1:exec (N+1) (dH G Q (N+1) N) fn.body {vars:=args++List.replicate (fn.nv-fn.np) .aM,fl:=none,σ}=some (e,s):=
  rD (BV hQ (Nat.le_succ N) (bw N)) (Nat.le_succ N) _ _ _ hN
 simp only[cN,dH,hq,hg,hl,kW,dC,h1];cases e with
 |exit j=>exact absurd rfl (hx j)
 |fm=>simp[hr]
 |ret=>simp[hr]
omit hQ in
theorem uB (hQ:dV Q){N f:Nat}{p:CE->List AV->List ag->Option (AV×List ag)}{args:List AV}{σ:List ag}{x:AV×List ag}(hq:Q f=some p) (hp:p (cN G Q N) args σ=some x):lim G Q f args σ=some x:=by
 refine BW hQ (N:=N+1) ?_;simp only[cN,dH,hq];exact hQ f p hq _ _ (BV hQ (Nat.le_succ N) (bw N)) _ _ _ hp
end
def W (L:CE) (c:IC) (s:St) (Q:Ex->St->Prop):Prop:=∃n e s', exec n L c s=some (e,s')/\Q e s'
section
variable{L:CE}
theorem wA (L:CE):CE.le L L:=λ_ _ _ _ h=>h
theorem W.mono{c:IC}{s:St}{Q R:Ex->St->Prop}(h:W L c s Q) (hQ:∀e s', Q e s' ->R e s'):W L c s R:=by
 obtain⟨n,e,s', h1,h2⟩:=h;exact⟨n,e,s', h1,hQ e s' h2⟩
theorem aan{s:St}{Q:Ex->St->Prop}(h:Q .fm s):W L .skip s Q:=⟨0,.fm,s,rfl,h⟩
theorem NN{s:St}{Q:Ex->St->Prop}(h:Q .ret s):W L .ret s Q:=⟨0,.ret,s,rfl,h⟩
theorem aao{id:Nat}{s:St}{Q:Ex->St->Prop}(h:Q (.exit id) s):W L (.exit id) s Q:=⟨0,.exit id,s,rfl,h⟩
theorem NO{r:ga}{s s' : St}{Q:Ex->St->Prop}(h:dp L r s=some s') (hq:Q .fm s'):W L (.ae r) s Q:=⟨0,.fm,s', by simp[exec,h],hq⟩
def aap (L:CE) (d:IC) (Q:Ex->St->Prop):Ex->St->Prop
 |.fm,s=>W L d s Q
 |e,s=>Q e s
theorem NP{c d:IC}{s:St}{Q:Ex->St->Prop}(h:W L c s (aap L d Q)):W L (.seq c d) s Q:=by
 obtain⟨n,e,s1,h1,h2⟩:=h;cases e with
 |fm=>
  obtain⟨m,e', s', h3,h4⟩:=h2;refine⟨max n m,e', s', ?_,h4⟩;simp only[exec];rw[rD (wA L) (Nat.le_max_left n m) _ _ _ h1];exact rD (wA L) (Nat.le_max_right n m) _ _ _ h3
 |exit j=>exact⟨n,.exit j,s1,by simp[exec,h1],h2⟩
 |ret=>exact⟨n,.ret,s1,by simp[exec,h1],h2⟩
theorem aaq{t:Nat}{c d:IC}{vars:List AV}{σ:List ag}{b:Bool}{Q:Ex->St->Prop}(h1:b=true->W L c ⟨vars,none,σ⟩ Q) (h2:b=false->W L d ⟨vars,none,σ⟩ Q):W L (.cond t c d) ⟨vars,some (t,.bool b),σ⟩ Q:=by
 cases b with
 |true=>
  obtain⟨n,e,s', h3,h4⟩:=h1 rfl;exact⟨n,e,s', by simp[exec,h3],h4⟩
 |false=>
  obtain⟨n,e,s', h3,h4⟩:=h2 rfl;exact⟨n,e,s', by simp[exec,h3],h4⟩
theorem aar{k:Nat}{c d:IC}{s:St}{b:Bool}{Q:Ex->St->Prop}(hb:nth s.vars k = .bool b) (h1:b=true->W L c s Q) (h2:b=false->W L d s Q):W L (.kO k c d) s Q:=by
 cases b with
 |true=>
  obtain⟨n,e,s', h3,h4⟩:=h1 rfl;exact⟨n,e,s', by simp[exec,hb,h3],h4⟩
 |false=>
  obtain⟨n,e,s', h3,h4⟩:=h2 rfl;exact⟨n,e,s', by simp[exec,hb,h3],h4⟩
def Out (id:Nat) (Q:Ex->St->Prop):Ex->St->Prop
 |.exit j,s=>if j=id then Q .fm s else Q (.exit j) s
 |e,s=>Q e s
theorem aas{id:Nat}{c:IC}{s:St}{Q:Ex->St->Prop}(h:W L c s (Out id Q)):W L (.block id c) s Q:=by
 obtain⟨n,e,s1,h1,h2⟩:=h;cases e with
 |fm=>exact⟨n,.fm,s1,by simp[exec,h1],h2⟩
 |exit j=>
  by_cases hj:j=id
  ·exact⟨n,.fm,s1,by simp[exec,h1,hj],by simpa[Out,hj]using h2⟩
  ·exact⟨n,.exit j,s1,by simp[exec,h1,hj],by simpa[Out,hj]using h2⟩
 |ret=>exact⟨n,.ret,s1,by simp[exec,h1],h2⟩
def yX (I:St->Prop) (μ:St->Nat) (m:Nat) (Q:Ex->St->Prop):Ex->St->Prop
 |.fm,s=>I s/\μ s<m
 |e,s=>Q e s
end
def BY (l:List AV) (n:Int) (K:AV->Prop):Prop:=0<=n/\∃y,oP l n.toNat=some y/\K y
def qc (n:Int) (K:AV->Prop):Prop:=(-9223372036854775808<=n/\n<=9223372036854775807)/\K (.int n)
def wC (o:BG) (x y:Int) (K:AV->Prop):Prop:=
 match o with
 |.add=>qc (x+y) K
 |.sub=>qc (x-y) K
 |.mul=>qc (x*y) K
 |.quo=>y ≠ 0/\qc (x.tdiv y) K
 |.rem=>y ≠ 0/\K (.int (x.tmod y))
 |.lss=>K (.bool (decide (x<y)))
 |.leq=>K (.bool (decide (x<=y)))
 |.gtr=>K (.bool (decide (y<x)))
 |.geq=>K (.bool (decide (y<=x)))
 |.eql=>K (.bool (decide (x=y)))
 |.neq=>K (.bool (!decide (x=y)))
 |.uq=>K (.int (wr (x+y)))
def xD (L:CE) (f:Nat) (args:List AV):Option AV:=
 match L f args []with
 |some (v,bp)=>cv bp false v
 |none=>none
def aP{α:Type}(o:Option α) (K:α->Prop):Prop:=
 match o with
 |some u=>K u
 |none=>False
theorem kI{α:Type}{o:Option α}{K:α->Prop}(h:aP o K):∃u,o=some u/\K u:=by
 cases o with
 |none=>exact h.elim
 |some u=>exact⟨u,rfl,h⟩
theorem BZ{α:Type}{u:α}{K:α->Prop}:aP (some u) K=K u:=(rfl)
def rE (L:CE) (f:Nat) (args:List AV) (K:AV->Prop):Prop:=ax args=true/\aP (xD L f (args.map wk)) K
def LX (L:CE) (f:Nat) (args:List AV) (σ:List ag) (K:AV->List ag->Prop):Prop:=aP (L f args σ) λp=>K p.1 p.2
def yY (cs:List AV) (off:Nat) (k:Option Nat) (K:AV->Prop):Prop:=aP (part cs off k) K
def bB (c:Prop) (K:Prop):Prop:=c/\K
def qd (L:CE) (σ:List ag) (nl:Nat) (r:Rf->AV) (op:cU) (K:AV->Option aX->Prop):Prop:=
 match op with
 |.bin o x y=>match r x,r y with
  |.int a,.int b=>wC o a b λv=>K v none
  |_,_=>False
 |.bU x i st=>match r x,r i with
  |.aE _ l,.int n=>BY l n λy=>y.cells.length=st/\K (.bd y) none
  |.sl b u off len,.int n=>bB (0<=n/\n<len) (K (.ptr b u (off+n.toNat*st)) none)
  |_,_=>False
 |.fS x i n k=>match r x,r i with
  |.ptr b u o,.int j=>bB (0<=j/\j<n) (K (.ptr b u (o+j.toNat*aC k)) none)
  |.bd v,.int j=>bB (0<=j/\j<n) (aP (part v.cells (j.toNat*aC k) k) λy=>K (.bd y) none)
  |_,_=>False
 |.cu f args=>rE L f (args.map r) λv=>K v none
 |.lD x args=>match r x with
  |.func f aI=>rE L f (args.map r++aI) λv=>K v none
  |_=>False
 |.inv x gB args=>match r x with
  |.iface t v=>match eK gB t with
   |some f=>rE L f (v::args.map r) λv=>K v none
   |none=>False
  |_=>False
 |.ld x k=>match r x with
  |.bd v=>match k,v with
   |none,.agg _=>False
   |none,v=>K v none
   |some n,.agg l=>l.length=n/\K (.agg l) none
   |some _,_=>False
  |.ptr b u o=>aP (upto σ b u) λB=>B.st.isLive=true/\yY B.cells o k λy=>K y none
  |_=>False
 |.FT x=>match r x with
  |.int n=>qc n λv=>K v none
  |.ik _ n=>qc n λv=>K v none
  |_=>False
 |.pK x lo hi st=>match tR r lo,tS r hi with
  |some a,some b=>(match r x with
   |.aE nn l=>bB ((0<=a/\a<=b.getD l.length/\b.getD l.length<=l.length)/\gd st l=true) (K (.aE (nn&&decide (0<l.length)) ((l.drop a.toNat).take ((b.getD l.length).toNat-a.toNat))) none)
   |.sl b' u off len=>aP (upto σ b' u) λB=>bB ((0<=a/\a<=b.getD len/\b.getD len<=len)/\aC B.k=st) (K (.sl b' u (off+a.toNat*st) ((b.getD len).toNat-a.toNat)) none)
   |_=>False)
  |_,_=>False
 |.tO f args=>aP (bV (λx=>view σ false vd (r x)) args) λvs=>LX L f vs [] λv bp =>aP (cv bp true v) λu=>K u none
 |.can f args=>bB (ax (args.map r)=true) (LX L f (args.map r) [] λv bp =>K (jx nl v) (some (.news (bp.map (gM nl)))))
 |.jT n c z k=>match r n,r c with
  |.int n,.int c=>bB (0<=n/\n<=c/\c<=dE/\z.length=aC k) (K (.sl nl (eH c.toNat z).length 0 n.toNat) (some (.new ⟨k,eH c.toNat z,.live⟩)))
  |_,_=>False
 |.app s x k=>match aG σ k (r x)with
  |none=>False
  |some (n,cs)=>match r s with
   |.sl b u off len=>aP (upto σ b u) λB=>bB (off=0/\u=len*aC k/\len+n<=dE/\tQ B.k k=true) ((n=0->K (.sl b u off len) none)/\(n ≠ 0->cs.length ≠ 0/\K (.sl b (u+cs.length) 0 (len+n)) (some (.grow b cs))))
   |.ah=>(n=0->K .ah none)/\(n ≠ 0->n<=dE/\K (.sl nl cs.length 0 n) (some (.new ⟨k,cs,.live⟩)))
   |.emp=>(n=0->K .emp none)/\(n ≠ 0->n<=dE/\K (.sl nl cs.length 0 n) (some (.new ⟨k,cs,.live⟩)))
   |.arr l=>(n=0->K (if ax l then .aE true l else .arr l) none)/\(n ≠ 0->(fitAll (aC k) l=true/\l.length+n<=dE)/\K (.sl nl (l.flatMap AV.cells++cs).length 0 (l.length+n)) (some (.new ⟨k,l.flatMap AV.cells++cs,.live⟩)))
   |_=>False
 |op=>aP (ev L σ nl [] r op) λp=>K p.1 p.2
theorem uC{n:Int}:kZ n=true↔-9223372036854775808<=n/\n<=9223372036854775807:=by
 simp[kZ]
theorem wD{n:Int}{K:AV->Prop}(h:qc n K):kZ n=true/\K (.int n):=⟨uC.2 h.1,h.2⟩
theorem aat{o:BG}{x y:Int}{K:AV->Prop}(h:wC o x y K):∃v,bin o x y=some v/\K v:=by
 cases o<;>simp only[wC]at h<;>simp only[bin]
 case add=>obtain⟨h1,h2⟩:=wD h;exact⟨_,by rw[ab h1],h2⟩
 case sub=>obtain⟨h1,h2⟩:=wD h;exact⟨_,by rw[ab h1],h2⟩
 case mul=>obtain⟨h1,h2⟩:=wD h;exact⟨_,by rw[ab h1],h2⟩
 case quo=>obtain⟨h0,h1,h2⟩:=And.intro h.1 (wD h.2);exact⟨_,by simp[h0,h1],h2⟩
 case rem=>exact⟨_,by simp[h.1],h.2⟩
 case eql=>exact⟨_,rfl,by rwa [show(x==y)=decide (x=y)from rfl]⟩
 case neq=>exact⟨_,rfl,by rwa [show(x==y)=decide (x=y)from rfl]⟩
 all_goals exact⟨_,rfl,h⟩
theorem HX{L:CE}{f:Nat}{args:List AV}{K:AV->Prop}(h:rE L f args K):∃v,iZ L f args=some v/\K v:=by
 obtain⟨h1,h2⟩:=h;obtain⟨u,h3,h4⟩:=kI h2;exact⟨u,by unfold iZ;rw[ab h1];exact h3,h4⟩
theorem dS{L:CE}{f:Nat}{args:List AV}{σ:List ag}{K:AV->List ag->Prop}(h:LX L f args σ K):∃v bp, L f args σ=some (v,bp)/\K v bp :=by
 obtain⟨⟨v,bp⟩,h1,h2⟩:=kI h;exact⟨v,bp, h1,h2⟩
theorem F0{L:CE}{f:Nat}{args:List AV}{σ bp : List ag}{v:AV}{K:AV->List ag->Prop}(h:L f args σ=some (v,bp)) (k:K v bp):LX L f args σ K:=by unfold LX;rw[h];exact k
theorem cW{L:CE}{f:Nat}{args:List AV}{r:AV}(h:LX L f args [] λv bp =>aP (cv bp false v) (·= r)):xD L f args=some r:=by
 obtain⟨v,bp, h1,h2⟩:=dS h;obtain⟨u,h3,rfl⟩:=kI h2;simp only[xD,h1,h3]
theorem o5{L:CE}{f:Nat}{args:List AV}{σ bp : List ag}{v:AV}(h:LX L f args σ λv' τ=>v' = v/\τ=bp):L f args σ=some (v,bp):=by
 obtain⟨v', τ,h1,rfl,rfl⟩:=dS h;exact h1
theorem NQ{L:CE}{σ:List ag}{nl:Nat}{r:Rf->AV}{op:cU}{K:AV->Option aX->Prop}(h:qd L σ nl r op K):∃v p,ev L σ nl [] r op=some (v,p)/\K v p:=by
 unfold qd at h;cases op
 case bin o x y=>
  simp only at h;split at h
  ·rename_i a b ha hb
   obtain⟨v,h1,h2⟩:=aat h;exact⟨v,none,by simp only[ev,ha,hb,h1];rfl,h2⟩
  ·exact h.elim
 case bU x i st=>
  simp only at h;split at h
  ·rename_i q l n ha hb
   obtain⟨h0,y,h1,h2,h3⟩:=h;exact⟨_,_,by simp[ev,ha,hb,h0,h1,h2],h3⟩
  ·rename_i b u off len n ha hb
   obtain⟨h0,h1⟩:=h;exact⟨_,_,by simp only[ev,ha,hb];rw[ab h0],h1⟩
  ·exact h.elim
 case fS x i n k=>
  simp only at h;split at h
  ·rename_i b u o j ha hb
   obtain⟨h0,h1⟩:=h;exact⟨_,_,by simp only[ev,ha,hb];rw[ab h0],h1⟩
  ·rename_i v j ha hb
   obtain⟨h0,h1⟩:=h;obtain⟨y,h2,h3⟩:=kI h1;exact⟨_,_,by simp only[ev,ha,hb];rw[ab h0,h2];rfl,h3⟩
  ·exact h.elim
 case cu f args=>
  obtain⟨v,h1,h2⟩:=HX h;exact⟨v,none,by simp[ev,h1],h2⟩
 case lD x args=>
  simp only at h;split at h
  ·rename_i f aI ha
   obtain⟨v,h1,h2⟩:=HX h;exact⟨v,none,by simp only[ev,ha,h1];rfl,h2⟩
  ·exact h.elim
 case inv x gB args=>
  simp only at h;split at h
  ·rename_i t q ha
   split at h
   ·rename_i f hf
    obtain⟨v,h1,h2⟩:=HX h;exact⟨v,none,by simp only[ev,ha,hf,h1];rfl,h2⟩
   ·exact h.elim
  ·exact h.elim
 case ld x k=>
  simp only at h;split at h
  ·rename_i v ha
   split at h
   ·exact h.elim
   ·rename_i v hv;exact⟨_,none,by simp only[ev,ha],h⟩
   ·obtain⟨h1,h2⟩:=h;exact⟨_,none,by simp[ev,ha,h1],h2⟩
   ·exact h.elim
  ·rename_i b u o ha
   obtain⟨B,hB,h⟩:=kI h;obtain⟨h1,h⟩:=h;obtain⟨y,h2,h3⟩:=kI h;exact⟨y,none,by simp only[ev,ha,hB];rw[ab h1,h2];rfl,h3⟩
  ·exact h.elim
 case FT x=>
  simp only at h;split at h
  ·rename_i n ha
   obtain⟨h1,h2⟩:=wD h;exact⟨_,none,by simp only[ev,ha];rw[ab h1],h2⟩
  ·rename_i k n ha
   obtain⟨h1,h2⟩:=wD h;exact⟨_,none,by simp only[ev,ha];rw[ab h1],h2⟩
  ·exact h.elim
 case pK x lo hi st=>
  simp only at h;split at h
  ·rename_i a b ha hb
   split at h
   ·rename_i nn l hx
    obtain⟨h0,h1⟩:=h;exact⟨_,_,by simp only[ev,ha,hb,hx];rw[ab h0],h1⟩
   ·rename_i b' u off len hx
    obtain⟨B,hB,h0,h1⟩:=kI h;exact⟨_,_,by simp only[ev,ha,hb,hx,hB];rw[ab h0],h1⟩
   ·exact h.elim
  ·exact h.elim
 case tO f args=>
  obtain⟨vs,h1,h2⟩:=kI h;obtain⟨v,bp, h3,h4⟩:=dS h2;obtain⟨u,h5,h6⟩:=kI h4;exact⟨u,none,by simp only[ev,h1,h3,h5];rfl,h6⟩
 case can f args=>
  obtain⟨h1,h2⟩:=h;obtain⟨v,bp, h3,h4⟩:=dS h2;exact⟨_,_,by simp only[ev];rw[ab h1,h3],h4⟩
 case jT n c z k=>
  simp only at h;split at h
  ·rename_i n c ha hb
   obtain⟨h0,h1⟩:=h;exact⟨_,_,by simp only[ev,ha,hb];rw[ab h0],h1⟩
  ·exact h.elim
 case app s x k=>
  simp only at h;split at h
  ·exact h.elim
  ·rename_i n cs hx
   split at h
   ·rename_i b u off len hs
    obtain⟨B,hB,⟨h1,h2,h3,h4⟩,h5,h6⟩:=kI h
    by_cases hn:n=0
    ·subst hn
     exact⟨_,_,by simp only[ev,hx,hs,hB];rw[ab (by simp[h1,h2,h4,oC];omega)];simp,h5 rfl⟩
    ·obtain⟨h7,h8⟩:=h6 hn
     exact⟨_,_,by simp only[ev,hx,hs,hB];rw[ab (by simp[h1,h2,h4,oC];omega)];rw[aa (by simpa using hn),aa (by simpa using h7)],h8⟩
   ·rename_i hs
    by_cases hn:n=0
    ·subst hn
     exact⟨_,_,by simp only[ev,hx,hs];simp,h.1 rfl⟩
    ·obtain⟨h7,h8⟩:=h.2 hn
     exact⟨_,_,by simp only[ev,hx,hs];rw[aa (by simpa using hn),ab h7],h8⟩
   ·rename_i hs
    by_cases hn:n=0
    ·subst hn
     exact⟨_,_,by simp only[ev,hx,hs];simp,h.1 rfl⟩
    ·obtain⟨h7,h8⟩:=h.2 hn
     exact⟨_,_,by simp only[ev,hx,hs];rw[aa (by simpa using hn),ab h7],h8⟩
   ·rename_i l hs
    by_cases hn:n=0
    ·subst hn
     exact⟨_,_,by simp only[ev,hx,hs];simp,h.1 rfl⟩
    ·obtain⟨⟨h7,h9⟩,h8⟩:=h.2 hn
     exact⟨_,_,by simp only[ev,hx,hs];rw[aa (by simpa using hn),ab (by simp[h7,h9])],h8⟩
   ·exact h.elim
 all_goals
  obtain⟨⟨v,p⟩,h1,h2⟩:=kI h;exact⟨v,p,h1,h2⟩
def yZ (cs:List AV) (o:Nat) (new:List AV) (K:List AV->Prop):Prop:=o+new.length<=cs.length/\K (putAt cs o new)
def y4 (L:CE) (σ:List ag) (r:Rf->AV) (op:cU) (K:AV->List ag->Prop):Prop:=
 match op with
 |.st p x n=>match r p with
  |.ptr b u o=>aP (upto σ b u) λB=>((r x).cells.length=n/\B.st.isLive=true/\bz (r x)=true)/\yZ B.cells o (r x).cells λcs=>K .aM (ay σ b ⟨B.k,cs,B.st⟩)
  |_=>False
 |.dm s x k=>match aG σ k (r x)with
  |none=>False
  |some (n,cs)=>match r s with
   |.sl b u off len=>aP (upto σ b u) λB=>bB (off=0/\len+n<=dE/\tQ B.k k=true/\(n ≠ 0->cs.length ≠ 0)) ((n=0->K (.sl b u off len) σ)/\(n ≠ 0->u=len*aC k->K (.sl b (u+cs.length) 0 (len+n)) (ay σ b ⟨B.k,B.cells++cs,.live⟩))/\(n ≠ 0->u ≠ len*aC k->(len+n)*aC k<=u/\K (.sl b u 0 (len+n)) (ay σ b ⟨B.k,putAt B.cells (len*aC k) cs,B.st⟩)))
   |.ah=>(n=0->K .ah σ)/\(n ≠ 0->n<=dE/\K (.sl σ.length cs.length 0 n) (σ ++ [⟨k,cs,.live⟩]))
   |.emp=>(n=0->K .emp σ)/\(n ≠ 0->n<=dE/\K (.sl σ.length cs.length 0 n) (σ ++ [⟨k,cs,.live⟩]))
   |.arr l=>(n=0->K (if ax l then .aE true l else .arr l) σ)/\(n ≠ 0->(fitAll (aC k) l=true/\l.length+n<=dE)/\K (.sl σ.length (l.flatMap AV.cells++cs).length 0 (l.length+n)) (σ ++ [⟨k,l.flatMap AV.cells++cs,.live⟩]))
   |_=>False
 |.fF f args=>LX L f (args.map r) σ K
 |.kT x args=>match r x with
  |.func f aI=>LX L f (args.map r++aI) σ K
  |_=>False
 |.p8 x gB args=>match r x with
  |.iface t v=>match eK gB t with
   |some f=>LX L f (v::args.map r) σ K
   |none=>False
  |_=>False
 |op=>aP (fC L σ r op) λp=>K p.1 p.2
theorem aau{L:CE}{σ:List ag}{r:Rf->AV}{op:cU}{K:AV->List ag->Prop}(h:y4 L σ r op K):∃v bp, fC L σ r op=some (v,bp)/\K v bp :=by
 unfold y4 at h;cases op
 case st p x n=>
  simp only at h;split at h
  ·rename_i b u o ha
   obtain⟨B,hB,⟨h1,h2,h3⟩,h4,h5⟩:=kI h;exact⟨.aM,_,by simp only[fC,ha,hB];simp[h1,h2,h3,show o+n<=B.cells.length by rw[<-h1];exact h4],h5⟩
  ·exact h.elim
 case dm s x k=>
  simp only at h;split at h
  ·exact h.elim
  ·rename_i n cs hx
   split at h
   ·rename_i b u off len hs
    obtain⟨B,hB,⟨h1,h2,h3,h4⟩,h5,h6,h7⟩:=kI h
    by_cases hn:n=0
    ·subst hn
     exact⟨_,_,by simp only[fC,hx,hs,hB];rw[ab (by simp[h1,h3];omega)];simp,h5 rfl⟩
    ·have hc:=h4 hn
     by_cases hu:u=len*aC k
     ·exact⟨_,_,by simp only[fC,hx,hs,hB];rw[ab (by simp[h1,h3];omega)];rw[aa (by simpa using hn),aa (by simpa using hc),ab (by simpa using hu)],h6 hn hu⟩
     ·obtain⟨h8,h9⟩:=h7 hn hu
      exact⟨_,_,by simp only[fC,hx,hs,hB];rw[ab (by simp[h1,h3];omega)];rw[aa (by simpa using hn),aa (by simpa using hc),aa (by simpa using hu),ab h8],h9⟩
   ·rename_i hs
    by_cases hn:n=0
    ·subst hn
     exact⟨_,_,by simp only[fC,hx,hs];simp,h.1 rfl⟩
    ·obtain⟨h7,h8⟩:=h.2 hn
     exact⟨_,_,by simp only[fC,hx,hs];rw[aa (by simpa using hn),ab h7],h8⟩
   ·rename_i hs
    by_cases hn:n=0
    ·subst hn
     exact⟨_,_,by simp only[fC,hx,hs];simp,h.1 rfl⟩
    ·obtain⟨h7,h8⟩:=h.2 hn
     exact⟨_,_,by simp only[fC,hx,hs];rw[aa (by simpa using hn),ab h7],h8⟩
   ·rename_i l hs
    by_cases hn:n=0
    ·subst hn
     exact⟨_,_,by simp only[fC,hx,hs];simp,h.1 rfl⟩
    ·obtain⟨⟨h7,h9⟩,h8⟩:=h.2 hn
     exact⟨_,_,by simp only[fC,hx,hs];rw[aa (by simpa using hn),ab (by simp[h7,h9])],h8⟩
   ·exact h.elim
 case fF f args=>
  obtain⟨v,bp, h1,h2⟩:=dS h;exact⟨v,bp, h1,h2⟩
 case kT x args=>
  simp only at h;split at h
  ·rename_i f aI ha
   obtain⟨v,bp, h1,h2⟩:=dS h;exact⟨v,bp, by simp only[fC,ha];exact h1,h2⟩
  ·exact h.elim
 case p8 x gB args=>
  simp only at h;split at h
  ·rename_i t q ha
   split at h
   ·rename_i f hf
    obtain⟨v,bp, h1,h2⟩:=dS h;exact⟨v,bp, by simp only[fC,ha,hf];exact h1,h2⟩
   ·exact h.elim
  ·exact h.elim
 all_goals
  obtain⟨⟨v,p⟩,h1,h2⟩:=kI h;exact⟨v,p,h1,h2⟩
def dT (K:List AV->List ag->List ag->Prop) (env:List AV) (az σ:List ag) (v:AV):Option aX->Prop
 |none=>K (v::env) az σ
 |some p=>K (v::env) σ (fT σ p)
def cm (L:CE) (vars:List AV) (op:cU) (prev:Bool) (env:List AV) (az σ:List ag) (K:List AV->List ag->List ag->Prop):Prop:=
 match op.kN,prev,op.lz with
 |true,_,_=>y4 L σ (rv vars env) op λv bp =>K (v::env) [] bp
 |false,true,true=>qd L az σ.length (rv vars env) op (dT K env σ σ)
 |false,true,false=>qd L az σ.length (rv vars env) op (dT K env az σ)
 |false,false,true=>qd L σ σ.length (rv vars env) op (dT K env σ σ)
 |false,false,false=>qd L σ σ.length (rv vars env) op (dT K env az σ)
def gK (b:Bool) (A B:Prop):Prop:=(b=true->A)/\(b=false->B)
theorem HY{A B:Prop}:gK true A B=A:=by simp[gK]
theorem HZ{A B:Prop}:gK false A B=B:=by simp[gK]
def LK (L:CE) (vars:List AV):List Ln->List AV->List ag->List ag->(List AV->List ag->Prop)->Prop
 | [],env,_,σ,K=>K env σ
 |⟨op,g,prev⟩::ls,env,az,σ,K=>match g with
  |none=>cm L vars op prev env az σ λenv az σ=>LK L vars ls env az σ K
  |some (.t d,w)=>match nth env d with
   |.bool b=>match w with
    |true=>gK b (cm L vars op prev (eT env d (.bool true)) az σ λenv az σ=>LK L vars ls env az σ K) (LK L vars ls (.bQ []::eT env d (.bool false)) az σ K)
    |false=>gK b (LK L vars ls (.bQ []::eT env d (.bool true)) az σ K) (cm L vars op prev (eT env d (.bool false)) az σ λenv az σ=>LK L vars ls env az σ K)
   |.bQ []=>LK L vars ls (.bQ []::env) az σ K
   |_=>False
  |some (.v k,w)=>match nth vars k with
   |.bool b=>match w with
    |true=>gK b (cm L vars op prev env az σ λenv az σ=>LK L vars ls env az σ K) (LK L vars ls (.bQ []::env) az σ K)
    |false=>gK b (LK L vars ls (.bQ []::env) az σ K) (cm L vars op prev env az σ λenv az σ=>LK L vars ls env az σ K)
   |.bQ []=>LK L vars ls (.bQ []::env) az σ K
   |_=>False
  |some (.c _,_)=>False
theorem NR:∀{l:List AV}{d:Nat}{x:AV},x ≠ .aM->nth l d=x->eT l d x=l
 | [],d,x,hx,h=>by simp[nth]at h;exact absurd h.symm hx
 |y::r,0,x,_,h=>by simp[nth]at h;simp[eT,h]
 |y::r,d+1,x,hx,h=>by simp only[nth]at h;simp[eT,NR hx h]
theorem NS{L:CE}{vars:List AV}{op:cU}{g:Option (Rf×Bool)}{prev:Bool}{env:List AV}{az σ:List ag}{K:List AV->List ag->List ag->Prop}(hw:want vars env g=some true) (h:cm L vars op prev env az σ K) :
  ∃s,dd L vars ⟨env,az,σ⟩ ⟨op,g,prev⟩=some s/\K s.env s.az s.σ:=by
 unfold cm at h;unfold dd;simp only[hw];have fin:∀fh qf,(if prev=true then az else σ)=fh->(if op.lz=true then σ else az)=qf->op.kN=false->qd L fh σ.length (rv vars env) op (dT K env qf σ)->
   ∃s,(if op.kN=true then match fC L σ (rv vars env) op with
    |some (v,bp)=>some (⟨v::env,[],bp⟩:LS)
    |none=>none
   else match ev L (if prev=true then az else σ) σ.length [] (rv vars env) op with
    |some (v,none)=>some ⟨v::env,if op.lz=true then σ else az,σ⟩
    |some (v,some p)=>some ⟨v::env,σ,fT σ p⟩
    |none=>none)=some s/\K s.env s.az s.σ:=λfh qf e0 e1 hW h=>by
  obtain⟨v,p,h1,h2⟩:=NQ h;rw[aa (by simp[hW]),e0,e1,h1]
  cases p with
  |none=>exact⟨_,rfl,h2⟩
  |some p=>exact⟨_,rfl,h2⟩
 split at h
 ·rename_i hW
  obtain⟨v,bp, h1,h2⟩:=aau h;rw[ab hW,h1];exact⟨_,rfl,h2⟩
 ·rename_i h1 h2;exact fin _ _ (by simp) (by simp[h2]) h1 h
 ·rename_i h1 h2;exact fin _ _ (by simp) (by simp[h2]) h1 h
 ·rename_i h1 h2;exact fin _ _ (by simp) (by simp[h2]) h1 h
 ·rename_i h1 h2;exact fin _ _ (by simp) (by simp[h2]) h1 h
theorem wE{L:CE}{vars:List AV}{op:cU}{g:Option (Rf×Bool)}{prev:Bool}{ls:List Ln}{env uD : List AV}{az σ:List ag}{K:List AV->List ag->Prop}(e:uD = env) (hw:want vars uD g=some false)
  (h:∃q,lines L vars ls ⟨.bQ []::uD, az,σ⟩=some q/\K q.env q.σ):∃q,lines L vars (⟨op,g,prev⟩::ls) ⟨env,az,σ⟩=some q/\K q.env q.σ:=by
 subst e;obtain⟨q,h1,h2⟩:=h;exact⟨q,by simp only[lines,dd,hw];exact h1,h2⟩
theorem sV{L:CE}{vars:List AV}{op:cU}{g:Option (Rf×Bool)}{prev:Bool}{ls:List Ln}{env uD : List AV}{az σ:List ag}{K:List AV->List ag->Prop}{J:List AV->List ag->List ag->Prop}(e:uD = env) (hw:want vars uD g=some true)
  (h:cm L vars op prev uD az σ J) (hJ:∀env az σ,J env az σ->∃q,lines L vars ls ⟨env,az,σ⟩=some q/\K q.env q.σ):∃q,lines L vars (⟨op,g,prev⟩::ls) ⟨env,az,σ⟩=some q/\K q.env q.σ:=by
 subst e;obtain⟨s,h1,h2⟩:=NS hw h;obtain⟨q,h3,h4⟩:=hJ _ _ _ h2;exact⟨q,by simp only[lines,h1];exact h3,h4⟩
theorem nQ{L:CE}{vars:List AV}:∀{ls:List Ln}{env:List AV}{az σ:List ag}{K:List AV->List ag->Prop},LK L vars ls env az σ K->∃q,lines L vars ls ⟨env,az,σ⟩=some q/\K q.env q.σ
 | [],env,az,σ,K,h=>⟨_,rfl,h⟩
 |⟨op,g,prev⟩::ls,env,az,σ,K,h=>by
  unfold LK at h;split at h
  ·exact sV rfl rfl h λ_ _ _ h=>nQ h
  ·rename_i d w
   split at h
   ·rename_i b hb
    have e:∀q,b=q->eT env d (.bool q)=env:=λq hq=>NR (by simp) (hq▸hb)
    cases w with
    |true=>
     simp only[gK]at h;cases b with
     |true=>exact sV (e true rfl) (by rw[e true rfl];simp[want,rv,hb]) (h.1 rfl) λ_ _ _ h=>nQ h
     |false=>exact wE (e false rfl) (by rw[e false rfl];simp[want,rv,hb]) (nQ (h.2 rfl))
    |false=>
     simp only[gK]at h;cases b with
     |true=>exact wE (e true rfl) (by rw[e true rfl];simp[want,rv,hb]) (nQ (h.1 rfl))
     |false=>exact sV (e false rfl) (by rw[e false rfl];simp[want,rv,hb]) (h.2 rfl) λ_ _ _ h=>nQ h
   ·rename_i hb
    exact wE rfl (by simp[want,rv,hb]) (nQ h)
   ·exact h.elim
  ·rename_i k w
   split at h
   ·rename_i b hb
    cases w with
    |true=>
     simp only[gK]at h;cases b with
     |true=>exact sV rfl (by simp[want,rv,hb]) (h.1 rfl) λ_ _ _ h=>nQ h
     |false=>exact wE rfl (by simp[want,rv,hb]) (nQ (h.2 rfl))
    |false=>
     simp only[gK]at h;cases b with
     |true=>exact wE rfl (by simp[want,rv,hb]) (nQ (h.1 rfl))
     |false=>exact sV rfl (by simp[want,rv,hb]) (h.2 rfl) λ_ _ _ h=>nQ h
   ·rename_i hb
    exact wE rfl (by simp[want,rv,hb]) (nQ h)
   ·exact h.elim
  ·exact h.elim
@[reducible] def y5 (env:List AV):Option (Nat×Nat)->Option (Nat×AV)
 |some (t,d)=>some (t,nth env d)
 |none=>none
def WK (L:CE):IC->List AV->Option (Nat×AV)->List ag->(Ex->St->Prop)->Prop
 |.skip,vars,fl,σ,Q=>Q .fm ⟨vars,fl,σ⟩
 |.ae r,vars,_,σ,Q=>LK L vars r.ls [] σ σ λenv σ=>Q .fm ⟨dG r.dG (outs env r.outs vars),y5 env r.fl,σ⟩
 |.seq a b,vars,fl,σ,Q=>WK L a vars fl σ λe s=>match e with
  |.fm=>WK L b s.vars s.fl s.σ Q
  |e=>Q e s
 |.cond t a b,vars,fl,σ,Q=>match fl with
  |some (t', .bool c)=>t' = t/\gK c (WK L a vars none σ Q) (WK L b vars none σ Q)
  |_=>False
 |.kO k a b,vars,fl,σ,Q=>match nth vars k with
  |.bool c=>gK c (WK L a vars fl σ Q) (WK L b vars fl σ Q)
  |_=>False
 |.block id c,vars,fl,σ,Q=>WK L c vars fl σ (Out id Q)
 |.exit id,vars,fl,σ,Q=>Q (.exit id) ⟨vars,fl,σ⟩
 |.ret,vars,fl,σ,Q=>Q .ret ⟨vars,fl,σ⟩
 |.bad,_,_,_,_=>False
 |.cut _ c,vars,fl,σ,Q=>WK L c vars fl σ Q
 |.FU c,vars,fl,σ,Q=>WK L c vars fl σ Q
 |c,vars,fl,σ,Q=>W L c ⟨vars,fl,σ⟩ Q
def Wh (L:CE) (d:IC) (Q:Ex->St->Prop):Ex->St->Prop:=λe s=>match e with
 |.fm=>WK L d s.vars s.fl s.σ Q
 |e=>Q e s
theorem o6{L:CE}:∀{c:IC}{vars:List AV}{fl:Option (Nat×AV)}{σ:List ag}{Q:Ex->St->Prop},WK L c vars fl σ Q->W L c ⟨vars,fl,σ⟩ Q
 |.skip,vars,fl,σ,Q,h=>aan h
 |.ae r,vars,fl,σ,Q,h=>by
  unfold WK at h;obtain⟨q,h1,h2⟩:=nQ h;refine NO (s' :=⟨dG r.dG (outs q.env r.outs vars),y5 q.env r.fl,q.σ⟩) ?_ h2;simp only[dp,h1]
  rfl
 |.seq a b,vars,fl,σ,Q,h=>NP ((o6 (c:=a) h).mono λe s hq=>by
  cases e with
  |fm=>exact o6 (c:=b) hq
  |exit j=>exact hq
  |ret=>exact hq)
 |.cond t a b,vars,fl,σ,Q,h=>by
  unfold WK at h;split at h
  ·obtain⟨rfl,h1,h2⟩:=h
   exact aaq (λe=>o6 (h1 e)) (λe=>o6 (h2 e))
  ·exact h.elim
 |.kO k a b,vars,fl,σ,Q,h=>by
  unfold WK at h;split at h
  ·rename_i c hc
   exact aar hc (λe=>o6 (h.1 e)) (λe=>o6 (h.2 e))
  ·exact h.elim
 |.block id c,vars,fl,σ,Q,h=>aas (o6 (c:=c) h)
 |.exit id,vars,fl,σ,Q,h=>aao h
 |.ret,vars,fl,σ,Q,h=>NN h
 |.loop c,vars,fl,σ,Q,h=>h
 |.lu k,vars,fl,σ,Q,h=>h
 |.lex c,vars,fl,σ,Q,h=>h
 |.bad,vars,fl,σ,Q,h=>h.elim
 |.cut b c,vars,fl,σ,Q,h=>by
  obtain⟨n,e,s', h1,h2⟩:=o6 (c:=c) h;exact⟨n,e,s', by simpa only[exec]using h1,h2⟩
 |.FU c,vars,fl,σ,Q,h=>by
  obtain⟨n,e,s', h1,h2⟩:=o6 (c:=c) h;exact⟨n,e,s', by simpa only[exec]using h1,h2⟩
section
variable{L:CE}{vars:List AV}{fl:Option (Nat×AV)}{σ:List ag}{Q:Ex->St->Prop}
theorem aav:WK L .skip vars fl σ Q=Q .fm ⟨vars,fl,σ⟩:=(rfl)
theorem aaw{r:ga}:WK L (.ae r) vars fl σ Q=LK L vars r.ls [] σ σ λenv σ=>Q .fm ⟨dG r.dG (outs env r.outs vars),y5 env r.fl,σ⟩:=(rfl)
theorem aax{a b:IC}:WK L (.seq a b) vars fl σ Q=WK L a vars fl σ (Wh L b Q):=(rfl)
theorem aay{t:Nat}{a b:IC}{c:Bool}:WK L (.cond t a b) vars (some (t,.bool c)) σ Q=gK c (WK L a vars none σ Q) (WK L b vars none σ Q):=by
 apply propext;exact⟨λh=>h.2,λh=>⟨rfl,h⟩⟩
theorem aaz{k:Nat}{a b:IC}:WK L (.kO k a b) vars fl σ Q=match nth vars k with
  |.bool c=>gK c (WK L a vars fl σ Q) (WK L b vars fl σ Q)
  |_=>False:=by conv=>lhs;unfold WK
theorem aaA{id:Nat}{c:IC}:WK L (.block id c) vars fl σ Q=WK L c vars fl σ (Out id Q):=(rfl)
theorem aaB{id:Nat}:WK L (.exit id) vars fl σ Q=Q (.exit id) ⟨vars,fl,σ⟩:=(rfl)
theorem aaC:WK L .ret vars fl σ Q=Q .ret ⟨vars,fl,σ⟩:=(rfl)
theorem aaD{c:IC}:WK L (.loop c) vars fl σ Q=W L (.loop c) ⟨vars,fl,σ⟩ Q:=(rfl)
theorem aaE{k:Nat}:WK L (.lu k) vars fl σ Q=W L (.lu k) ⟨vars,fl,σ⟩ Q:=(rfl)
theorem aaF{c:IC}:WK L (.lex c) vars fl σ Q=W L (.lex c) ⟨vars,fl,σ⟩ Q:=(rfl)
theorem aaG:WK L .bad vars fl σ Q=False:=(rfl)
theorem aaH{b:Bool}{c:IC}:WK L (.cut b c) vars fl σ Q=WK L c vars fl σ Q:=(rfl)
theorem aaI{c:IC}:WK L (.FU c) vars fl σ Q=WK L c vars fl σ Q:=(rfl)
theorem aaJ{d:IC}:Wh L d Q .fm ⟨vars,fl,σ⟩=WK L d vars fl σ Q:=(rfl)
theorem aaK{d:IC}{s:St}:Wh L d Q .ret s=Q .ret s:=(rfl)
theorem aaL{d:IC}{s:St}{j:Nat}:Wh L d Q (.exit j) s=Q (.exit j) s:=(rfl)
theorem aaM{id:Nat}{s:St}:Out id Q .fm s=Q .fm s:=(rfl)
theorem aaN{id:Nat}{s:St}:Out id Q .ret s=Q .ret s:=(rfl)
theorem aaO{id j:Nat}{s:St}:Out id Q (.exit j) s=if j=id then Q .fm s else Q (.exit j) s:=(rfl)
theorem aaP{I:St->Prop}{μ:St->Nat}{m:Nat}{s:St}:yX I μ m Q .fm s=(I s/\μ s<m):=(rfl)
theorem aaQ{I:St->Prop}{μ:St->Nat}{m:Nat}{s:St}:yX I μ m Q .ret s=Q .ret s:=(rfl)
theorem aaR{I:St->Prop}{μ:St->Nat}{m j:Nat}{s:St}:yX I μ m Q (.exit j) s=Q (.exit j) s:=(rfl)
end
def gX (fn:Fn) (K:AV->List ag->Prop):Ex->St->Prop
 |.exit _,_=>False
 |_,s=>aP (results fn s) λv=>K v s.σ
theorem aaS{G:Nat->Option Fn}{P:ke}(hQ:dV P){f:Nat}(fn:Fn){args:List AV}{σ:List ag}{K:AV->List ag->Prop}(hq:P f=none) (hg:G f=some fn) (hl:args.length=fn.np)
  (h:WK (lim G P) fn.body (args++List.replicate (fn.nv-fn.np) .aM) none σ (gX fn K)):LX (lim G P) f args σ K:=by
 obtain⟨n,e,s,h1,h2⟩:=o6 h;cases e with
 |exit j=>exact h2.elim
 |fm=>obtain⟨v,h3,h4⟩:=kI h2;exact F0 (NM hQ hq hg hl h1 (λj=>by simp) h3) h4
 |ret=>obtain⟨v,h3,h4⟩:=kI h2;exact F0 (NM hQ hq hg hl h1 (λj=>by simp) h3) h4
attribute [simp ↓] wC qc bB yY rE
attribute [irreducible] WK
universe u
inductive Tk {α:Sort u} (a:α):Type
 |k
def nx (x:AV) (K:AV->Prop) (_:Tk K):Prop:=K x
def nL (l:List AV) (K:List AV->Prop) (_:Tk K):Prop:=K l
def nB (l:List ag) (K:List ag->Prop) (_:Tk K):Prop:=K l
def nC (l:List AV) (K:List AV->Prop) (_:Tk K):Prop:=K l
def oK{α:Type}(o:Option α) (K:α->Prop) (_:Tk K):Prop:=aP o K
def gT (b:Bool) (A B:Prop) (_:Tk A) (_:Tk B):Prop:=gK b A B
def im (p A:Prop) (_:Tk A):Prop:=p->A
def xK (l:List AV) (n:Int) (K:AV->Prop) (_:Tk K):Prop:=BY l n K
def lX (L:CE) (f:Nat) (args:List AV) (σ:List ag) (K:AV->List ag->Prop) (_:Tk K):Prop:=LX L f args σ K
def pT (cs:List AV) (off:Nat) (k:Option Nat) (K:AV->Prop) (_:Tk K):Prop:=aP (part cs off k) K
def pU (cs:List AV) (o:Nat) (new:List AV) (K:List AV->Prop) (_:Tk K):Prop:=yZ cs o new K
def bk (o:Option ag) (u:Nat) (K:Option Nat->List AV->eo->Prop) (_:Tk K):Prop:=
 match o with
 |some B=>(B.cells.length=u/\B.st.gw=true)/\K B.k B.cells B.st
 |none=>False
section
variable{K:AV->Prop}{t:Tk K}
theorem NT{n:Int}:nx (.int n) K t=K (.int n):=(rfl)
theorem F1{k:Nat}{n:Int}:nx (.ik k n) K t=K (.ik k n):=(rfl)
theorem NU{n:Bool}:nx (.bool n) K t=K (.bool n):=(rfl)
theorem NV{n:List UInt8}:nx (.str n) K t=K (.str n):=(rfl)
theorem NW{l:List AV}:nx (.agg l) K t=K (.agg l):=(rfl)
theorem NX{l:List AV}:nx (.bQ l) K t=K (.bQ l):=(rfl)
theorem NY:nx .ah K t=K .ah:=(rfl)
theorem NZ{q:Bool}{l:List AV}:nx (.aE q l) K t=K (.aE q l):=(rfl)
theorem N0{l:List AV}:nx (.arr l) K t=K (.arr l):=(rfl)
theorem F3{b u o n:Nat}:nx (.sl b u o n) K t=K (.sl b u o n):=(rfl)
theorem N1:nx .ig K t=K .ig:=(rfl)
theorem N2{v:AV}:nx (.bd v) K t=K (.bd v):=(rfl)
theorem N3{b u o:Nat}:nx (.ptr b u o) K t=K (.ptr b u o):=(rfl)
theorem N4:nx .kH K t=K .kH:=(rfl)
theorem N5{f:Nat}{l:List AV}:nx (.func f l) K t=K (.func f l):=(rfl)
theorem N6:nx .gQ K t=K .gQ:=(rfl)
theorem N7{n:Nat}{v:AV}:nx (.iface n v) K t=K (.iface n v):=(rfl)
theorem N8{b:Nat}:nx (.cM b) K t=K (.cM b):=(rfl)
theorem N9:nx .p7 K t=K .p7:=(rfl)
theorem Oa:nx .emp K t=K .emp:=(rfl)
theorem Ob:nx .aM K t=K .aM:=(rfl)
theorem aaT{x:AV}:nx x K t=K x:=(rfl)
theorem Oc{α:Type}{u:α}{K:α->Prop}{t:Tk K}:oK (some u) K t=K u:=(rfl)
theorem Od{α:Type}{K:α->Prop}{t:Tk K}:oK none K t=False:=(rfl)
end
theorem Oe{K:List AV->Prop}{t:Tk K}:nL [] K t=K []:=(rfl)
theorem Of{x:AV}{l:List AV}{K:List AV->Prop}{t:Tk K}:nL (x::l) K t=nx x (λy=>nL l (λl=>K (y::l)) .k) .k:=(rfl)
theorem aaU{l:List AV}{K:List AV->Prop}{t:Tk K}:nL l K t=K l:=(rfl)
theorem Og{K:List ag->Prop}{t:Tk K}:nB [] K t=K []:=(rfl)
theorem Oh{k:Option Nat}{cs:List AV}{st:eo}{l:List ag}{K:List ag->Prop}{t:Tk K}:nB (⟨k,cs,st⟩::l) K t=nB l (λl=>K (⟨k,cs,st⟩::l)) .k:=(rfl)
theorem aaV{l:List ag}{K:List ag->Prop}{t:Tk K}:nB l K t=K l:=(rfl)
theorem aaW{l:List AV}{K:List AV->Prop}{t:Tk K}:nC l K t=K l:=(rfl)
theorem Oi{A B:Prop}{t:Tk A}{u:Tk B}:gT true A B t u=A:=HY
theorem Oj{A B:Prop}{t:Tk A}{u:Tk B}:gT false A B t u=B:=HZ
theorem Ol{b:Bool}{A B:Prop}{t:Tk A}{u:Tk B}:gT (!b) A B t u=gT b B A u t:=by cases b<;>simp[gT,gK]
theorem aaX{b:Bool}{A B:Prop}{t:Tk A}{u:Tk B}:gT b A B t u=(im (b=true) A .k/\im (b=false) B .k):=(rfl)
theorem H0{p:Prop} [Decidable p]{A B:Prop}{t:Tk A}{u:Tk B}:gT (decide p) A B t u=(im p A .k/\im (¬p) B .k):=by
 by_cases h:p<;>simp[gT,gK,im,h]
theorem aaY{A:Prop}{t:Tk A}:im True A t=A:=by simp[im]
theorem aaZ{A:Prop}{t:Tk A}:im False A t=True:=by simp[im]
theorem aa0{p A:Prop}{t:Tk A}:im p A t=(p->A):=(rfl)
theorem Om{k:Option Nat}{cs:List AV}{u:Nat}{K:Option Nat->List AV->eo->Prop}{t:Tk K}:bk (some ⟨k,cs,.live⟩) u K t=(cs.length=u/\K k cs .live):=by simp[bk,eo.gw]
theorem On{k:Option Nat}{cs:List AV}{st:eo}{u:Nat}{K:Option Nat->List AV->eo->Prop}{t:Tk K}:bk (some ⟨k,cs,st⟩) u K t=((cs.length=u/\st.gw=true)/\K k cs st):=(rfl)
theorem uE{σ:List ag}{b u:Nat}{K:ag->Prop}:aP (upto σ b u) K=bk (ak σ b) u (λk cs st=>K ⟨k,cs,st⟩) .k:=by
 unfold upto bk;cases ak σ b with
 |none=>rfl
 |some B=>
  obtain⟨k,cs,st⟩:=B
  by_cases h:cs.length=u<;>cases st<;>simp[h,aP,eo.gw]
@[reducible] def gY {α β:Type} (f:α->β):List α->List β
 | []=>[]
 |x::r=>f x::gY f r
theorem iB{α β:Type}(f:α->β):∀l:List α,l.map f=gY f l
 | []=>rfl
 |x::r=>by simp[gY,iB f r]
@[reducible] def gI {α:Type}:List α->List α->List α
 | [],m=>m
 |x::r,m=>x::gI r m
theorem gh{α:Type}:∀l m:List α,l++m=gI l m
 | [],m=>rfl
 |x::r,m=>by simp[gI,gh r m]
@[reducible] def vC:Nat->List AV->List AV
 |0,_=>[]
 |_,[]=>[]
 |n+1,x::r=>x::vC n r
theorem Oo:∀(n:Nat) (l:List AV),l.take n=vC n l
 |0,l=>by cases l<;>rfl
 |n+1,[]=>rfl
 |n+1,x::r=>by simp[vC,Oo n r]
@[reducible] def vD:Nat->List AV->List AV
 |0,l=>l
 |_,[]=>[]
 |n+1,_::r=>vD n r
theorem Oq:∀(n:Nat) (l:List AV),l.drop n=vD n l
 |0,l=>by cases l<;>rfl
 |n+1,[]=>rfl
 |n+1,x::r=>by simp[vD,Oq n r]
theorem aa1{cs:List AV}{off:Nat}{K:AV->Prop}{t:Tk K}:pT cs off none K t=oK (oP cs off) K .k:=(rfl)
theorem aa2{cs:List AV}{off n:Nat}{K:AV->Prop}{t:Tk K}:pT cs off (some n) K t=(off+n<=cs.length/\nL (vC n (vD off cs)) (λl=>K (.agg l)) .k):=by
 unfold pT part;rw[<-Oo,<-Oq]
 by_cases h:off+n<=cs.length<;>simp[h,aP,nL]
section
variable{L:CE}{vars env:List AV}{az σ:List ag}{K:List AV->List ag->List ag->Prop}
def ii (x y:AV) (K:Int->Int->Prop):Prop:=match x,y with
 |.int a,.int b=>K a b
 |_,_=>False
theorem aa3{a b:Int}{K:Int->Int->Prop}:ii (.int a) (.int b) K=K a b:=(rfl)
def bb (x y:AV) (K:Bool->Bool->Prop):Prop:=match x,y with
 |.bool a,.bool b=>K a b
 |_,_=>False
theorem aa4{a b:Bool}{K:Bool->Bool->Prop}:bb (.bool a) (.bool b) K=K a b:=(rfl)
def b1 (x:AV) (K:Bool->Prop):Prop:=match x with
 |.bool a=>K a
 |_=>False
theorem aa5{a:Bool}{K:Bool->Prop}:b1 (.bool a) K=K a:=(rfl)
def F4 (x:AV) (K:Int->Prop):Prop:=match x with
 |.ah=>K 0
 |.emp=>K 0
 |.aE _ l=>K l.length
 |.sl _ _ _ n=>K n
 |_=>False
theorem aa6{K:Int->Prop}:F4 .ah K=K 0:=(rfl)
theorem aa7{K:Int->Prop}:F4 .emp K=K 0:=(rfl)
theorem aa8{q:Bool}{l:List AV}{K:Int->Prop}:F4 (.aE q l) K=K l.length:=(rfl)
theorem aa9{b u o n:Nat}{K:Int->Prop}:F4 (.sl b u o n) K=K n:=(rfl)
def Ot (x:AV) (off:Nat) (k:Option Nat) (K:AV->Prop):Prop:=match x with
 |.ptr b u o=>K (.ptr b u (o+off))
 |.bd v=>pT v.cells off k (λy=>K (.bd y)) .k
 |_=>False
theorem aba{b u o off:Nat}{k:Option Nat}{K:AV->Prop}:Ot (.ptr b u o) off k K=K (.ptr b u (o+off)):=(rfl)
theorem abb{v:AV}{off:Nat}{k:Option Nat}{K:AV->Prop}:Ot (.bd v) off k K=pT v.cells off k (λy=>K (.bd y)) .k:=(rfl)
def Ou (x:AV) (K:AV->Prop):Prop:=match x with
 |.ptr b u o=>K (.ptr b u o)
 |.bd v=>K (.bd v)
 |_=>False
theorem abc{b u o:Nat}{K:AV->Prop}:Ou (.ptr b u o) K=K (.ptr b u o):=(rfl)
theorem abd{v:AV}{K:AV->Prop}:Ou (.bd v) K=K (.bd v):=(rfl)
def sb (x:AV) (k:Option Nat) (K:AV->Prop):Prop:=match x with
 |.bd v=>match k,v with
  |none,.agg _=>False
  |none,v=>K v
  |some n,.agg l=>l.length=n/\K (.agg l)
  |some _,_=>False
 |_=>False
theorem abe{n:Int}{K:AV->Prop}:sb (.bd (.int n)) none K=K (.int n):=(rfl)
theorem abf{n:Bool}{K:AV->Prop}:sb (.bd (.bool n)) none K=K (.bool n):=(rfl)
theorem abg{n:List UInt8}{K:AV->Prop}:sb (.bd (.str n)) none K=K (.str n):=(rfl)
theorem abh{q:Bool}{l:List AV}{K:AV->Prop}:sb (.bd (.aE q l)) none K=K (.aE q l):=(rfl)
theorem abi{K:AV->Prop}:sb (.bd .ah) none K=K .ah:=(rfl)
theorem abj{v:AV}{K:AV->Prop}:sb (.bd (.bd v)) none K=K (.bd v):=(rfl)
theorem abk{f:Nat}{l:List AV}{K:AV->Prop}:sb (.bd (.func f l)) none K=K (.func f l):=(rfl)
theorem abl{f:Nat}{l:AV}{K:AV->Prop}:sb (.bd (.iface f l)) none K=K (.iface f l):=(rfl)
theorem abm{n:Nat}{l:List AV}{K:AV->Prop}:sb (.bd (.agg l)) (some n) K=(l.length=n/\K (.agg l)):=(rfl)
def fl1 (x:AV) (off:Nat) (k:Option Nat) (K:AV->Prop):Prop:=match x with
 |.agg l=>pT l off k K .k
 |_=>False
theorem abn{l:List AV}{off:Nat}{k:Option Nat}{K:AV->Prop}:fl1 (.agg l) off k K=pT l off k K .k:=(rfl)
def Wi (x:AV) (i:Nat) (K:AV->Prop):Prop:=match x with
 |.bQ l=>oK (oP l i) K .k
 |_=>False
theorem abo{l:List AV}{i:Nat}{K:AV->Prop}:Wi (.bQ l) i K=oK (oP l i) K .k:=(rfl)
def sc (σ:List ag) (x:AV) (K:Bool->Prop):Prop:=match x with
 |.ah=>K true
 |.aE true _=>K false
 |.aE false (_::_)=>K false
 |.sl b u _ _=>aP (upto σ b u) λB=>match B.st with
  |.live=>K false
  |_=>False
 |_=>False
theorem abp{K:Bool->Prop}:sc σ .ah K=K true:=(rfl)
theorem abq{l:List AV}{K:Bool->Prop}:sc σ (.aE true l) K=K false:=(rfl)
theorem abr{x:AV}{l:List AV}{K:Bool->Prop}:sc σ (.aE false (x::l)) K=K false:=(rfl)
theorem abt{b u o n:Nat}{K:Bool->Prop}:sc σ (.sl b u o n) K=bk (ak σ b) u (λ_ _ st=>st = .live/\K false) .k:=by
 show aP (upto σ b u) _=_;rw[show(λB:ag=>match B.st with | .live=>K false|_=>False)=λB=>B.st = .live/\K false from by funext B;cases B.st<;>simp,uE]
def Wj (x i:AV) (st:Nat) (K:AV->Prop):Prop:=match x,i with
 |.aE _ l,.int n=>xK l n (λy=>y.cells.length=st/\K (.bd y)) .k
 |.sl b u off len,.int n=>bB (0<=n/\n<len) (K (.ptr b u (off+n.toNat*st)))
 |_,_=>False
theorem abu{q:Bool}{l:List AV}{n:Int}{st:Nat}{K:AV->Prop}:Wj (.aE q l) (.int n) st K=xK l n (λy=>y.cells.length=st/\K (.bd y)) .k:=(rfl)
theorem abv{b u off len:Nat}{n:Int}{st:Nat}{K:AV->Prop}:Wj (.sl b u off len) (.int n) st K=bB (0<=n/\n<len) (K (.ptr b u (off+n.toNat*st))):=(rfl)
def Wk (x i:AV) (n:Nat) (k:Option Nat) (K:AV->Prop):Prop:=match x,i with
 |.ptr b u o,.int j=>bB (0<=j/\j<n) (K (.ptr b u (o+j.toNat*aC k)))
 |.bd v,.int j=>bB (0<=j/\j<n) (pT v.cells (j.toNat*aC k) k (λy=>K (.bd y)) .k)
 |_,_=>False
theorem abw{b u o n:Nat}{j:Int}{k:Option Nat}{K:AV->Prop}:Wk (.ptr b u o) (.int j) n k K=bB (0<=j/\j<n) (K (.ptr b u (o+j.toNat*aC k))):=(rfl)
theorem abx{v:AV}{n:Nat}{j:Int}{k:Option Nat}{K:AV->Prop}:Wk (.bd v) (.int j) n k K=bB (0<=j/\j<n) (pT v.cells (j.toNat*aC k) k (λy=>K (.bd y)) .k):=(rfl)
def Ov (x:AV) (K:Nat->List AV->Prop):Prop:=match x with
 |.func f aI=>K f aI
 |_=>False
theorem aby{f:Nat}{aI:List AV}{K:Nat->List AV->Prop}:Ov (.func f aI) K=K f aI:=(rfl)
def Wl (x:AV) (gB:List (Nat×Nat)) (K:Nat->AV->Prop):Prop:=match x with
 |.iface t v=>match eK gB t with
  |some f=>K f v
  |none=>False
 |_=>False
theorem abz{t:Nat}{v:AV}{gB:List (Nat×Nat)}{K:Nat->AV->Prop}:Wl (.iface t v) gB K=oK (eK gB t) (λf=>K f v) .k:=by cases h:eK gB t<;>simp[Wl,h,oK,aP]
def i1 (x:AV) (K:Int->Prop):Prop:=match x with
 |.int a=>K a
 |.ik _ a=>K a
 |_=>False
theorem abA{a:Int}{K:Int->Prop}:i1 (.int a) K=K a:=(rfl)
theorem F5{k:Nat}{a:Int}{K:Int->Prop}:i1 (.ik k a) K=K a:=(rfl)
def st1 (σ:List ag) (p x:AV) (n:Nat) (K:List ag->Prop):Prop:=match p with
 |.ptr b u o=>aP (upto σ b u) λB=>(x.cells.length=n/\B.st.isLive=true/\bz x=true)/\yZ B.cells o x.cells λcs=>K (ay σ b ⟨B.k,cs,B.st⟩)
 |_=>False
theorem abB{b u o n:Nat}{x:AV}{K:List ag->Prop}:st1 σ (.ptr b u o) x n K=bk (ak σ b) u (λk cs st=>(x.cells.length=n/\st.isLive=true/\bz x=true)/\pU cs o x.cells (λcs=>nC cs (λcs=>nB (ay σ b ⟨k,cs,st⟩) K .k) .k) .k) .k:=uE
theorem abC{x:Rf}:cm L vars (.mv x) false env az σ K=K (rv vars env x::env) az σ:=(rfl)
theorem abD{o:BG}{x y:Rf}:cm L vars (.bin o x y) false env az σ K=ii (rv vars env x) (rv vars env y) λa b=>wC o a b λv=>K (v::env) az σ:=(rfl)
theorem abE{n:Bool}{x y:Rf}:cm L vars (.beq n x y) false env az σ K=bb (rv vars env x) (rv vars env y) λa b=>K (.bool ((a==b) != n)::env) az σ:=by
 show aP (ev L σ σ.length [] (rv vars env) (.beq n x y)) _=_;simp only[ev,bb];generalize rv vars env x=p;generalize rv vars env y=q;cases p<;>cases q<;>rfl
theorem abF{x:Rf}:cm L vars (.not x) false env az σ K=b1 (rv vars env x) λa=>K (.bool (!a)::env) az σ:=by
 show aP (ev L σ σ.length [] (rv vars env) (.not x)) _=_;simp only[ev,b1];generalize rv vars env x=p;cases p<;>rfl
theorem abG{c x y:Rf}:cm L vars (.pick c x y) false env az σ K=b1 (rv vars env c) λa=>K ((match a with|true=>rv vars env x|false=>rv vars env y)::env) az σ:=by
 show aP (ev L σ σ.length [] (rv vars env) (.pick c x y)) _=_;simp only[ev,b1];cases h:rv vars env c with
 |bool b=>cases b<;>rfl
 |_=>rfl
theorem abH{x:Rf}:cm L vars (.len x) false env az σ K=F4 (rv vars env x) λa=>K (.int a::env) az σ:=by
 show aP (ev L σ σ.length [] (rv vars env) (.len x)) _=_;simp only[ev,F4];generalize rv vars env x=p;cases p<;>rfl
theorem abI{x y:Rf}:cm L vars (.mx true x y) false env az σ K=ii (rv vars env x) (rv vars env y) λa b=>K (.int (max a b)::env) az σ:=by
 show aP (ev L σ σ.length [] (rv vars env) (.mx true x y)) _=_;simp only[ev,ii];generalize rv vars env x=p;generalize rv vars env y=q;cases p<;>cases q<;>try rfl
 rename_i a b;show K (.int (if a<b then b else a)::env) az σ=K (.int (max a b)::env) az σ
 rw[show(if a<b then b else a)=max a b by rw[Int.max_def];split<;>split<;>omega]
theorem abJ{x y:Rf}:cm L vars (.mx false x y) false env az σ K=ii (rv vars env x) (rv vars env y) λa b=>K (.int (min a b)::env) az σ:=by
 show aP (ev L σ σ.length [] (rv vars env) (.mx false x y)) _=_;simp only[ev,ii];generalize rv vars env x=p;generalize rv vars env y=q;cases p<;>cases q<;>try rfl
 rename_i a b;show K (.int (if b<a then b else a)::env) az σ=K (.int (min a b)::env) az σ
 rw[show(if b<a then b else a)=min a b by rw[Int.min_def];split<;>split<;>omega]
theorem abK{x:Rf}{off:Nat}{k:Option Nat}:cm L vars (.b5 x off k) false env az σ K=Ot (rv vars env x) off k λa=>K (a::env) az σ:=by
 show aP (ev L σ σ.length [] (rv vars env) (.b5 x off k)) _=_;simp only[ev,Ot];generalize rv vars env x=p;cases p<;>try rfl
 rename_i v;dsimp only[pT];cases part v.cells off k<;>rfl
theorem abL{x i:Rf}{st:Nat}:cm L vars (.bU x i st) false env az σ K=Wj (rv vars env x) (rv vars env i) st λv=>K (v::env) az σ:=(rfl)
theorem abM{x i:Rf}{n:Nat}{k:Option Nat}:cm L vars (.fS x i n k) false env az σ K=Wk (rv vars env x) (rv vars env i) n k λv=>K (v::env) az σ:=(rfl)
theorem abN{x:Rf}:cm L vars (.oO x) false env az σ K=Ou (rv vars env x) λa=>K (a::env) az σ:=by
 show aP (ev L σ σ.length [] (rv vars env) (.oO x)) _=_;simp only[ev,Ou];generalize rv vars env x=p;cases p<;>rfl
theorem o7{α:Type}{c:Prop} [Decidable c]{x:α}{K:α->Prop}:aP (if c then some x else none) K=bB c (K x):=by
 by_cases h:c<;>simp[h,aP,bB]
theorem abO{x:Rf}:cm L vars (.iD x) false env az σ K=bB (aN (rv vars env x)=true) (K (.bd (rv vars env x)::env) az σ):=by
 show aP (ev L σ σ.length [] (rv vars env) (.iD x)) _=_;simp only[ev,o7,dT]
theorem abP{n:Nat}:cm L vars (.gn n) false env az σ K=K (.aM::env) az σ:=(rfl)
theorem abQ{p x:Rf}{n:Nat}:cm L vars (.ku p x n) false env az σ K=bB (aN (rv vars env x)=true/\(rv vars env x).cells.length=n) (K (.bd (rv vars env x)::env) az σ):=by
 show aP (ev L σ σ.length [] (rv vars env) (.ku p x n)) _=_;simp only[ev,o7,dT,aD,cL]
theorem abR{z:List AV}{ps:List (Nat×Nat×Rf)}:cm L vars (.jI z ps) false env az σ K=aP (gS z (ps.map λp=>(p.1,p.2.1,rv vars env p.2.2))) λl=>K (.agg l::env) az σ:=by
 show aP (ev L σ σ.length [] (rv vars env) (.jI z ps)) _=_;simp only[ev];cases gS z (ps.map λp=>(p.1,p.2.1,rv vars env p.2.2))<;>rfl
theorem abS{x:Rf}{i:Nat}:cm L vars (.ext x i) false env az σ K=Wi (rv vars env x) i λa=>K (a::env) az σ:=by
 show aP (ev L σ σ.length [] (rv vars env) (.ext x i)) _=_;simp only[ev,Wi];generalize rv vars env x=p;cases p<;>try rfl
 rename_i l;dsimp only[oK];cases oP l i<;>rfl
theorem abT{f:Nat}{cs:List Rf}:cm L vars (.BH f cs) false env az σ K=K (.func f (cs.map (rv vars env))::env) az σ:=(rfl)
theorem abU{t:Nat}{x:Rf}:cm L vars (.KU t x) false env az σ K=K (.iface t (rv vars env x)::env) az σ:=(rfl)
theorem abV{ps:List Rf}{st:Nat}:cm L vars (.bX ps st) false env az σ K=bB (ax (ps.map (rv vars env))=true/\fitAll st (ps.map (rv vars env))=true) (K (.aE false (ps.map (rv vars env))::env) az σ):=by
 show aP (ev L σ σ.length [] (rv vars env) (.bX ps st)) _=_;simp only[ev,o7,dT,aD]
theorem abW{ps:List Rf}{st:Nat}:cm L vars (.dI ps st) false env az σ K=bB (fitAll st (ps.map (rv vars env))=true) (K (.arr (ps.map (rv vars env))::env) az σ):=by
 show aP (ev L σ σ.length [] (rv vars env) (.dI ps st)) _=_;simp only[ev,o7,dT]
theorem abX{f:Nat}{args:List Rf}:cm L vars (.cu f args) false env az σ K=rE L f (args.map (rv vars env)) λv=>K (v::env) az σ:=(rfl)
theorem abY{x:Rf}{args:List Rf}:cm L vars (.lD x args) false env az σ K=Ov (rv vars env x) λf aI=>rE L f (args.map (rv vars env)++aI) λv=>K (v::env) az σ:=(rfl)
theorem abZ{x:Rf}{gB:List (Nat×Nat)}{args:List Rf}:cm L vars (.inv x gB args) false env az σ K=Wl (rv vars env x) gB λf v=>rE L f (v::args.map (rv vars env)) λv=>K (v::env) az σ:=(rfl)
theorem ab0{n:Bool}{x:Rf}:cm L vars (.nK n x) false env az σ K=sc σ (rv vars env x) λa=>K (.bool (a != n)::env) az σ:=by
 show aP (ev L σ σ.length [] (rv vars env) (.nK n x)) _=_;cases h:rv vars env x with
 |ah=>simp[ev,h,sc,aP,dT]
 |aE q l=>
  cases q with
  |true=>simp[ev,h,sc,aP,dT]
  |false=>cases l<;>simp[ev,h,sc,aP,dT]
 |sl b u o n=>
  simp only[ev,h,sc];cases upto σ b u with
  |none=>rfl
  |some B=>obtain⟨q,cs,st⟩:=B;cases st<;>simp[aP,dT]
 |_=>simp[ev,h,sc,aP]
theorem ab1{n:Bool}{x:Rf}:cm L vars (.nK n x) true env az σ K=sc az (rv vars env x) λa=>K (.bool (a != n)::env) az σ:=by
 show aP (ev L az σ.length [] (rv vars env) (.nK n x)) _=_;cases h:rv vars env x with
 |ah=>simp[ev,h,sc,aP,dT]
 |aE q l=>
  cases q with
  |true=>simp[ev,h,sc,aP,dT]
  |false=>cases l<;>simp[ev,h,sc,aP,dT]
 |sl b u o n=>
  simp only[ev,h,sc];cases upto az b u with
  |none=>rfl
  |some B=>obtain⟨q,cs,st⟩:=B;cases st<;>simp[aP,dT]
 |_=>simp[ev,h,sc,aP]
theorem ab2{x:Rf}{k:Option Nat}:cm L vars (.cg x k) false env az σ K=sb (rv vars env x) k λa=>K (a::env) az σ:=by
 show aP (ev L σ σ.length [] (rv vars env) (.cg x k)) _=_;simp only[ev,sb];generalize rv vars env x=p;cases p<;>try rfl
 rename_i v;cases k with
 |none=>cases v<;>rfl
 |some n=>
  cases v with
  |agg l=>by_cases h:l.length=n<;>simp[h,aP,dT]
  |_=>rfl
def ld1 (σ:List ag) (x:AV) (k:Option Nat) (K:AV->Prop):Prop:=match x with
 |.bd v=>sb (.bd v) k K
 |.ptr b u o=>aP (upto σ b u) λB=>B.st.isLive=true/\yY B.cells o k K
 |_=>False
theorem ab3{x:Rf}{k:Option Nat}:cm L vars (.ld x k) false env az σ K=ld1 σ (rv vars env x) k λa=>K (a::env) az σ:=by
 show qd L σ σ.length (rv vars env) (.ld x k) _=_;cases h:rv vars env x with
 |bd v=>cases k<;>cases v<;>simp[qd,h,ld1,sb,dT]
 |ptr b u o=>simp[qd,h,ld1,dT]
 |_=>simp[qd,h,ld1]
theorem ab4{x:Rf}{k:Option Nat}:cm L vars (.ld x k) true env az σ K=ld1 az (rv vars env x) k λa=>K (a::env) az σ:=by
 show qd L az σ.length (rv vars env) (.ld x k) _=_;cases h:rv vars env x with
 |bd v=>cases k<;>cases v<;>simp[qd,h,ld1,sb,dT]
 |ptr b u o=>simp[qd,h,ld1,dT]
 |_=>simp[qd,h,ld1]
theorem ab5{x:Rf}:cm L vars (.FT x) false env az σ K=i1 (rv vars env x) λn=>qc n λv=>K (v::env) az σ:=(rfl)
def sl1 (σ:List ag) (x:AV) (a:Int) (b:Option Int) (st:Nat) (K:AV->Prop):Prop:=match x with
 |.aE nn l=>bB ((0<=a/\a<=b.getD l.length/\b.getD l.length<=l.length)/\gd st l=true) (K (.aE (nn&&decide (0<l.length)) ((l.drop a.toNat).take ((b.getD l.length).toNat-a.toNat))))
 |.sl b' u off len=>aP (upto σ b' u) λB=>bB ((0<=a/\a<=b.getD len/\b.getD len<=len)/\aC B.k=st) (K (.sl b' u (off+a.toNat*st) ((b.getD len).toNat-a.toNat)))
 |_=>False
theorem ab6{x:Rf}{lo hi:Option Rf}{st:Nat}:cm L vars (.pK x lo hi st) false env az σ K=aP (tR (rv vars env) lo) λa=>aP (tS (rv vars env) hi) λb=>sl1 σ (rv vars env x) a b st λv=>K (v::env) az σ:=by
 show qd L σ σ.length (rv vars env) (.pK x lo hi st) _=_;unfold qd;simp only;cases tR (rv vars env) lo with
 |none=>rfl
 |some a=>cases tS (rv vars env) hi with
  |none=>rfl
  |some b=>rfl
theorem ab7{x:Rf}{lo hi:Option Rf}{st:Nat}:cm L vars (.pK x lo hi st) true env az σ K=aP (tR (rv vars env) lo) λa=>aP (tS (rv vars env) hi) λb=>sl1 az (rv vars env x) a b st λv=>K (v::env) az σ:=by
 show qd L az σ.length (rv vars env) (.pK x lo hi st) _=_;unfold qd;simp only;cases tR (rv vars env) lo with
 |none=>rfl
 |some a=>cases tS (rv vars env) hi with
  |none=>rfl
  |some b=>rfl
theorem ab8{f:Nat}{args:List Rf}:cm L vars (.tO f args) false env az σ K=aP (bV (λx=>view σ false vd (rv vars env x)) args) λvs=>LX L f vs [] λv bp =>aP (cv bp true v) λu=>K (u::env) az σ:=(rfl)
theorem ab9{f:Nat}{args:List Rf}:cm L vars (.tO f args) true env az σ K=aP (bV (λx=>view az false vd (rv vars env x)) args) λvs=>LX L f vs [] λv bp =>aP (cv bp true v) λu=>K (u::env) az σ:=(rfl)
theorem aca{f:Nat}{args:List Rf}:cm L vars (.can f args) false env az σ K=bB (ax (args.map (rv vars env))=true) (LX L f (args.map (rv vars env)) [] λv bp =>K (jx σ.length v::env) σ (σ++bp.map (gM σ.length))):=(rfl)
theorem acb{x:Rf}{k:Option Nat}:cm L vars (.u9 x k) false env az σ K=bB ((rv vars env x).cells.length=aC k/\bz (rv vars env x)=true) (K (.ptr σ.length (aC k) 0::env) σ (σ ++ [⟨k,(rv vars env x).cells,.live⟩])):=by
 show aP (ev L σ σ.length [] (rv vars env) (.u9 x k)) _=_;simp only[ev,o7,dT,fT,aD,cL]
theorem acd{z:List AV}{k:Option Nat}:cm L vars (.ox z k) false env az σ K=bB (z.length=aC k) (K (.ptr σ.length (aC k) 0::env) σ (σ ++ [⟨k,z,.live⟩])):=by
 show aP (ev L σ σ.length [] (rv vars env) (.ox z k)) _=_;simp only[ev,o7,dT,fT,cL]
theorem ace{n c:Rf}{z:List AV}{k:Option Nat}:cm L vars (.jT n c z k) false env az σ K=ii (rv vars env n) (rv vars env c) λn c=>bB (0<=n/\n<=c/\c<=dE/\z.length=aC k) (K (.sl σ.length (eH c.toNat z).length 0 n.toNat::env) σ (σ ++ [⟨k,eH c.toNat z,.live⟩])):=(rfl)
theorem acf{ps:List Rf}{k:Option Nat}:cm L vars (.mw ps k) false env az σ K=bB (fitAll (aC k) (ps.map (rv vars env))=true) (K (.sl σ.length ((ps.map (rv vars env)).flatMap AV.cells).length 0 ps.length::env) σ (σ ++ [⟨k,(ps.map (rv vars env)).flatMap AV.cells,.live⟩])):=by
 show aP (ev L σ σ.length [] (rv vars env) (.mw ps k)) _=_;simp only[ev,o7,dT,fT]
theorem acg{k:Option Nat}:cm L vars (.nl k) false env az σ K=K (.sl σ.length 0 0 0::env) σ (σ ++ [⟨k,[],.jN⟩]):=(rfl)
def Wm (σ:List ag) (s:AV) (k:Option Nat) (n:Nat) (cs:List AV) (K:AV->List ag->Prop):Prop:=match s with
 |.sl b u off len=>aP (upto σ b u) λB=>bB (off=0/\u=len*aC k/\len+n<=dE/\tQ B.k k=true) ((n=0->K (.sl b u off len) σ)/\(n ≠ 0->cs.length ≠ 0/\K (.sl b (u+cs.length) 0 (len+n)) (sL σ b cs)))
 |.ah=>(n=0->K .ah σ)/\(n ≠ 0->n<=dE/\K (.sl σ.length cs.length 0 n) (σ ++ [⟨k,cs,.live⟩]))
 |.emp=>(n=0->K .emp σ)/\(n ≠ 0->n<=dE/\K (.sl σ.length cs.length 0 n) (σ ++ [⟨k,cs,.live⟩]))
 |.arr l=>(n=0->K (if ax l then .aE true l else .arr l) σ)/\(n ≠ 0->(fitAll (aC k) l=true/\l.length+n<=dE)/\K (.sl σ.length (l.flatMap AV.cells++cs).length 0 (l.length+n)) (σ ++ [⟨k,l.flatMap AV.cells++cs,.live⟩]))
 |_=>False
theorem ach{b u off len:Nat}{k:Option Nat}{n:Nat}{cs:List AV}{K:AV->List ag->Prop}:Wm σ (.sl b u off len) k n cs K=aP (upto σ b u) λB=>bB (off=0/\u=len*aC k/\len+n<=dE/\tQ B.k k=true) ((n=0->K (.sl b u off len) σ)/\(n ≠ 0->cs.length ≠ 0/\K (.sl b (u+cs.length) 0 (len+n)) (sL σ b cs))):=(rfl)
theorem aci{s x:Rf}{k:Option Nat}:cm L vars (.app s x k) false env az σ K=aP (aG σ k (rv vars env x)) λp=>Wm σ (rv vars env s) k p.1 p.2 λv τ=>K (v::env) σ τ:=by
 show qd L σ σ.length (rv vars env) (.app s x k) _=_;unfold qd;simp only;cases aG σ k (rv vars env x)with
 |none=>rfl
 |some p=>
  obtain⟨n,cs⟩:=p;cases h:rv vars env s<;>rfl
theorem acj{p x:Rf}{n:Nat}:cm L vars (.st p x n) false env az σ K=st1 σ (rv vars env p) (rv vars env x) n λτ=>K (.aM::env) [] τ:=(rfl)
def Wn (σ:List ag) (s:AV) (k:Option Nat) (n:Nat) (cs:List AV) (K:AV->List ag->Prop):Prop:=match s with
 |.sl b u off len=>aP (upto σ b u) λB=>bB (off=0/\len+n<=dE/\tQ B.k k=true/\(n ≠ 0->cs.length ≠ 0)) ((n=0->K (.sl b u off len) σ)/\(n ≠ 0->u=len*aC k->K (.sl b (u+cs.length) 0 (len+n)) (ay σ b ⟨B.k,B.cells++cs,.live⟩))/\(n ≠ 0->u ≠ len*aC k->(len+n)*aC k<=u/\K (.sl b u 0 (len+n)) (ay σ b ⟨B.k,putAt B.cells (len*aC k) cs,B.st⟩)))
 |.ah=>(n=0->K .ah σ)/\(n ≠ 0->n<=dE/\K (.sl σ.length cs.length 0 n) (σ ++ [⟨k,cs,.live⟩]))
 |.emp=>(n=0->K .emp σ)/\(n ≠ 0->n<=dE/\K (.sl σ.length cs.length 0 n) (σ ++ [⟨k,cs,.live⟩]))
 |.arr l=>(n=0->K (if ax l then .aE true l else .arr l) σ)/\(n ≠ 0->(fitAll (aC k) l=true/\l.length+n<=dE)/\K (.sl σ.length (l.flatMap AV.cells++cs).length 0 (l.length+n)) (σ ++ [⟨k,l.flatMap AV.cells++cs,.live⟩]))
 |_=>False
theorem ack{b u off len:Nat}{k:Option Nat}{n:Nat}{cs:List AV}{K:AV->List ag->Prop}:Wn σ (.sl b u off len) k n cs K=aP (upto σ b u) λB=>bB (off=0/\len+n<=dE/\tQ B.k k=true/\(n ≠ 0->cs.length ≠ 0)) ((n=0->K (.sl b u off len) σ)/\(n ≠ 0->u=len*aC k->K (.sl b (u+cs.length) 0 (len+n)) (ay σ b ⟨B.k,B.cells++cs,.live⟩))/\(n ≠ 0->u ≠ len*aC k->(len+n)*aC k<=u/\K (.sl b u 0 (len+n)) (ay σ b ⟨B.k,putAt B.cells (len*aC k) cs,B.st⟩))):=(rfl)
theorem acm{s x:Rf}{k:Option Nat}:cm L vars (.dm s x k) false env az σ K=aP (aG σ k (rv vars env x)) λp=>Wn σ (rv vars env s) k p.1 p.2 λv τ=>K (v::env) [] τ:=by
 show y4 L σ (rv vars env) (.dm s x k) (λv bp =>K (v::env) [] bp)=_;unfold y4;simp only;cases aG σ k (rv vars env x)with
 |none=>rfl
 |some p=>
  obtain⟨n,cs⟩:=p;cases h:rv vars env s<;>rfl
theorem acn{f:Nat}{args:List Rf}:cm L vars (.fF f args) false env az σ K=LX L f (args.map (rv vars env)) σ λv τ=>K (v::env) [] τ:=(rfl)
theorem aco{x:Rf}{args:List Rf}:cm L vars (.kT x args) false env az σ K=Ov (rv vars env x) λf aI=>LX L f (args.map (rv vars env)++aI) σ λv τ=>K (v::env) [] τ:=(rfl)
end
section
variable{L:CE}{vars env:List AV}{az σ:List ag}{K:List AV->List ag->List ag->Prop}
theorem acp{x:Rf}:cm L vars (.mv x) false env az σ K=nx (rv vars env x) (λv=>K (v::env) az σ) .k:=abC
theorem Ow{o:BG}{x y:Rf}:cm L vars (.bin o x y) false env az σ K=nx (rv vars env x) (λx=>nx (rv vars env y) (λy=>ii x y λa b=>wC o a b λv=>K (v::env) az σ) .k) .k:=abD
theorem Ox{n:Bool}{x y:Rf}:cm L vars (.beq n x y) false env az σ K=nx (rv vars env x) (λx=>nx (rv vars env y) (λy=>bb x y λa b=>K (.bool ((a==b) != n)::env) az σ) .k) .k:=abE
theorem Oy{x:Rf}:cm L vars (.not x) false env az σ K=nx (rv vars env x) (λx=>b1 x λa=>K (.bool (!a)::env) az σ) .k:=abF
def pk (b:Bool) (x y:AV):AV:=match b with
 |true=>x
 |false=>y
theorem acq{x y:AV}:pk true x y=x:=(rfl)
theorem acr{x y:AV}:pk false x y=y:=(rfl)
theorem acs{b:Bool}{x y:Int}:pk b (.int x) (.int y) = .int (if b=true then x else y):=by cases b<;>rfl
theorem acu{b:Bool}{x y:Bool}:pk b (.bool x) (.bool y) = .bool (if b=true then x else y):=by cases b<;>rfl
def pq (b:Bool) (x y:AV) (K:AV->Prop) (_:Tk K):Prop:=K (pk b x y)
theorem Oz{x y:AV}{K:AV->Prop}{t:Tk K}:pq true x y K t=nx x K .k:=(rfl)
theorem OA{x y:AV}{K:AV->Prop}{t:Tk K}:pq false x y K t=nx y K .k:=(rfl)
theorem OB{b:Bool}{x y:Int}{K:AV->Prop}{t:Tk K}:pq b (.int x) (.int y) K t=K (.int (if b=true then x else y)):=by unfold pq;rw[acs]
theorem OC{b:Bool}{x y:Bool}{K:AV->Prop}{t:Tk K}:pq b (.bool x) (.bool y) K t=K (.bool (if b=true then x else y)):=by unfold pq;rw[acu]
theorem acv{b:Bool}{x y:AV}{K:AV->Prop}{t:Tk K}:pq b x y K t=K (pk b x y):=(rfl)
theorem acw{c x y:Rf}:cm L vars (.pick c x y) false env az σ K=nx (rv vars env c) (λc=>b1 c λa=>pq a (rv vars env x) (rv vars env y) (λv=>K (v::env) az σ) .k) .k:=abG
theorem OD{x:Rf}:cm L vars (.len x) false env az σ K=nx (rv vars env x) (λx=>F4 x λa=>K (.int a::env) az σ) .k:=abH
theorem OE{x y:Rf}:cm L vars (.mx true x y) false env az σ K=nx (rv vars env x) (λx=>nx (rv vars env y) (λy=>ii x y λa b=>K (.int (max a b)::env) az σ) .k) .k:=abI
theorem OF{x y:Rf}:cm L vars (.mx false x y) false env az σ K=nx (rv vars env x) (λx=>nx (rv vars env y) (λy=>ii x y λa b=>K (.int (min a b)::env) az σ) .k) .k:=abJ
theorem OG{x:Rf}{off:Nat}{k:Option Nat}:cm L vars (.b5 x off k) false env az σ K=nx (rv vars env x) (λx=>Ot x off k λa=>K (a::env) az σ) .k:=abK
theorem OH{x i:Rf}{st:Nat}:cm L vars (.bU x i st) false env az σ K=nx (rv vars env x) (λx=>nx (rv vars env i) (λi=>Wj x i st λv=>K (v::env) az σ) .k) .k:=abL
theorem acx{x i:Rf}{n:Nat}{k:Option Nat}:cm L vars (.fS x i n k) false env az σ K=nx (rv vars env x) (λx=>nx (rv vars env i) (λi=>Wk x i n k λv=>K (v::env) az σ) .k) .k:=abM
theorem OI{x:Rf}:cm L vars (.oO x) false env az σ K=nx (rv vars env x) (λx=>Ou x λa=>K (a::env) az σ) .k:=abN
theorem OJ{x:Rf}:cm L vars (.iD x) false env az σ K=nx (rv vars env x) (λx=>bB (aN x=true) (K (.bd x::env) az σ)) .k:=abO
theorem OK{p x:Rf}{n:Nat}:cm L vars (.ku p x n) false env az σ K=nx (rv vars env x) (λx=>bB (aN x=true/\x.cells.length=n) (K (.bd x::env) az σ)) .k:=abQ
theorem OL{z:List AV}{ps:List (Nat×Nat×Rf)}:cm L vars (.jI z ps) false env az σ K=oK (gS z (gY (λp=>(p.1,p.2.1,rv vars env p.2.2)) ps)) (λl=>nL l (λl=>K (.agg l::env) az σ) .k) .k:=by rw[<-iB];exact abR
theorem OM{x:Rf}{i:Nat}:cm L vars (.ext x i) false env az σ K=nx (rv vars env x) (λx=>Wi x i λa=>nx a (λa=>K (a::env) az σ) .k) .k:=abS
theorem ON{f:Nat}{cs:List Rf}:cm L vars (.BH f cs) false env az σ K=nL (gY (rv vars env) cs) (λl=>K (.func f l::env) az σ) .k:=by rw[<-iB];exact abT
theorem OO{t:Nat}{x:Rf}:cm L vars (.KU t x) false env az σ K=nx (rv vars env x) (λx=>K (.iface t x::env) az σ) .k:=abU
theorem acy{ps:List Rf}{st:Nat}:cm L vars (.bX ps st) false env az σ K=nL (gY (rv vars env) ps) (λl=>bB (ax l=true/\fitAll st l=true) (K (.aE false l::env) az σ)) .k:=by rw[<-iB];exact abV
theorem acz{ps:List Rf}{st:Nat}:cm L vars (.dI ps st) false env az σ K=nL (gY (rv vars env) ps) (λl=>bB (fitAll st l=true) (K (.arr l::env) az σ)) .k:=by rw[<-iB];exact abW
def cl (L:CE) (f:Nat) (args:List AV) (K:AV->Prop) (_:Tk K):Prop:=rE L f args K
theorem OP{f:Nat}{args:List AV}{K:AV->Prop}{t:Tk K}:cl L f args K t=(ax args=true/\nL (gY wk args) (λas=>oK (xD L f as) (λv=>nx v K .k) .k) .k):=by rw[<-iB];rfl
theorem OQ{f:Nat}{args:List Rf}:cm L vars (.cu f args) false env az σ K=nL (gY (rv vars env) args) (λas=>cl L f as (λv=>K (v::env) az σ) .k) .k:=by rw[<-iB];exact abX
theorem acA{x:Rf}{args:List Rf}:cm L vars (.lD x args) false env az σ K=nx (rv vars env x) (λx=>Ov x λf aI=>nL (gI (gY (rv vars env) args) aI) (λas=>cl L f as (λv=>K (v::env) az σ) .k) .k) .k:=by unfold nx nL cl;simp only[<-iB,<-gh];exact abY
theorem OR{x:Rf}{gB:List (Nat×Nat)}{args:List Rf}:cm L vars (.inv x gB args) false env az σ K=nx (rv vars env x) (λx=>Wl x gB λf v=>nL (v::gY (rv vars env) args) (λas=>cl L f as (λv=>K (v::env) az σ) .k) .k) .k:=by unfold nx nL cl;simp only[<-iB];exact abZ
theorem OS{n:Bool}{x:Rf}:cm L vars (.nK n x) false env az σ K=nx (rv vars env x) (λx=>sc σ x λa=>K (.bool (a != n)::env) az σ) .k:=ab0
theorem acB{n:Bool}{x:Rf}:cm L vars (.nK n x) true env az σ K=nx (rv vars env x) (λx=>sc az x λa=>K (.bool (a != n)::env) az σ) .k:=ab1
theorem OT{x:Rf}{k:Option Nat}:cm L vars (.cg x k) false env az σ K=nx (rv vars env x) (λx=>sb x k λa=>K (a::env) az σ) .k:=ab2
def OU (σ:List ag) (x:AV) (k:Option Nat) (K:AV->Prop):Prop:=match x with
 |.bd v=>nx v (λv=>sb (.bd v) k K) .k
 |.ptr b u o=>bk (ak σ b) u (λ_ cs st=>st.isLive=true/\pT cs o k (λv=>nx v K .k) .k) .k
 |_=>False
theorem acC{v:AV}{k:Option Nat}{K:AV->Prop}:OU σ (.bd v) k K=nx v (λv=>sb (.bd v) k K) .k:=(rfl)
theorem acD{b u o:Nat}{k:Option Nat}{K:AV->Prop}:OU σ (.ptr b u o) k K=bk (ak σ b) u (λ_ cs st=>st.isLive=true/\pT cs o k (λv=>nx v K .k) .k) .k:=(rfl)
theorem OV{σ:List ag}{x:AV}{k:Option Nat}{K:AV->Prop}:ld1 σ x k K=OU σ x k K:=by
 cases x with
 |ptr b u o=>exact uE
 |_=>rfl
theorem acE{x:Rf}{k:Option Nat}:cm L vars (.ld x k) false env az σ K=nx (rv vars env x) (λx=>OU σ x k λa=>K (a::env) az σ) .k:=by unfold nx;simp only[<-OV];exact ab3
theorem OW{x:Rf}{k:Option Nat}:cm L vars (.ld x k) true env az σ K=nx (rv vars env x) (λx=>OU az x k λa=>K (a::env) az σ) .k:=by unfold nx;simp only[<-OV];exact ab4
theorem OX{x:Rf}:cm L vars (.FT x) false env az σ K=nx (rv vars env x) (λx=>i1 x λn=>qc n λv=>K (v::env) az σ) .k:=ab5
def OY (σ:List ag) (x:AV) (a:Int) (b:Option Int) (st:Nat) (K:AV->Prop):Prop:=match x with
 |.aE nn l=>bB ((0<=a/\a<=b.getD l.length/\b.getD l.length<=l.length)/\gd st l=true) (nC ((l.drop a.toNat).take ((b.getD l.length).toNat-a.toNat)) (λl' =>K (.aE (nn&&decide (0<l.length)) l')) .k)
 |.sl b' u off len=>bk (ak σ b') u (λk _ _=>bB ((0<=a/\a<=b.getD len/\b.getD len<=len)/\aC k=st) (K (.sl b' u (off+a.toNat*st) ((b.getD len).toNat-a.toNat)))) .k
 |_=>False
theorem acF{nn:Bool}{l:List AV}{a:Int}{b:Option Int}{st:Nat}{K:AV->Prop}:OY σ (.aE nn l) a b st K=bB ((0<=a/\a<=b.getD l.length/\b.getD l.length<=l.length)/\gd st l=true) (nC ((l.drop a.toNat).take ((b.getD l.length).toNat-a.toNat)) (λl' =>K (.aE (nn&&decide (0<l.length)) l')) .k):=(rfl)
theorem acG{b' u off len:Nat}{a:Int}{b:Option Int}{st:Nat}{K:AV->Prop}:OY σ (.sl b' u off len) a b st K=bk (ak σ b') u (λk _ _=>bB ((0<=a/\a<=b.getD len/\b.getD len<=len)/\aC k=st) (K (.sl b' u (off+a.toNat*st) ((b.getD len).toNat-a.toNat)))) .k:=(rfl)
theorem OZ{σ:List ag}{x:AV}{a:Int}{b:Option Int}{st:Nat}{K:AV->Prop}:sl1 σ x a b st K=OY σ x a b st K:=by
 cases x with
 |sl b u o n=>exact uE
 |_=>rfl
def H2:List AV->List AV->(Bool->Prop)->Prop
 | [],[],K=>K true
 |.int a::xs,.int b::ys,K=>H2 xs ys λc=>K (decide (a=b)&&c)
 |_,_,_=>False
theorem acH{K:Bool->Prop}:H2 [] [] K=K true:=(rfl)
theorem O1{a b:Int}{xs ys:List AV}{K:Bool->Prop}:H2 (.int a::xs) (.int b::ys) K=H2 xs ys λc=>K (decide (a=b)&&c):=(rfl)
theorem acI:∀{xs ys:List AV}{K:Bool->Prop},aP (fg xs ys) K=H2 xs ys K:=by
 intro xs
 induction xs with
 |nil=>intro ys K;cases ys<;>rfl
 |cons x xs ih=>
  intro ys K;cases ys with
  |nil=>cases x<;>rfl
  |cons y ys=>
   cases x<;>try rfl
   cases y<;>try rfl
   rename_i a b;rw[O1,<-ih];simp only[fg];cases fg xs ys<;>rfl
def sq1 (n:Nat) (x y:AV) (K:Bool->Prop):Prop:=match x,y with
 |.agg xs,.agg ys=>xs.length=n/\H2 xs ys K
 |_,_=>False
theorem O2{n:Nat}{xs ys:List AV}{K:Bool->Prop}:sq1 n (.agg xs) (.agg ys) K=(xs.length=n/\H2 xs ys K):=(rfl)
theorem O3{g:Bool}{n:Nat}{x y:Rf}:cm L vars (.seq g n x y) false env az σ K=nx (rv vars env x) (λx=>nx (rv vars env y) (λy=>sq1 n x y λb=>K (.bool (b != g)::env) az σ) .k) .k:=by
 show aP (ev L σ σ.length [] (rv vars env) (.seq g n x y)) _=_;simp only[nx];generalize hx:rv vars env x=p;generalize hy:rv vars env y=q;simp only[ev,hx,hy];cases p<;>try rfl
 cases q<;>try rfl
 rename_i xs ys;rw[O2,<-acI]
 by_cases hc:xs.length=n
 ·simp only[ab hc,hc,true_and]
  cases fg xs ys<;>rfl
 ·simp only[aa hc]
  exact propext ⟨λh=>h.elim,λh=>hc h.1⟩
def mp (o:Option ag) (K:Option Nat->List AV->List (AV×AV)->Prop) (_:Tk K):Prop:=match o with
 |some ⟨k,cs,.map es⟩=>cs.length=0/\K k cs es
 |_=>False
theorem acJ{k:Option Nat}{cs:List AV}{es:List (AV×AV)}{K:Option Nat->List AV->List (AV×AV)->Prop}{t:Tk K}:mp (some ⟨k,cs,.map es⟩) K t=(cs.length=0/\K k cs es):=(rfl)
theorem F6{σ:List ag}{b:Nat}{K:List (AV×AV)->Prop}:aP (eY σ b) K=mp (ak σ b) (λ_ _ es=>K es) .k:=by
 unfold mp eY;cases ak σ b with
 |none=>rfl
 |some B=>
  obtain⟨k,cs,st⟩:=B;cases st with
  |map es=>
   by_cases h:cs.length=0
   ·simp[h,aP]
   ·simp[h,aP]
  |_=>rfl
def H3 (z:AV) (ok:Bool):Option AV->AV
 |some v=>if ok then .bQ [v,.bool true]else v
 |none=>if ok then .bQ [z,.bool false]else z
theorem acK{z v:AV}:H3 z false (some v)=v:=rfl
theorem acL{z:AV}:H3 z false none=z:=rfl
theorem acM{z v:AV}:H3 z true (some v) = .bQ [v,.bool true]:=rfl
theorem acN{z:AV}:H3 z true none = .bQ [z,.bool false]:=rfl
def O4 (σ:List ag) (x:AV) (kd:Nat) (k z:AV) (ok:Bool) (K:AV->Prop):Prop:=match x with
 |.cM b=>aP (eY σ b) λes=>bB (bg kd k=true) (oK (cH es k) (λo=>nx (H3 z ok o) K .k) .k)
 |_=>False
theorem acO{σ:List ag}{b kd:Nat}{k z:AV}{ok:Bool}{K:AV->Prop}:O4 σ (.cM b) kd k z ok K=mp (ak σ b) (λ_ _ es=>bB (bg kd k=true) (oK (cH es k) (λo=>nx (H3 z ok o) K .k) .k)) .k:=F6
theorem O5{x k:Rf}{kd:Nat}{z:AV}{ok:Bool}:cm L vars (.vj x kd k z ok) false env az σ K=nx (rv vars env x) (λx=>nx (rv vars env k) (λk=>O4 σ x kd k z ok λv=>K (v::env) az σ) .k) .k:=by
 show aP (ev L σ σ.length [] (rv vars env) (.vj x kd k z ok)) _=_;simp only[nx];generalize hx:rv vars env x=p;generalize hy:rv vars env k=q;simp only[ev,hx,hy];cases p<;>try rfl
 simp only[O4];cases eY σ _ with
 |none=>rfl
 |some es=>
  simp only[BZ,bB]
  by_cases hc:bg kd q=true
  ·simp only[ab hc,hc,true_and]
   cases cH es q with
   |none=>rfl
   |some o=>cases o<;>rfl
  ·simp only[aa hc]
   exact propext ⟨λh=>h.elim,λh=>hc h.1⟩
theorem acP{x k:Rf}{kd:Nat}{z:AV}{ok:Bool}:cm L vars (.vj x kd k z ok) true env az σ K=nx (rv vars env x) (λx=>nx (rv vars env k) (λk=>O4 az x kd k z ok λv=>K (v::env) az σ) .k) .k:=by
 show aP (ev L az σ.length [] (rv vars env) (.vj x kd k z ok)) _=_;simp only[nx];generalize hx:rv vars env x=p;generalize hy:rv vars env k=q;simp only[ev,hx,hy];cases p<;>try rfl
 simp only[O4];cases eY az _ with
 |none=>rfl
 |some es=>
  simp only[BZ,bB]
  by_cases hc:bg kd q=true
  ·simp only[ab hc,hc,true_and]
   cases cH es q with
   |none=>rfl
   |some o=>cases o<;>rfl
  ·simp only[aa hc]
   exact propext ⟨λh=>h.elim,λh=>hc h.1⟩
def O6 (σ:List ag) (x:AV) (K:Int->Prop):Prop:=match x with
 |.cM b=>aP (eY σ b) λes=>K es.length
 |_=>False
theorem acQ{σ:List ag}{b:Nat}{K:Int->Prop}:O6 σ (.cM b) K=mp (ak σ b) (λ_ _ es=>K es.length) .k:=F6
theorem O7{x:Rf}:cm L vars (.AH x) false env az σ K=nx (rv vars env x) (λx=>O6 σ x λn=>K (.int n::env) az σ) .k:=by
 show aP (ev L σ σ.length [] (rv vars env) (.AH x)) _=_;simp only[nx];generalize hx:rv vars env x=p;simp only[ev,hx];cases p<;>try rfl
 simp only[O6];cases eY σ _<;>rfl
theorem acR{x:Rf}:cm L vars (.AH x) true env az σ K=nx (rv vars env x) (λx=>O6 az x λn=>K (.int n::env) az σ) .k:=by
 show aP (ev L az σ.length [] (rv vars env) (.AH x)) _=_;simp only[nx];generalize hx:rv vars env x=p;simp only[ev,hx];cases p<;>try rfl
 simp only[O6];cases eY az _<;>rfl
theorem O8:cm L vars .ya false env az σ K=nB (gI σ [⟨some 0,[],.map []⟩]) (λτ=>K (.cM σ.length::env) σ τ) .k:=by rw[<-gh];rfl
def mu1 (σ:List ag) (m:AV) (kd:Nat) (k x:AV) (K:List ag->Prop):Prop:=match m with
 |.cM b=>mp (ak σ b) (λkk cs es=>bB (bg kd k=true/\aN x=true) (oK (cH es k) (λo=>o=none/\nB (ay σ b ⟨kk,cs,.map (es ++ [(k,x)])⟩) K .k) .k)) .k
 |_=>False
theorem acS{σ:List ag}{b kd:Nat}{k x:AV}{K:List ag->Prop}:mu1 σ (.cM b) kd k x K=mp (ak σ b) (λkk cs es=>bB (bg kd k=true/\aN x=true) (oK (cH es k) (λo=>o=none/\nB (ay σ b ⟨kk,cs,.map (es ++ [(k,x)])⟩) K .k) .k)) .k:=rfl
theorem O9{m k x:Rf}{kd:Nat}:cm L vars (.vh m kd k x) false env az σ K=nx (rv vars env m) (λm=>nx (rv vars env k) (λk=>nx (rv vars env x) (λx=>mu1 σ m kd k x λτ=>K (.aM::env) [] τ) .k) .k) .k:=by
 show aP (fC L σ (rv vars env) (.vh m kd k x)) _=_;simp only[nx];generalize hx:rv vars env m=p;generalize hy:rv vars env k=q;generalize hz:rv vars env x=r;simp only[fC,hx,hy,hz];cases p<;>try rfl
 rename_i b;simp only[mu1,mp,eY,oI];cases hb:ak σ b with
 |none=>rfl
 |some B=>
  obtain⟨kk,cs,st⟩:=B;cases st<;>try rfl
  rename_i es
  by_cases hc:cs.length=0
  ·by_cases hf:bg kd q=true/\aN r=true
   ·simp only[hc,hf.1,hf.2,bB,true_and,kW,dC,Bool.and_self]
    cases cH es q with
    |none=>exact propext ⟨λh=>h.elim,λh=>h.elim⟩
    |some o=>cases o with
     |none=>exact propext ⟨λh=>⟨rfl,h⟩,λh=>h.2⟩
     |some y=>exact propext ⟨λh=>h.elim,λh=>by have:=h.1;simp at this⟩
   ·have h' : ¬(bg kd q&&aN r)=true:=λh=>hf (by simpa using h)
    simp only[hc,kW,dC,aa h', bB];exact propext ⟨λh=>h.elim,λh=>hf h.2.1⟩
  ·simp only[hc,cL,eG,false_and]
   rfl
@[reducible] def Wo (x:Option AV):Option Int:=match x with
 |none=>some 0
 |some (.int n)=>some n
 |some _=>none
@[reducible] def Wp (x:Option AV):Option (Option Int):=match x with
 |none=>some none
 |some (.int n)=>some (some n)
 |some _=>none
@[reducible] def F7 (f:Rf->AV):Option Rf->Option AV
 |none=>none
 |some x=>some (f x)
theorem Pa{r:Rf->AV}{o:Option Rf}:tR r o=Wo (F7 r o):=by
 cases o with
 |none=>rfl
 |some y=>simp only[tR,Wo,F7];cases r y<;>rfl
theorem Pb{r:Rf->AV}{o:Option Rf}:tS r o=Wp (F7 r o):=by
 cases o with
 |none=>rfl
 |some y=>simp only[tS,Wp,F7];cases r y<;>rfl
theorem Pc{x:Rf}{lo hi:Option Rf}{st:Nat}:cm L vars (.pK x lo hi st) false env az σ K=oK (Wo (F7 (rv vars env) lo)) (λa=>oK (Wp (F7 (rv vars env) hi)) (λb=>nx (rv vars env x) (λx=>OY σ x a b st λv=>K (v::env) az σ) .k) .k) .k:=by unfold oK nx;simp only[<-Pa,<-Pb,<-OZ];exact ab6
theorem acT{x:Rf}{lo hi:Option Rf}{st:Nat}:cm L vars (.pK x lo hi st) true env az σ K=oK (Wo (F7 (rv vars env) lo)) (λa=>oK (Wp (F7 (rv vars env) hi)) (λb=>nx (rv vars env x) (λx=>OY az x a b st λv=>K (v::env) az σ) .k) .k) .k:=by unfold oK nx;simp only[<-Pa,<-Pb,<-OZ];exact ab7
theorem H4{α β γ:Type}{f:β->Option γ}{g:α->β}:∀{l:List α},bV (λx=>f (g x)) l=bV f (gY g l)
 | []=>rfl
 |x::r=>by simp only[bV,gY];rw[H4 (l:=r)]
theorem Pd{f:Nat}{args:List Rf}:cm L vars (.tO f args) false env az σ K=nL (gY (rv vars env) args) (λas=>oK (bV (view σ false vd) as) (λvs=>lX L f vs [] (λv bp =>oK (cv bp true v) (λu=>K (u::env) az σ) .k) .k) .k) .k:=by unfold nL;dsimp only;rw[<-H4];exact ab8
theorem acU{f:Nat}{args:List Rf}:cm L vars (.tO f args) true env az σ K=nL (gY (rv vars env) args) (λas=>oK (bV (view az false vd) as) (λvs=>lX L f vs [] (λv bp =>oK (cv bp true v) (λu=>K (u::env) az σ) .k) .k) .k) .k:=by unfold nL;dsimp only;rw[<-H4];exact ab9
theorem Pe{f:Nat}{args:List Rf}:cm L vars (.can f args) false env az σ K=nL (gY (rv vars env) args) (λas=>bB (ax as=true) (lX L f as [] (λv bp =>nx (jx σ.length v) (λv=>nB (σ++bp.map (gM σ.length)) (λτ=>K (v::env) σ τ) .k) .k) .k)) .k:=by rw[<-iB];exact aca
theorem Pf{x:Rf}{k:Option Nat}:cm L vars (.u9 x k) false env az σ K=nx (rv vars env x) (λx=>bB (x.cells.length=aC k/\bz x=true) (nB (gI σ [⟨k,x.cells,.live⟩]) (λτ=>K (.ptr σ.length (aC k) 0::env) σ τ) .k)) .k:=by unfold nx nB;simp only[<-gh];exact acb
theorem Pg{z:List AV}{k:Option Nat}:cm L vars (.ox z k) false env az σ K=bB (z.length=aC k) (nB (gI σ [⟨k,z,.live⟩]) (λτ=>K (.ptr σ.length (aC k) 0::env) σ τ) .k):=by rw[<-gh];exact acd
theorem Ph{n c:Rf}{z:List AV}{k:Option Nat}:cm L vars (.jT n c z k) false env az σ K=nx (rv vars env n) (λn=>nx (rv vars env c) (λc=>ii n c λn c=>bB (0<=n/\n<=c/\c<=dE/\z.length=aC k) (nC (eH c.toNat z) (λcs=>nB (gI σ [⟨k,cs,.live⟩]) (λτ=>K (.sl σ.length cs.length 0 n.toNat::env) σ τ) .k) .k)) .k) .k:=by
 unfold nx nC nB;simp only[<-gh];exact ace
@[reducible] def sW:List AV->List AV
 | []=>[]
 |x::r=>gI x.cells (sW r)
theorem sX:∀l:List AV,l.flatMap AV.cells=sW l
 | []=>rfl
 |x::r=>by simp only[jD,sW,sX r,gh]
theorem acV{ps:List Rf}{k:Option Nat}:cm L vars (.mw ps k) false env az σ K=nL (gY (rv vars env) ps) (λl=>bB (fitAll (aC k) l=true) (nC (sW l) (λcs=>nB (gI σ [⟨k,cs,.live⟩]) (λτ=>K (.sl σ.length cs.length 0 ps.length::env) σ τ) .k) .k)) .k:=by
 unfold nL nC nB;simp only[<-gh,<-iB,<-sX];exact acf
theorem acW{k:Option Nat}:cm L vars (.nl k) false env az σ K=nB (gI σ [⟨k,[],.jN⟩]) (λτ=>K (.sl σ.length 0 0 0::env) σ τ) .k:=by rw[<-gh];exact acg
def src (σ:List ag) (k:Option Nat) (x:AV) (K:Nat->List AV->Prop) (_:Tk K):Prop:=aP (aG σ k x) λp=>K p.1 p.2
theorem acX{k:Option Nat}{K:Nat->List AV->Prop}{t:Tk K}:src σ k .ah K t=K 0 []:=(rfl)
theorem acY{k:Option Nat}{q:Bool}{l:List AV}{K:Nat->List AV->Prop}{t:Tk K}:src σ k (.aE q l) K t=bB (fitAll (aC k) l=true) (nC (l.flatMap AV.cells) (λcs=>K l.length cs) .k):=by
 unfold src aG;by_cases h:fitAll (aC k) l=true<;>simp[h,aP,bB,nC]
theorem acZ{k:Option Nat}{K:Nat->List AV->Prop}{t:Tk K}:src σ k .emp K t=K 0 []:=(rfl)
theorem ac0{k:Option Nat}{l:List AV}{K:Nat->List AV->Prop}{t:Tk K}:src σ k (.arr l) K t=bB (fitAll (aC k) l=true) (nL (sW l) (λcs=>K l.length cs) .k):=by
 rw[<-sX];unfold src aG;by_cases h:fitAll (aC k) l=true<;>simp[h,aP,bB,nL]
theorem ac1{k:Option Nat}{b u off len:Nat}{K:Nat->List AV->Prop}{t:Tk K}:src σ k (.sl b u off len) K t=bk (ak σ b) u (λk' cs _=>bB (off+len*aC k<=cs.length/\aC k' = aC k) (nC ((cs.drop off).take (len*aC k)) (λcs=>K len cs) .k)) .k:=by
 rw[<-uE (K:=λB=>bB (off+len*aC k<=B.cells.length/\aC B.k=aC k) (nC ((B.cells.drop off).take (len*aC k)) (λcs=>K len cs) .k))];unfold src aG;simp only;cases upto σ b u with
 |none=>rfl
 |some B=>by_cases h:off+len*aC k<=B.cells.length/\aC B.k=aC k<;>simp[h,aP,bB,nC]
def ap (σ:List ag) (s:AV) (k:Option Nat) (n:Nat) (cs:List AV) (K:AV->List ag->Prop) (_:Tk K):Prop:=Wm σ s k n cs K
def nz (n:Nat) (A B:Prop) (_:Tk A) (_:Tk B):Prop:=(n=0->A)/\(n ≠ 0->B)
theorem Pj{A B:Prop}{t:Tk A}{u:Tk B}:nz 0 A B t u=A:=by simp[nz]
theorem Pk{A B:Prop}{t:Tk A}{u:Tk B}:nz 1 A B t u=B:=by simp[nz]
theorem Pm{n:Nat}{A B:Prop}{t:Tk A}{u:Tk B}:nz (n+1) A B t u=B:=by simp[nz]
theorem ac2{n:Nat}{A B:Prop}{t:Tk A}{u:Tk B}:nz n A B t u=(im (n=0) A .k/\im (n ≠ 0) B .k):=(rfl)
theorem Pn{b u off len:Nat}{k:Option Nat}{n:Nat}{cs:List AV}{K:AV->List ag->Prop}{t:Tk K}:ap σ (.sl b u off len) k n cs K t=bk (ak σ b) u (λk' nO st=>bB (off=0/\u=len*aC k/\len+n<=dE/\tQ k' k=true) (nz n (K (.sl b u off len) σ) (cs.length ≠ 0/\nC (nO ++ cs) (λc=>nB (ay σ b ⟨k', c,.live⟩) (λτ=>K (.sl b c.length 0 (len+n)) τ) .k) .k) .k .k)) .k:=by
 show Wm σ (.sl b u off len) k n cs K=_;rw[ach,uE];cases h:ak σ b with
 |none=>rfl
 |some B=>
  obtain⟨k', nO, st⟩:=B;simp only[bk,nz,nC,nB,bB,sL,h,bu];apply propext;constructor
  ·rintro⟨⟨rfl,h1⟩,h2,h3,h4⟩;exact⟨⟨rfl,h1⟩,h2,h3,h4⟩
  ·rintro⟨⟨rfl,h1⟩,h2,h3,h4⟩;exact⟨⟨rfl,h1⟩,h2,h3,h4⟩
theorem ac3{k:Option Nat}{n:Nat}{cs:List AV}{K:AV->List ag->Prop}{t:Tk K}:ap σ .ah k n cs K t=nz n (K .ah σ) (n<=dE/\nB (gI σ [⟨k,cs,.live⟩]) (λτ=>K (.sl σ.length cs.length 0 n) τ) .k) .k .k:=by unfold nz nB;simp only[<-gh];rfl
theorem ac4{k:Option Nat}{n:Nat}{cs:List AV}{K:AV->List ag->Prop}{t:Tk K}:ap σ .emp k n cs K t=nz n (K .emp σ) (n<=dE/\nB (gI σ [⟨k,cs,.live⟩]) (λτ=>K (.sl σ.length cs.length 0 n) τ) .k) .k .k:=by unfold nz nB;simp only[<-gh];rfl
theorem ac5{l:List AV}{k:Option Nat}{n:Nat}{cs:List AV}{K:AV->List ag->Prop}{t:Tk K}:ap σ (.arr l) k n cs K t=nz n (K (if ax l then .aE true l else .arr l) σ) ((fitAll (aC k) l=true/\l.length+n<=dE)/\nC (gI (sW l) cs) (λc=>nB (gI σ [⟨k,c,.live⟩]) (λτ=>K (.sl σ.length c.length 0 (l.length+n)) τ) .k) .k) .k .k:=by
 unfold nz nC nB;simp only[<-gh,<-sX];rfl
theorem Po{s x:Rf}{k:Option Nat}:cm L vars (.app s x k) false env az σ K=nx (rv vars env x) (λx=>src σ k x (λn cs=>nx (rv vars env s) (λs=>ap σ s k n cs (λv τ=>K (v::env) σ τ) .k) .k) .k) .k:=aci
theorem ac6{p x:Rf}{n:Nat}:cm L vars (.st p x n) false env az σ K=nx (rv vars env p) (λp=>nx (rv vars env x) (λx=>st1 σ p x n λτ=>K (.aM::env) [] τ) .k) .k:=acj
def aw (σ:List ag) (s:AV) (k:Option Nat) (n:Nat) (cs:List AV) (K:AV->List ag->Prop) (_:Tk K):Prop:=Wn σ s k n cs K
theorem Pp{b u off len:Nat}{k:Option Nat}{n:Nat}{cs:List AV}{K:AV->List ag->Prop}{t:Tk K}:aw σ (.sl b u off len) k n cs K t=bk (ak σ b) u (λk' nO st=>bB (off=0/\len+n<=dE/\tQ k' k=true/\(n ≠ 0->cs.length ≠ 0)) (nz n (K (.sl b u off len) σ) (gT (decide (u=len*aC k)) (nC (nO ++ cs) (λc=>nB (ay σ b ⟨k', c,.live⟩) (λτ=>K (.sl b c.length 0 (len+n)) τ) .k) .k) ((len+n)*aC k<=u/\nC (putAt nO (len*aC k) cs) (λc=>nB (ay σ b ⟨k', c,st⟩) (λτ=>K (.sl b u 0 (len+n)) τ) .k) .k) .k .k) .k .k)) .k:=by
 show Wn σ (.sl b u off len) k n cs K=_;rw[ack,uE];cases h:ak σ b with
 |none=>rfl
 |some B=>
  obtain⟨k', nO, st⟩:=B;simp only[bk,nz,nC,nB,bB,bu,H0,im];apply propext;constructor
  ·rintro⟨⟨rfl,h1⟩,h2,h3,h4,h5⟩;exact⟨⟨rfl,h1⟩,h2,h3,λhn=>⟨h4 hn,h5 hn⟩⟩
  ·rintro⟨⟨rfl,h1⟩,h2,h3,h4⟩;exact⟨⟨rfl,h1⟩,h2,h3,λhn=>(h4 hn).1,λhn=>(h4 hn).2⟩
theorem ac7{k:Option Nat}{n:Nat}{cs:List AV}{K:AV->List ag->Prop}{t:Tk K}:aw σ .ah k n cs K t=nz n (K .ah σ) (n<=dE/\nB (gI σ [⟨k,cs,.live⟩]) (λτ=>K (.sl σ.length cs.length 0 n) τ) .k) .k .k:=by unfold nz nB;simp only[<-gh];rfl
theorem ac8{k:Option Nat}{n:Nat}{cs:List AV}{K:AV->List ag->Prop}{t:Tk K}:aw σ .emp k n cs K t=nz n (K .emp σ) (n<=dE/\nB (gI σ [⟨k,cs,.live⟩]) (λτ=>K (.sl σ.length cs.length 0 n) τ) .k) .k .k:=by unfold nz nB;simp only[<-gh];rfl
theorem ac9{l:List AV}{k:Option Nat}{n:Nat}{cs:List AV}{K:AV->List ag->Prop}{t:Tk K}:aw σ (.arr l) k n cs K t=nz n (K (if ax l then .aE true l else .arr l) σ) ((fitAll (aC k) l=true/\l.length+n<=dE)/\nC (gI (sW l) cs) (λc=>nB (gI σ [⟨k,c,.live⟩]) (λτ=>K (.sl σ.length c.length 0 (l.length+n)) τ) .k) .k) .k .k:=by
 unfold nz nC nB;simp only[<-gh,<-sX];rfl
theorem ada{s x:Rf}{k:Option Nat}:cm L vars (.dm s x k) false env az σ K=nx (rv vars env x) (λx=>src σ k x (λn cs=>nx (rv vars env s) (λs=>aw σ s k n cs (λv τ=>K (v::env) [] τ) .k) .k) .k) .k:=acm
def c81 (x:AV) (K:AV->Prop):Prop:=match x with
 |.int n=>bB (0<=n/\n<=255) (K (.ik 4 n))
 |_=>False
theorem nR{n:Int}{K:AV->Prop}:c81 (.int n) K=bB (0<=n/\n<=255) (K (.ik 4 n)):=(rfl)
theorem Pq{x:Rf}:cm L vars (.KR x) false env az σ K=nx (rv vars env x) (λx=>c81 x λv=>K (v::env) az σ) .k:=by
 show aP (ev L σ σ.length [] (rv vars env) (.KR x)) _=_;simp only[nx];generalize hx:rv vars env x=p;simp only[ev,hx];cases p<;>try rfl
 rename_i n;rw[nR];simp only[o7];rfl
theorem Pr{x:Rf}:cm L vars (.Bp x) false env az σ K=nx (rv vars env x) (λx=>src σ none x (λ_ cs=>aP (bytesOf cs) λs=>K (.str s::env) az σ) .k) .k:=by
 show aP (ev L σ σ.length [] (rv vars env) (.Bp x)) _=_;simp only[nx,src];generalize hx:rv vars env x=p;simp only[ev,hx];cases aG σ none p with
 |none=>rfl
 |some q=>
  obtain⟨n,cs⟩:=q;simp only[BZ];cases bytesOf cs<;>rfl
def ik1 (x y:AV) (K:Bool->Prop):Prop:=match x,y with
 |.ik k a,.ik j b=>bB (k=j) (K (a==b))
 |_,_=>False
theorem Ps{k j:Nat}{a b:Int}{K:Bool->Prop}:ik1 (.ik k a) (.ik j b) K=bB (k=j) (K (a==b)):=(rfl)
theorem Pt{g:Bool}{x y:Rf}:cm L vars (.KT g x y) false env az σ K=nx (rv vars env x) (λx=>nx (rv vars env y) (λy=>ik1 x y λb=>K (.bool (b != g)::env) az σ) .k) .k:=by
 show aP (ev L σ σ.length [] (rv vars env) (.KT g x y)) _=_;simp only[nx];generalize hx:rv vars env x=p;generalize hy:rv vars env y=q;simp only[ev,hx,hy];cases p<;>try rfl
 cases q<;>try rfl
 rw[Ps];simp only[o7];rfl
def si2 (x:AV) (a:Int) (b:Option Int) (st:Nat) (K:AV->Prop):Prop:=match x with
 |.aE nn l=>bB ((0<=a/\a<=b.getD l.length/\b.getD l.length<=l.length)/\gd st l=true) (nC ((l.drop a.toNat).take ((b.getD l.length).toNat-a.toNat)) (λl' =>K (.aE (nn&&decide (0<l.length)) l')) .k)
 |_=>False
theorem adb{nn:Bool}{l:List AV}{a:Int}{b:Option Int}{st:Nat}{K:AV->Prop}:si2 (.aE nn l) a b st K=bB ((0<=a/\a<=b.getD l.length/\b.getD l.length<=l.length)/\gd st l=true) (nC ((l.drop a.toNat).take ((b.getD l.length).toNat-a.toNat)) (λl' =>K (.aE (nn&&decide (0<l.length)) l')) .k):=(rfl)
theorem ade{st:Nat}:cm L vars (.si st) false env az σ K=K (.emp::env) az σ:=(rfl)
def bs1 (x:AV) (K:AV->Prop):Prop:=match x with
 |.str s=>nx (.aE false (s.map λb=>.ik 4 (b.toNat:Int))) K .k
 |_=>False
theorem adf{s:List UInt8}{K:AV->Prop}:bs1 (.str s) K=nx (.aE false (s.map λb=>.ik 4 (b.toNat:Int))) K .k:=(rfl)
theorem Pu{x:Rf}:cm L vars (.KM x) false env az σ K=nx (rv vars env x) (λx=>bs1 x λv=>K (v::env) az σ) .k:=by
 show aP (ev L σ σ.length [] (rv vars env) (.KM x)) _=_;simp only[nx];generalize hx:rv vars env x=p;simp only[ev,hx];cases p<;>rfl
def si1 (x i:AV) (K:AV->Prop):Prop:=match x,i with
 |.str s,.int n=>0<=n/\aP (s[n.toNat]?) λb=>K (.ik 4 (b.toNat:Int))
 |_,_=>False
theorem H5{s:List UInt8}{n:Int}{K:AV->Prop}:si1 (.str s) (.int n) K=(0<=n/\aP (s[n.toNat]?) λb=>K (.ik 4 (b.toNat:Int))):=(rfl)
theorem Pv{x i:Rf}:cm L vars (.KS x i) false env az σ K=nx (rv vars env x) (λx=>nx (rv vars env i) (λi=>si1 x i λv=>K (v::env) az σ) .k) .k:=by
 show aP (ev L σ σ.length [] (rv vars env) (.KS x i)) _=_;simp only[nx];generalize hx:rv vars env x=p;generalize hy:rv vars env i=q;simp only[ev,hx,hy];cases p<;>try rfl
 cases q<;>try rfl
 rename_i s n;rw[H5]
 by_cases h:0<=n
 ·simp only[ab h,h,true_and]
  cases s[n.toNat]?<;>rfl
 ·simp only[aa h]
  exact propext ⟨λe=>e.elim,λe=>h e.1⟩
def cw1 (x:AV) (K:AV->Prop):Prop:=match x with
 |.int n=>K (.ik 4 (n%256))
 |_=>False
theorem adg{n:Int}{K:AV->Prop}:cw1 (.int n) K=K (.ik 4 (n%256)):=(rfl)
theorem Pw{x:Rf}:cm L vars (.BD x) false env az σ K=nx (rv vars env x) (λx=>cw1 x λv=>K (v::env) az σ) .k:=by
 show aP (ev L σ σ.length [] (rv vars env) (.BD x)) _=_;simp only[nx];generalize hx:rv vars env x=p;simp only[ev,hx];cases p<;>rfl
def Wq (x y:AV) (K:AV->Prop):Prop:=match x,y with
 |.int a,.int n=>bB (0<=n/\n<64) (K (.int (a.fdiv (2^n.toNat))))
 |.int a,.ik 7 n=>bB (0<=n/\n<64) (K (.int (a.fdiv (2^n.toNat))))
 |_,_=>False
theorem adh{a n:Int}{K:AV->Prop}:Wq (.int a) (.int n) K=bB (0<=n/\n<64) (K (.int (a.fdiv (2^n.toNat)))):=(rfl)
theorem adi{a n:Int}{K:AV->Prop}:Wq (.int a) (.ik 7 n) K=bB (0<=n/\n<64) (K (.int (a.fdiv (2^n.toNat)))):=(rfl)
theorem Px{x y:Rf}:cm L vars (.Hn x y) false env az σ K=nx (rv vars env x) (λx=>nx (rv vars env y) (λy=>Wq x y λv=>K (v::env) az σ) .k) .k:=by
 show aP (ev L σ σ.length [] (rv vars env) (.Hn x y)) _=_;simp only[nx];generalize hx:rv vars env x=p;generalize hy:rv vars env y=q;simp only[ev,hx,hy,Wq];split
 ·simp only[o7];rfl
 ·simp only[o7];rfl
 ·rename_i h1 h2
  split
  ·rename_i a n;exact absurd rfl (h1 a n rfl)
  ·rename_i a n;exact absurd rfl (h2 a n rfl)
  ·rfl
def ss1 (n:Nat) (x y:AV) (K:Bool->Prop):Prop:=match x,y with
 |.agg xs,.agg ys=>xs.length=n/\aP (iG xs ys) K
 |_,_=>False
theorem Py{n:Nat}{xs ys:List AV}{K:Bool->Prop}:ss1 n (.agg xs) (.agg ys) K=(xs.length=n/\aP (iG xs ys) K):=(rfl)
theorem Pz{g:Bool}{n:Nat}{x y:Rf}:cm L vars (.KV g n x y) false env az σ K=nx (rv vars env x) (λx=>nx (rv vars env y) (λy=>ss1 n x y λb=>K (.bool (b != g)::env) az σ) .k) .k:=by
 show aP (ev L σ σ.length [] (rv vars env) (.KV g n x y)) _=_;simp only[nx];generalize hx:rv vars env x=p;generalize hy:rv vars env y=q;simp only[ev,hx,hy];cases p<;>try rfl
 cases q<;>try rfl
 rename_i xs ys;rw[Py]
 by_cases hc:xs.length=n
 ·simp only[ab hc,hc,true_and]
  cases iG xs ys<;>rfl
 ·simp only[aa hc]
  exact propext ⟨λh=>h.elim,λh=>hc h.1⟩
def uF (es:List (AV×AV)) (k x:AV) (o:Option AV):List (AV×AV):=match o with
 |none=>es ++ [(k,x)]
 |some _=>iU es k x
theorem adj{es:List (AV×AV)}{k x:AV}:uF es k x none=es ++ [(k,x)]:=rfl
theorem adk{es:List (AV×AV)}{k x y:AV}:uF es k x (some y)=iU es k x:=rfl
def ms1 (σ:List ag) (m:AV) (kd:Nat) (k x:AV) (K:List ag->Prop):Prop:=match m with
 |.cM b=>mp (ak σ b) (λkk cs es=>bB (bg kd k=true/\bz x=true) (oK (cH es k) (λo=>nB (ay σ b ⟨kk,cs,.map (uF es k x o)⟩) K .k) .k)) .k
 |_=>False
theorem adl{σ:List ag}{b kd:Nat}{k x:AV}{K:List ag->Prop}:ms1 σ (.cM b) kd k x K=mp (ak σ b) (λkk cs es=>bB (bg kd k=true/\bz x=true) (oK (cH es k) (λo=>nB (ay σ b ⟨kk,cs,.map (uF es k x o)⟩) K .k) .k)) .k:=rfl
theorem PA{m k x:Rf}{kd:Nat}:cm L vars (.xu m kd k x) false env az σ K=nx (rv vars env m) (λm=>nx (rv vars env k) (λk=>nx (rv vars env x) (λx=>ms1 σ m kd k x λτ=>K (.aM::env) [] τ) .k) .k) .k:=by
 show aP (fC L σ (rv vars env) (.xu m kd k x)) _=_;simp only[nx];generalize hx:rv vars env m=p;generalize hy:rv vars env k=q;generalize hz:rv vars env x=r;simp only[fC,hx,hy,hz];cases p<;>try rfl
 rename_i b;simp only[ms1,mp,eY,oI];cases hb:ak σ b with
 |none=>rfl
 |some B=>
  obtain⟨kk,cs,st⟩:=B;cases st<;>try rfl
  rename_i es
  by_cases hc:cs.length=0
  ·by_cases hf:bg kd q=true/\bz r=true
   ·simp only[hc,hf.1,hf.2,bB,true_and,kW,dC,Bool.and_self]
    cases cH es q with
    |none=>exact propext ⟨λh=>h.elim,λh=>h.elim⟩
    |some o=>cases o<;>rfl
   ·have h' : ¬(bg kd q&&bz r)=true:=λh=>hf (by simpa using h)
    simp only[hc,kW,dC,aa h', bB];exact propext ⟨λh=>h.elim,λh=>hf h.2.1⟩
  ·simp only[hc,cL,eG,false_and]
   rfl
theorem PB{f:Nat}{args:List Rf}:cm L vars (.fF f args) false env az σ K=nL (gY (rv vars env) args) (λas=>lX L f as σ (λv τ=>nx v (λv=>nB τ (λτ=>K (v::env) [] τ) .k) .k) .k) .k:=by rw[<-iB];exact acn
theorem adm{x:Rf}{args:List Rf}:cm L vars (.kT x args) false env az σ K=nx (rv vars env x) (λx=>Ov x λf aI=>nL (gI (gY (rv vars env) args) aI) (λas=>lX L f as σ (λv τ=>nx v (λv=>nB τ (λτ=>K (v::env) [] τ) .k) .k) .k) .k) .k:=by unfold nx nL lX;simp only[<-iB,<-gh];exact aco
end
section
variable{L:CE}{vars env:List AV}{az σ:List ag}{K:List AV->List ag->Prop}{ls:List Ln}{op:cU}{prev:Bool}
theorem adn:LK L vars [] env az σ K=K env σ:=by unfold LK;rfl
theorem ado:LK L vars (⟨op,none,prev⟩::ls) env az σ K=cm L vars op prev env az σ λenv az σ=>LK L vars ls env az σ K:=by conv=>lhs;unfold LK
def y6 (x:AV) (w:Bool) (go skip go' y7 : Prop) (_:Tk go) (_:Tk skip) (_:Tk go') (_:Tk y7):Prop:=match x with
 |.bool b=>match w with
  |true=>gK b go' y7
  |false=>gK b y7 go'
 |.bQ []=>skip
 |_=>False
theorem adp{w:Bool}{A B C D:Prop}{s:Tk A}{t:Tk B}{u:Tk C}{v:Tk D}:y6 (.bQ []) w A B C D s t u v=B:=(rfl)
theorem adq{b:Bool}{A B C D:Prop}{s:Tk A}{t:Tk B}{u:Tk C}{v:Tk D}:y6 (.bool b) true A B C D s t u v=gT b C D .k .k:=(rfl)
theorem adr{b:Bool}{A B C D:Prop}{s:Tk A}{t:Tk B}{u:Tk C}{v:Tk D}:y6 (.bool b) false A B C D s t u v=gT b D C .k .k:=(rfl)
theorem ads{A B C D:Prop}{s:Tk A}{t:Tk B}{u:Tk C}{v:Tk D}:y6 (.bool true) true A B C D s t u v=C:=HY
theorem adt{A B C D:Prop}{s:Tk A}{t:Tk B}{u:Tk C}{v:Tk D}:y6 (.bool true) false A B C D s t u v=D:=HY
theorem adu{A B C D:Prop}{s:Tk A}{t:Tk B}{u:Tk C}{v:Tk D}:y6 (.bool false) true A B C D s t u v=D:=HZ
theorem adv{A B C D:Prop}{s:Tk A}{t:Tk B}{u:Tk C}{v:Tk D}:y6 (.bool false) false A B C D s t u v=C:=HZ
theorem adw{d:Nat}{w:Bool}:LK L vars (⟨op,some (.t d,w),prev⟩::ls) env az σ K=nx (nth env d) (λx=>y6 x w
   (cm L vars op prev env az σ λenv az σ=>LK L vars ls env az σ K)
   (LK L vars ls (.bQ []::env) az σ K)
   (nL (eT env d (.bool w)) (λenv=>cm L vars op prev env az σ λenv az σ=>LK L vars ls env az σ K) .k)
   (nL (eT env d (.bool (!w))) (λenv=>LK L vars ls (.bQ []::env) az σ K) .k) .k .k .k .k) .k:=by
 conv=>lhs;unfold LK
 simp only[y6,nx,nL];cases nth env d with
 |bool b=>cases w<;>rfl
 |bQ l=>cases l<;>rfl
 |_=>rfl
theorem adx{d:Nat}{w:Bool}:LK L vars (⟨op,some (.v d,w),prev⟩::ls) env az σ K=nx (nth vars d) (λx=>y6 x w
   (cm L vars op prev env az σ λenv az σ=>LK L vars ls env az σ K)
   (LK L vars ls (.bQ []::env) az σ K)
   (cm L vars op prev env az σ λenv az σ=>LK L vars ls env az σ K)
   (LK L vars ls (.bQ []::env) az σ K) .k .k .k .k) .k:=by
 conv=>lhs;unfold LK
 simp only[y6,nx]
 all_goals (cases nth vars d with
  |bool b=>cases w<;>rfl
  |bQ l=>cases l<;>rfl
  |_=>rfl)
end
def nF (fl:Option (Nat×AV)) (K:Option (Nat×AV)->Prop) (_:Tk K):Prop:=K fl
theorem ady{K:Option (Nat×AV)->Prop}{t:Tk K}:nF none K t=K none:=(rfl)
theorem adz{n:Nat}{x:AV}{K:Option (Nat×AV)->Prop}{t:Tk K}:nF (some (n,x)) K t=nx x (λx=>K (some (n,x))) .k:=(rfl)
section
variable{L:CE}{vars:List AV}{fl:Option (Nat×AV)}{σ:List ag}{Q:Ex->St->Prop}
theorem adA{ls:List Ln}{os:List (Nat×Nat)}{ks:List Nat}{f:Option (Nat×Nat)}:WK L (.ae ⟨ls,os,ks,f⟩) vars fl σ Q=LK L vars ls [] σ σ λenv σ=>nL (dG ks (outs env os vars)) (λvs=>nF (y5 env f) (λf=>Q .fm ⟨vs,f,σ⟩) .k) .k:=aaw
theorem adB{t:Nat}{a b:IC}{c:Bool}:WK L (.cond t a b) vars (some (t,.bool c)) σ Q=gT c (WK L a vars none σ Q) (WK L b vars none σ Q) .k .k:=aay
theorem adC{k:Nat}{a b:IC}:WK L (.kO k a b) vars fl σ Q=nx (nth vars k) (λx=>b1 x λc=>gT c (WK L a vars fl σ Q) (WK L b vars fl σ Q) .k .k) .k:=by
 rw[aaz];unfold nx b1;cases nth vars k<;>rfl
end
attribute [simp ↓] Ps adb aa7     ac4 ac8 acZ adf H5 adg adh adi Py adl adj adk       acJ acO acQ acS aa3 aa4 aa5 abA F5   O2 acH O1 aa6 aa8 aa9 aba abb abc abd abe abf abg abh abi abj abk abl abm abn abo abp abq abr abt acC acD acF acG abu abv abw abx aby abz abB
attribute [simp ↓] NT F1 NU NV NW NX NY NZ N0 F3 N1 N2 N3 N4 N5 N6 N7 N8 N9 Oa Ob Oc Od Oe Of Og Oh Oi Oj Ol H0 Om On aa1 aa2
attribute [simp] Oc Od Oe Of Og Oh Oi Oj Ol H0 aaY aaZ Om On
attribute [simp] NT F1 NU NV NW NX NY NZ N0 F3 N1 N2 N3 N4 N5 N6 N7 N8 N9 Oa Ob
attribute [simp low] aaT aaU aaV aaW aaX aa0 acv ac2
attribute [simp ↓] Oz OA OB OC OP acX acY ac0 ac1 Pj Pk Pm Pn ac3 ac5 Pp ac7 ac9
attribute [simp] acK acL acM acN Oz OA OB OC Pj Pk Pm acq acr
attribute [simp ↓] Pt  ade  Pu Pv Pw Px Pz PA  Pq Pr    O8 O5 acP O7 acR O9 acp Ow Ox O3  Oy acw OD OE OF OG OH acx OI OJ abP OK OL  OM ON OO acy acz OQ acA OR OS acB OT acE OW OX Pc acT  Pd acU Pe Pf Pg Ph acV acW Po ac6 ada PB adm  adn ado adw adx adp ads adt adu adv
attribute [simp ↓ low] adq adr
attribute [simp ↓] ady adz adA adB adC
theorem adD{α β:Type}{f:α->β}:gY f []=[]:=(rfl)
theorem adE{α β:Type}{f:α->β}{x:α}{l:List α}:gY f (x::l)=f x::gY f l:=(rfl)
theorem adF{α β:Type}{f:α->β}{l:List α}:gY f l=l.map f:=(iB f l).symm
theorem adG{α:Type}{l:List α}:gI [] l=l:=(rfl)
theorem adH{α:Type}{x:α}{l m:List α}:gI (x::l) m=x::gI l m:=(rfl)
theorem adI{α:Type}{l m:List α}:gI l m=l++m:=(gh l m).symm
attribute [simp] adD adE adG adH BZ
attribute [simp low] adF adI
def ix{α:Type} [Inhabited α] (l:List α) (n:Int):α:=l.getD n.toNat default
abbrev iL (l:List Int):AV:=.aE false (l.map .int)
abbrev bL (l:List Bool):AV:=.aE false (l.map .bool)
abbrev cK (l:List (List Int)):AV:=.aE false (l.map iL)
abbrev fU (l:List (List (List Int))):AV:=.aE false (l.map cK)
theorem nN:∀(l:List AV) (i:Nat),oP l i=l[i]?
 | [],i=>by simp[oP]
 |x::r,0=>rfl
 |x::r,i+1=>by simp[oP,nN r i]
section
variable{α:Type} [Inhabited α]
theorem aZ{l:List α}{n:Int}(h0:0<=n) (h1:n<l.length):ix l n∈l:=by
 unfold ix;rw[gG,dc (by omega)]
 simp
theorem lZ{l:List α}{n:Int}(h0:0<=n) (h1:n<l.length):l[n.toNat]? = some (ix l n):=by
 unfold ix;rw[gG,dc (by omega)]
 simp
theorem aS{l:List α}{n:Nat}(h1:n<l.length):ix l (n:Int)=l[n]:=by
 unfold ix;rw[gG,kE,dc (by omega)]
 simp
theorem adJ{f:α->AV}{xs:List α}{n:Int}{K:AV->Prop}:BY (xs.map f) n K=((0<=n/\n<xs.length)/\K (f (ix xs n))):=by
 apply propext;unfold BY;constructor
 ·rintro⟨h0,y,h1,h2⟩
  rw[nN,ie]at h1
  by_cases hn:n<xs.length
  ·rw[lZ h0 hn]at h1
   simp at h1;subst h1;exact⟨⟨h0,hn⟩,h2⟩
  ·rw[jF (by omega)]at h1;simp at h1
 ·rintro⟨⟨h0,h1⟩,h2⟩
  exact⟨h0,_,by rw[nN,ie,lZ h0 h1];rfl,h2⟩
end
theorem adK{fn:Fn}{K:AV->List ag->Prop}{s:St}:gX fn K .ret s=oK (results fn s) (λv=>K v s.σ) .k:=(rfl)
theorem adL{fn:Fn}{K:AV->List ag->Prop}{s:St}:gX fn K .fm s=oK (results fn s) (λv=>K v s.σ) .k:=(rfl)
theorem adM{α:Type} [Inhabited α]{f:α->AV}{xs:List α}{n:Int}{K:AV->Prop}{t:Tk K}:xK (xs.map f) n K t=((0<=n/\n<xs.length)/\K (f (ix xs n))):=adJ
theorem B3{α:Type} [Inhabited α]{l:List α}{i:Int}(h0:0<=i) (h1:i<l.length):l.drop i.toNat=ix l i::l.drop (i+1).toNat:=by
 have e:(i+1).toNat=i.toNat+1:=by omega
 rw[e,rh (by omega),ix,gG,dc (by omega)]
 simp
theorem H6{α:Type}{l:List α}{i:Int}(h1:l.length<=i):l.drop i.toNat=[]:=jH (by omega)
def bT:List (Nat×AV)->List AV->List AV
 | [],vs=>vs
 |(k,x)::r,vs=>bT r (eT vs k x)
def More{α:Type}(f:α->List (Nat×AV)) (g:α->List ag) (I:α->Prop) (μ:α->Nat) (m:Nat) (vs:List AV) (Q:Ex->St->Prop):Ex->St->Prop:=λe s=>match e with
 |.fm=>∃a,s=⟨bT (f a) vs,none,g a⟩/\I a/\μ a<m
 |e=>Q e s
section
variable{L:CE}{α:Type}{f:α->List (Nat×AV)}{g:α->List ag}{I:α->Prop}{μ:α->Nat}{m:Nat}{vs:List AV}{Q:Ex->St->Prop}
theorem al{s:St}:More f g I μ m vs Q .fm s=∃a,s=⟨bT (f a) vs,none,g a⟩/\I a/\μ a<m:=(rfl)
theorem adN{s:St}:More f g I μ m vs Q .ret s=Q .ret s:=(rfl)
theorem adO{s:St}{j:Nat}:More f g I μ m vs Q (.exit j) s=Q (.exit j) s:=(rfl)
theorem bC{c:IC}{fl:Option (Nat×AV)}{σ:List ag}(f:α->List (Nat×AV)) (g:α->List ag) (I:α->Prop) (μ:α->Nat) (a0:α) (h0:(⟨vs,fl,σ⟩:St)=⟨bT (f a0) vs,none,g a0⟩) (hI:I a0)
  (hs:∀a,I a->WK L c (bT (f a) vs) none (g a) (More f g I μ (μ a) vs Q)):W L (.loop c) ⟨vs,fl,σ⟩ Q:=by
 have go:∀(k:Nat) (a:α),μ a<k->I a->W L (.loop c) ⟨bT (f a) vs,none,g a⟩ Q:=by
  intro k
  induction k with
  |zero=>intro a h;omega
  |succ k ih=>
   intro a hk hI;obtain⟨n,e,s', h1,h2⟩:=o6 (hs a hI);cases e with
   |fm=>
    obtain⟨a', rfl,h3,h4⟩:=h2;obtain⟨n', e', AP, h5,h6⟩:=ih a' (by omega) h3
    refine⟨max n n' + 1,e', AP, ?_,h6⟩;simp only[exec]at h5 ⊢;simp only[iter];rw[rD (wA L) (show n<=max n n' + 1 by omega) _ _ _ h1]
    exact yT (λs x h=>rD (wA L) (show n' <=max n n' + 1 by omega) _ _ _ h) (show n' <=max n n' by omega) h5
   |exit j=>exact⟨n+1,.exit j,s', by simp only[exec,iter];rw[rD (wA L) (Nat.le_succ n) _ _ _ h1],h2⟩
   |ret=>exact⟨n+1,.ret,s', by simp only[exec,iter];rw[rD (wA L) (Nat.le_succ n) _ _ _ h1],h2⟩
 rw[h0];exact go _ a0 (Nat.lt_succ_self _) hI
end
section
variable{σ:List ag}{fr:Bool}{k:Nat}
theorem adP{n:Int}:view σ fr (k+1) (.int n)=some (.int n):=(rfl)
theorem adQ{n:Bool}:view σ fr (k+1) (.bool n)=some (.bool n):=(rfl)
theorem adR{n:List UInt8}:view σ fr (k+1) (.str n)=some (.str n):=(rfl)
theorem adS:view σ fr (k+1) .ah=some (.aE false []):=(rfl)
theorem adT:view σ fr (k+1) .gQ=some .gQ:=(rfl)
theorem adU{b:Bool}{l:List AV}:view σ false (k+1) (.aE b l)=some (.aE false l):=(rfl)
theorem adV{l:List AV}:view σ fr (k+1) (.agg l)=match bV (view σ fr k) l with
 |none=>none
 |some l=>some (.agg l):=(rfl)
theorem adW{n:Int}:view σ fr vd (.int n)=some (.int n):=(rfl)
theorem adX{n:Bool}:view σ fr vd (.bool n)=some (.bool n):=(rfl)
theorem adY{n:List UInt8}:view σ fr vd (.str n)=some (.str n):=(rfl)
theorem adZ:view σ fr vd .ah=some (.aE false []):=(rfl)
theorem ad0:view σ fr vd .gQ=some .gQ:=(rfl)
theorem ad1{b:Bool}{l:List AV}:view σ false vd (.aE b l)=some (.aE false l):=(rfl)
theorem ad2{l:List AV}:view σ fr vd (.agg l)=match bV (view σ fr 11) l with
 |none=>none
 |some l=>some (.agg l):=(rfl)
end
section
variable{σ:List ag}{fr:Bool}
theorem ad3{n:Int}:cv σ fr (.int n)=some (.int n):=(rfl)
theorem ad4{n:Bool}:cv σ fr (.bool n)=some (.bool n):=(rfl)
theorem ad5{n:List UInt8}:cv σ fr (.str n)=some (.str n):=(rfl)
theorem ad6:cv σ fr .ah=some (.aE false []):=(rfl)
theorem ad7:cv σ fr .gQ=some .gQ:=(rfl)
theorem ad8{b:Bool}{l:List AV}:cv σ false (.aE b l)=some (.aE false l):=(rfl)
theorem ad9{b u off len:Nat}:cv σ fr (.sl b u off len)=view σ fr vd (.sl b u off len):=(rfl)
theorem aea{b u off:Nat}:cv σ fr (.ptr b u off)=view σ fr vd (.ptr b u off):=(rfl)
theorem B4{l:List AV}:cv σ fr (.agg l)=view σ fr vd (.agg l):=(rfl)
theorem aeb{t:Nat}{l:AV}:cv σ fr (.iface t l)=view σ fr vd (.iface t l):=(rfl)
theorem aec{l:List AV}:cv σ fr (.bQ l)=match bV (view σ fr vd) l with
  |none=>none
  |some l=>some (.bQ l):=(rfl)
end
attribute [simp] ad3 ad4 ad5 ad6 ad7 ad8 ad9 aea B4 aeb aec
attribute [simp] adP adQ adR adS adT adU adV adW adX adY adZ ad0 ad1 ad2 bT
attribute [simp ↓] al adN adO aaG aaH aaI aav aax aaA aaB aaC aaD aaE aaF aaJ aaK aaL aaM aaN aaO aaP aaQ aaR adK adL adM
theorem aed (n:Int):AV.cells (.int n)=[(.int n)]:=(rfl)
theorem aee (n:Int):bz (.int n)=true:=(rfl)
theorem aef (n:Int):wk (.int n)=(.int n):=(rfl)
theorem aeg (n:Int):fR (.int n)=(.int n):=(rfl)
theorem aeh (k:Nat) (n:Int):AV.cells (.ik k n)=[(.ik k n)]:=(rfl)
theorem aei (k:Nat) (n:Int):bz (.ik k n)=true:=(rfl)
theorem PD (k:Nat) (n:Int):wk (.ik k n)=(.ik k n):=(rfl)
theorem aej (k:Nat) (n:Int):fR (.ik k n)=(.ik k n):=(rfl)
theorem aek (b:Bool):AV.cells (.bool b)=[(.bool b)]:=(rfl)
theorem ael (b:Bool):bz (.bool b)=true:=(rfl)
theorem aem (b:Bool):wk (.bool b)=(.bool b):=(rfl)
theorem aen (b:Bool):fR (.bool b)=(.bool b):=(rfl)
theorem aeo (l:List UInt8):AV.cells (.str l)=[(.str l)]:=(rfl)
theorem aep (l:List UInt8):bz (.str l)=true:=(rfl)
theorem aeq (l:List UInt8):wk (.str l)=(.str l):=(rfl)
theorem aer (l:List UInt8):fR (.str l)=(.str l):=(rfl)
theorem aes  : AV.cells .ah=[.ah]:=(rfl)
theorem aet  : bz .ah=true:=(rfl)
theorem aeu  : wk .ah=(.aE false []):=(rfl)
theorem aev  : fR .ah=(.aE false []):=(rfl)
theorem aew (b:Bool) (l:List AV):AV.cells (.aE b l)=[(.aE b l)]:=(rfl)
theorem aex (b:Bool) (l:List AV):bz (.aE b l)=true:=(rfl)
theorem aey (b:Bool) (l:List AV):wk (.aE b l)=(.aE false l):=(rfl)
theorem aez (b:Bool) (l:List AV):fR (.aE b l)=(.aE false l):=(rfl)
theorem aeA (l:List AV):AV.cells (.arr l)=[(.arr l)]:=(rfl)
theorem aeB (l:List AV):bz (.arr l)=true:=(rfl)
theorem aeC (l:List AV):wk (.arr l)=(.arr l):=(rfl)
theorem aeD (l:List AV):fR (.arr l)=(.arr l):=(rfl)
theorem aeE (b u o n:Nat):AV.cells (.sl b u o n)=[(.sl b u o n)]:=(rfl)
theorem aeF (b u o n:Nat):bz (.sl b u o n)=true:=(rfl)
theorem PF (b u o n:Nat):wk (.sl b u o n)=(.sl b u o n):=(rfl)
theorem aeG (b u o n:Nat):fR (.sl b u o n)=(.sl b u o n):=(rfl)
theorem aeH  : AV.cells .ig=[.ig]:=(rfl)
theorem aeI  : bz .ig=true:=(rfl)
theorem aeJ  : wk .ig = .ig:=(rfl)
theorem aeK  : fR .ig = .ig:=(rfl)
theorem aeL (v:AV):AV.cells (.bd v)=[(.bd v)]:=(rfl)
theorem aeM (v:AV):bz (.bd v)=true:=(rfl)
theorem aeN (v:AV):wk (.bd v)=(.bd v):=(rfl)
theorem aeO (v:AV):fR (.bd v)=(.bd v):=(rfl)
theorem aeP (b:Nat):AV.cells (.cM b)=[(.cM b)]:=(rfl)
theorem aeQ (b:Nat):bz (.cM b)=true:=(rfl)
theorem aeR (b:Nat):wk (.cM b)=(.cM b):=(rfl)
theorem aeS (b:Nat):fR (.cM b)=(.cM b):=(rfl)
theorem aeT (b u o:Nat):AV.cells (.ptr b u o)=[(.ptr b u o)]:=(rfl)
theorem aeU (b u o:Nat):bz (.ptr b u o)=true:=(rfl)
theorem aeV (b u o:Nat):wk (.ptr b u o)=(.ptr b u o):=(rfl)
theorem aeW (b u o:Nat):fR (.ptr b u o)=(.ptr b u o):=(rfl)
theorem aeX  : AV.cells .kH=[.kH]:=(rfl)
theorem aeY  : bz .kH=true:=(rfl)
theorem aeZ  : wk .kH = .kH:=(rfl)
theorem ae0  : fR .kH = .kH:=(rfl)
theorem ae1 (f:Nat) (l:List AV):AV.cells (.func f l)=[(.func f l)]:=(rfl)
theorem ae2 (f:Nat) (l:List AV):bz (.func f l)=true:=(rfl)
theorem ae3 (f:Nat) (l:List AV):wk (.func f l)=(.func f l):=(rfl)
theorem ae4 (f:Nat) (l:List AV):fR (.func f l)=(.func f l):=(rfl)
theorem ae5  : AV.cells .gQ=[.gQ]:=(rfl)
theorem ae6  : bz .gQ=true:=(rfl)
theorem ae7  : wk .gQ = .gQ:=(rfl)
theorem ae8  : fR .gQ = .gQ:=(rfl)
theorem ae9 (t:Nat) (v:AV):AV.cells (.iface t v)=[(.iface t v)]:=(rfl)
theorem afa (t:Nat) (v:AV):bz (.iface t v)=true:=(rfl)
theorem afb (t:Nat) (v:AV):wk (.iface t v)=(.iface t v):=(rfl)
theorem afc (t:Nat) (v:AV):fR (.iface t v)=(.iface t v):=(rfl)
theorem afd (l:List AV):AV.cells (.agg l)=l:=(rfl)
theorem afe (l:List AV):wk (.agg l) = .agg (l.map fR):=(rfl)
theorem aff (l:List AV):fR (.agg l) = .agg l:=(rfl)
def dK:AV->Bool
 |.aM | .bQ _ | .agg _=>false
 |_=>true
theorem afg (l:List AV):bz (.agg l)=l.all dK:=by
 rfl
theorem afh (n:Int):dK (.int n)=true:=(rfl)
theorem afi (k:Nat) (n:Int):dK (.ik k n)=true:=(rfl)
theorem afj (b:Bool):dK (.bool b)=true:=(rfl)
theorem afk (l:List UInt8):dK (.str l)=true:=(rfl)
theorem afl  : dK .ah=true:=(rfl)
theorem afm (b:Bool) (l:List AV):dK (.aE b l)=true:=(rfl)
theorem afn (l:List AV):dK (.arr l)=true:=(rfl)
theorem afo (b u o n:Nat):dK (.sl b u o n)=true:=(rfl)
theorem afp  : dK .ig=true:=(rfl)
theorem afq (v:AV):dK (.bd v)=true:=(rfl)
theorem afr (b u o:Nat):dK (.ptr b u o)=true:=(rfl)
theorem afs  : dK .kH=true:=(rfl)
theorem afu (f:Nat) (l:List AV):dK (.func f l)=true:=(rfl)
theorem afv  : dK .gQ=true:=(rfl)
theorem afw (t:Nat) (v:AV):dK (.iface t v)=true:=(rfl)
attribute [simp] aeP aeQ aeR aeS aed aee aef aeg aeh aei PD aej aek ael aem aen aeo aep aeq aer aes aet aeu aev aew aex aey aez aeA aeB aeC aeD aeE aeF PF aeG aeH aeI aeJ aeK aeL aeM aeN aeO aeT aeU aeV aeW aeX aeY aeZ ae0 ae1 ae2 ae3 ae4 ae5 ae6 ae7 ae8 ae9 afa afb afc afd afe aff afg afh afi afj afk afl afm afn afo afp afq afr afs afu afv afw
attribute [simp] results bV jy rv nth eT dG outs y5 part oP ax aN
theorem afx{st:Nat}:fitAll st []=true:=(rfl)
theorem PG{st:Nat}{x:AV}{l:List AV}:fitAll st (x::l)=(x.cells.length==st&&bz x&&fitAll st l):=(rfl)
theorem B5{α:Type}{f:α->AV}{st:Nat}(h:∀x,(f x).cells.length=st/\bz (f x)=true):∀{l:List α},fitAll st (l.map f)=true
 | []=>rfl
 |x::l=>by simp only[db,PG,h x,B5 h (l:=l),kW,Bool.and_self]
theorem afy{l:List Int}:fitAll 1 (l.map .int)=true:=B5 (f:=AV.int) λ_=>⟨rfl,rfl⟩
theorem afz{l:List Bool}:fitAll 1 (l.map .bool)=true:=B5 (f:=AV.bool) λ_=>⟨rfl,rfl⟩
theorem afA{α:Type}{b:Bool}{f:α->List AV}{l:List α}:fitAll 1 (l.map λx=>.aE b (f x))=true:=B5 (f:=λx=>AV.aE b (f x)) λ_=>⟨rfl,rfl⟩
theorem y8{α:Type}{f:α->AV}(h:∀x,(f x).cells=[f x]):∀{l:List α},(l.map f).flatMap AV.cells=l.map f
 | []=>rfl
 |x::l=>by simp only[db,jD,h x,y8 h (l:=l)];rfl
theorem afB{l:List Int}:(l.map AV.int).flatMap AV.cells=l.map .int:=y8 (f:=AV.int) λ_=>rfl
theorem afC{l:List Bool}:(l.map AV.bool).flatMap AV.cells=l.map .bool:=y8 (f:=AV.bool) λ_=>rfl
theorem afD{α:Type}{b:Bool}{f:α->List AV}{l:List α}:(l.map λx=>AV.aE b (f x)).flatMap AV.cells=l.map λx=>.aE b (f x):=y8 (f:=λx=>AV.aE b (f x)) λ_=>rfl
attribute [simp] afx PG afy afz afA afB afC afD
theorem afE:eo.isLive .live=true:=(rfl)
theorem afF:eo.isLive .jN=false:=(rfl)
theorem afG:aC none=1:=(rfl)
theorem afH{n:Nat}:aC (some n)=n:=(rfl)
theorem afI:tQ none none=true:=(rfl)
theorem afJ{a b:Nat}:tQ (some a) (some b)=(a==b):=(rfl)
attribute [simp] afE afF afG afH afI afJ
@[reducible] def qG:List AV->List AV->List AV
 |cs,[]=>cs
 | [],_=>[]
 |_::cs,y::new=>y::qG cs new
@[reducible] def nS:List AV->Nat->List AV->List AV
 |cs,0,new=>qG cs new
 | [],_,_=>[]
 |x::cs,n+1,new=>x::nS cs n new
theorem PH:∀{cs new:List AV},new.length<=cs.length->qG cs new=new++cs.drop new.length
 |cs,[],_=>by cases cs<;>simp[qG]
 | [],y::new,h=>by simp at h
 |c::cs,y::new,h=>by simp[qG,PH (cs:=cs) (new:=new) (by simpa using h)]
theorem vE:∀{cs:List AV}{o:Nat}{new:List AV},o+new.length<=cs.length->putAt cs o new=nS cs o new
 |cs,0,new,h=>by
  have e:nS cs 0 new=qG cs new:=by cases cs<;>rfl
  rw[e,PH (by simpa using h)];simp[putAt]
 | [],o+1,new,h=>by simp at h
 |c::cs,o+1,new,h=>by
  have e:=vE (cs:=cs) (o:=o) (new:=new) (by simp at h;omega)
  simp only[nS];rw[<-e];simp only[putAt,List.take_succ_cons,kX]
  congr 2
  rw[show o+1+new.length=(o+new.length)+1 by omega,List.drop_succ_cons]
section
variable{K:List AV->Prop}{t:Tk K}
theorem PI{cs:List AV}{o:Nat}{new:List AV}:pU cs o new K t=(o+new.length<=cs.length/\nL (nS cs o new) K .k):=by
 unfold pU yZ nL
 by_cases h:o+new.length<=cs.length
 ·simp only[h,true_and];rw[vE h]
 ·simp[h]
theorem PJ{α:Type}{f:α->AV}{xs:List α}{o:Nat}{y:α}(h:o<xs.length):putAt (xs.map f) o [f y]=(xs.set o y).map f:=by
 unfold putAt;rw[List.set_eq_take_append_cons_drop,ab h];simp[List.map_take,List.map_drop]
theorem uG{α:Type}{f:α->AV}{xs:List α}{o:Nat}{y:α}:pU (xs.map f) o [f y] K t=(o<xs.length/\K ((xs.set o y).map f)):=by
 unfold pU yZ
 by_cases h:o<xs.length
 ·simp only[dR,List.length_singleton,PJ h]
  simp[h];omega
 ·simp[h]
  intro h'; omega
theorem afK{xs:List Int}{o:Nat}{y:Int}:pU (xs.map .int) o [AV.int y] K t=(o<xs.length/\K ((xs.set o y).map .int)):=uG
theorem afL{xs:List Bool}{o:Nat}{y:Bool}:pU (xs.map .bool) o [AV.bool y] K t=(o<xs.length/\K ((xs.set o y).map .bool)):=uG
theorem PK{xs:List (List Int)}{o:Nat}{y:List Int}:pU (xs.map iL) o [AV.aE false (y.map .int)] K t=(o<xs.length/\K ((xs.set o y).map iL)):=uG
theorem PL{xs:List (List Bool)}{o:Nat}{y:List Bool}:pU (xs.map bL) o [AV.aE false (y.map .bool)] K t=(o<xs.length/\K ((xs.set o y).map bL)):=uG
theorem afM{xs:List Int}{n:Int}{y:Int}:pU (xs.map .int) (0+n.toNat*1) [AV.int y] K t=(n.toNat<xs.length/\K ((xs.set n.toNat y).map .int)):=by
 rw[show 0+n.toNat*1=n.toNat by omega];exact uG
theorem afN{xs:List Bool}{n:Int}{y:Bool}:pU (xs.map .bool) (0+n.toNat*1) [AV.bool y] K t=(n.toNat<xs.length/\K ((xs.set n.toNat y).map .bool)):=by
 rw[show 0+n.toNat*1=n.toNat by omega];exact uG
theorem afO{xs:List Int}:nC (xs.map .int) K t=K (xs.map .int):=(rfl)
theorem afP{xs:List Bool}:nC (xs.map .bool) K t=K (xs.map .bool):=(rfl)
theorem PM{xs:List (List Int)}:nC (xs.map iL) K t=K (xs.map iL):=(rfl)
theorem B6{α:Type}{f:α->AV}{xs:List α}{y:α}:nC (xs.map f ++ [f y]) K t=K ((xs ++ [y]).map f):=by simp[nC]
theorem afQ{xs:List Int}{y:Int}:nC (xs.map .int ++ [.int y]) K t=K ((xs ++ [y]).map .int):=B6
theorem afR{xs:List Bool}{y:Bool}:nC (xs.map .bool ++ [.bool y]) K t=K ((xs ++ [y]).map .bool):=B6
theorem afS{xs:List (List Int)}{y:List Int}:nC (xs.map iL ++ [.aE false (y.map .int)]) K t=K ((xs ++ [y]).map iL):=B6
theorem afT{xs:List (List Bool)}{y:List Bool}:nC (xs.map bL ++ [.aE false (y.map .bool)]) K t=K ((xs ++ [y]).map bL):=B6
theorem afU{α:Type}{f:α->AV}{xs ys:List α}:nC (xs.map f++ys.map f) K t=K ((xs++ys).map f):=by simp[nC]
theorem afV{y:AV}:nC ([] ++ [y]) K t=K [y]:=(rfl)
theorem afW{ys:List AV}:nC ([]++ys) K t=K ys:=(rfl)
theorem afX:nC [] K t=K []:=(rfl)
theorem afY{x:AV}:nC [x] K t=K [x]:=(rfl)
theorem afZ{xs:List Int}{o:Nat}{y:Int}(h:o<xs.length):nC (putAt (xs.map .int) o [.int y]) K t=K ((xs.set o y).map .int):=by
 unfold nC;rw[PJ h]
theorem H7{n:Nat}{x:AV}:nC (eH n [x]) K t=K (List.replicate n x):=by
 unfold nC eH;congr 1;simp
theorem af0{n:Nat}{b:Bool}:nC (eH n [.bool b]) K t=K ((List.replicate n b).map .bool):=by rw[H7];simp
theorem af1{n:Nat}{b:Int}:nC (eH n [.int b]) K t=K ((List.replicate n b).map .int):=by rw[H7];simp
theorem H8{α:Type}{f:α->AV}(h:∀x,(f x).cells=[f x]){xs:List α}:nC ((xs.map f).flatMap AV.cells) K t=K (xs.map f):=by rw[y8 h];rfl
theorem af2{xs:List Int}:nC ((xs.map AV.int).flatMap AV.cells) K t=K (xs.map .int):=H8 λ_=>rfl
theorem af3{xs:List Bool}:nC ((xs.map AV.bool).flatMap AV.cells) K t=K (xs.map .bool):=H8 λ_=>rfl
theorem af4{xs:List (List Int)}:nC ((xs.map iL).flatMap AV.cells) K t=K (xs.map iL):=H8 λ_=>rfl
end
section
variable{K:AV->Prop}{t:Tk K}
theorem F8{α:Type} [Inhabited α]{f:α->AV}{xs:List α}{n:Int}:pT (xs.map f) (0+n.toNat*1) none K t=(n.toNat<xs.length/\K (f (ix xs n))):=by
 unfold pT part;rw[show 0+n.toNat*1=n.toNat by omega]
 simp only[nN,ie,ix,gG]
 by_cases h:n.toNat<xs.length
 ·rw[dc h];simp[aP,h]
 ·rw[jF (by omega)];simp[aP,h]
theorem af5{α:Type} [Inhabited α]{f:α->AV}{xs:List α}{n:Nat}:pT (xs.map f) n none K t=(n<xs.length/\K (f (ix xs n))):=by
 have:=F8 (K:=K) (t:=t) (f:=f) (xs:=xs) (n:=n);simpa using this
end
section
variable{K:AV->Prop}{t:Tk K}
end
theorem PN{L:CE}{f:Nat}{l:List AV}{σ:List ag}{K:AV->List ag->Prop}{t:Tk K}:lX L f l σ K t=oK (L f l σ) (λp=>K p.1 p.2) .k:=(rfl)
attribute [simp ↓ 20000] afK afL PK PL afM afN F8 afO afP PM afQ afR afS afT afU afV afW afX afY afZ af0 af1 af2 af3 af4
attribute [simp ↓] PI H7 PN
attribute [simp ↓ 10500] af5
theorem af6:dE=1073741824:=(rfl)
attribute [simp] af6
def qh{α:Type}:List α->eo
 | []=>.jN
 |_::_=>.live
theorem af7{α:Type}:qh ([]:List α) = .jN:=(rfl)
theorem af8{α:Type}{x:α}{l:List α}:qh (x::l) = .live:=(rfl)
theorem af9{α:Type}{l:List α}:(qh l).gw=true:=by cases l<;>rfl
theorem aga:eo.gw .live=true:=rfl
theorem agb:eo.gw .jN=true:=rfl
theorem agc:eo.gw .dead=false:=rfl
theorem agd{es:List (AV×AV)}:eo.gw (.map es)=false:=rfl
theorem age{α:Type}{x:α}{l:List α}:qh (l ++ [x]) = .live:=by cases l<;>rfl
theorem agf{α:Type}{k:Nat}{x:α}{l:List α}:qh (l.set k x)=qh l:=by cases l<;>cases k<;>rfl
theorem agh{α:Type}{l:List α}:((qh l).isLive=true)=(l ≠ []):=by cases l<;>simp[qh,eo.isLive]
theorem agi{α β:Type}{f:α->β}{l:List α}:qh (l.map f)=qh l:=by cases l<;>rfl
attribute [simp] af7 af8 af9 aga agb agc agd age agf agh agi
theorem ba{α:Type}{f:α->List (Nat×AV)}{g:α->List ag}{I:α->Prop}{μ:α->Nat}{m:Nat}{vs u7 : List AV}{σ:List ag}{Q:Ex->St->Prop}(a:α) (h:u7 = bT (f a) vs) (hg:σ=g a) (hI:I a) (hm:μ a<m):More f g I μ m vs Q .fm ⟨u7, none,σ⟩:=⟨a,by rw[h,hg],hI,hm⟩
theorem agj{cs:List AV}{K:List AV->Prop}{t:Tk K}:oK (gS cs []) K t=K cs:=(rfl)
theorem agk{cs:List AV}{o n:Nat}{x:AV}{r:List (Nat×Nat×AV)}{K:List AV->Prop}{t:Tk K}:oK (gS cs ((o,n,x)::r)) K t=nx x (λx=>(x.cells.length=n/\o+n<=cs.length/\bz x=true)/\nL (nS cs o x.cells) (λcs=>oK (gS cs r) K .k) .k) .k:=by
 unfold nx nL oK
 by_cases h:x.cells.length=n/\o+n<=cs.length/\bz x=true
 ·have e:=vE (cs:=cs) (o:=o) (new:=x.cells) (by rw[h.1];exact h.2.1)
  simp only[h,and_self,true_and,gS,<-e];simp[h]
 ·have e:gS cs ((o,n,x)::r)=none:=by
   unfold gS;rw[aa];simp only[aD,cL,eP,and_assoc];exact h
  rw[e];simp only[h,false_and,aP]
attribute [simp ↓] agj agk
end Ab
