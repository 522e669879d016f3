/- The interpreter with as much fuel as is wanted: more fuel gives the same answer; the limit, and that it is reached. What is to be shown of a run of the interpreter, as a formula that simp can print. How each line of a region reads: one rule a kind of line. Rules for simp: how the conditions of a run read. More rules for simp: cells of blocks as lists of numbers. Condition: none. -/
import Derived.Test.YtdenhmniigikcaaGreatAbCore
set_option linter.all false
namespace Ab
def CE.le (a b:CE):Prop:=∀f args σ x,a f args σ=some x->b f args σ=some x
theorem uq{a b:CE}(h:CE.le a b){f:Nat}{args:List AV}{x:AV}(e:je a f args=some x):je b f args=some x:=by
 unfold je at e ⊢;split at e
 case isFalse=>simp at e
 rename_i hn;rw[ae hn];cases hc:a f (args.map wk) []with
 |none=>simp[hc]at e
 |some r=>rw[h _ _ _ _ hc];simpa[hc]using e
theorem B7{a b:CE}(h:CE.le a b){σ:List ag}{nl:Nat}{ps:List aZ}{r:Rf->AV}{o:cW}{x:AV×Option aZ}(e:ev a σ nl ps r o=some x):ev b σ nl ps r o=some x:=by
 cases o
 case bW f args=>
  simp only[ev,nG]at e ⊢;obtain⟨y,h1,h2⟩:=e;exact⟨y,uq h h1,h2⟩
 case lG y args=>
  simp only[ev]at e ⊢;cases hr:r y<;>simp only[hr]at e<;>try(simp at e;done)
  simp only[nG]at e ⊢;obtain⟨y,h1,h2⟩:=e;exact⟨y,uq h h1,h2⟩
 case inv y gE args=>
  simp only[ev]at e ⊢;cases hr:r y<;>simp only[hr]at e<;>try(simp at e;done)
  rename_i t v;cases ht:eM gE t with
  |none=>simp[ht]at e
  |some f=>
   simp only[ht,nG]at e ⊢;obtain⟨y,h1,h2⟩:=e;exact⟨y,uq h h1,h2⟩
 case can f args=>
  simp only[ev]at e ⊢;split at e
  case isFalse=>simp at e
  rename_i hn;rw[ae hn];cases hc:a f (args.map r) []with
  |none=>simp[hc]at e
  |some q=>rw[h _ _ _ _ hc];simpa[hc]using e
 case tS f args=>
  simp only[ev]at e ⊢;cases hm:bZ (λx=>view σ false vd (r x)) args with
  |none=>simp[hm]at e
  |some vs=>
   simp only[hm]at e ⊢;cases hc:a f vs []with
   |none=>simp[hc]at e
   |some q=>rw[h _ _ _ _ hc];simpa[hc]using e
 all_goals exact e
theorem aaP{a b:CE}(h:CE.le a b){σ:List ag}{r:Rf->AV}{o:cW}{x:AV×List ag}(e:fF a σ r o=some x):fF b σ r o=some x:=by
 cases o
 case fI f args=>exact h _ _ _ _ e
 case kW y args=>
  simp only[fF]at e ⊢;cases hr:r y<;>simp only[hr]at e<;>try(simp at e;done)
  exact h _ _ _ _ e
 case qc y gE args=>
  simp only[fF]at e ⊢;cases hr:r y<;>simp only[hr]at e<;>try(simp at e;done)
  rename_i t v;cases ht:eM gE t with
  |none=>simp[ht]at e
  |some f=>simp only[ht]at e ⊢;exact h _ _ _ _ e
 case st=>exact e
 case df=>exact e
 case vm=>exact e
 case vl=>exact e
 case xF=>exact e
 case Gj=>exact e
 all_goals
  simp only[fF]at e ⊢;split at e
  ·rename_i hc;rw[B7 h hc];exact e
  ·rename_i hc;rw[B7 h hc];exact e
  ·simp at e
theorem Oo{a b:CE}(h:CE.le a b){vars:List AV}{s s' : LS}{l:Ln}(e:dg a vars s l=some s'):dg b vars s l=some s' :=by
 unfold dg at e ⊢;split at e
 ·simp at e
 ·exact e
 ·split at e
  ·rename_i hw
   rw[ae hw];split at e
   ·rename_i hc;rw[aaP h hc];exact e
   ·simp at e
  ·rename_i hw
   rw[ab hw];split at e
   ·rename_i hc;rw[B7 h hc];exact e
   ·rename_i hc;rw[B7 h hc];exact e
   ·simp at e
theorem Iv{a b:CE}(h:CE.le a b){vars:List AV}:∀{ls:List Ln}{s s' : LS},lines a vars ls s=some s' ->lines b vars ls s=some s'
 | [],_,_,e=>e
 |l::ls,s,s', e=>by
  simp only[lines]at e ⊢;cases h1:dg a vars s l with
  |none=>simp[h1]at e
  |some q=>rw[Oo h h1];simp only[h1]at e;exact Iv h e
theorem aaQ{a b:CE}(h:CE.le a b){r:gh}{s s' : St}(e:dq a r s=some s'):dq b r s=some s' :=by
 unfold dq at e ⊢;cases h1:lines a s.vars r.ls ⟨[],s.σ,s.σ⟩with
 |none=>simp[h1]at e
 |some q=>rw[Iv h h1];simpa[h1]using e
theorem y7{f g:St->Option (Ex×St)}(h:∀s x,f s=some x->g s=some x):∀{n m:Nat}{s:St}{x:Ex×St},n<=m->iter f n s=some x->iter g m s=some x
 |0,_,_,_,_,e=>by simp[iter]at e
 |n+1,0,_,_,hn,_=>by omega
 |n+1,m+1,s,x,hn,e=>by
  simp only[iter]at e ⊢;cases h1:f s with
  |none=>simp[h1]at e
  |some q=>
   rw[h _ _ h1];obtain⟨e1,s1⟩:=q;cases e1 with
   |ft=>simp only[h1]at e ⊢;exact y7 h (by omega) e
   |exit j=>simpa[h1]using e
   |ret=>simpa[h1]using e
theorem rH{a b:CE}(h:CE.le a b){n m:Nat}(hn:n<=m):∀(c:IC) (s:St) (x:Ex×St),exec n a c s=some x->exec m b c s=some x:=by
 intro c
 induction c with
 |skip=>intro s x e;simpa[exec]using e
 |aa r=>
  intro s x e;simp only[exec]at e ⊢;cases h1:dq a r s with
  |none=>simp[h1]at e
  |some q=>rw[aaQ h h1];simpa[h1]using e
 |seq c d y8 y9=>
  intro s x e;simp only[exec]at e ⊢;cases h1:exec n a c s with
  |none=>simp[h1]at e
  |some q=>
   rw[y8 _ _ h1];obtain⟨e1,s1⟩:=q;cases e1 with
   |ft=>simp only[h1]at e ⊢;exact y9 _ _ e
   |exit j=>simpa[h1]using e
   |ret=>simpa[h1]using e
 |cond t c d y8 y9=>
  intro s x e;simp only[exec]at e ⊢;split at e
  ·split at e
   ·split at e
    ·rename_i h1 h2 h3;rw[ae h2,ae h3];exact y8 _ _ e
    ·rename_i h1 h2 h3;rw[ae h2,ab h3];exact y9 _ _ e
   ·simp at e
  ·simp at e
 |kR k c d y8 y9=>
  intro s x e;simp only[exec]at e ⊢;split at e
  ·split at e
   ·rename_i h1 h2;rw[ae h2];exact y8 _ _ e
   ·rename_i h1 h2;rw[ab h2];exact y9 _ _ e
  ·simp at e
 |block id c ih=>
  intro s x e;simp only[exec]at e ⊢;cases h1:exec n a c s with
  |none=>simp[h1]at e
  |some q=>rw[ih _ _ h1];simpa[h1]using e
 |loop c ih=>
  intro s x e;simp only[exec]at e ⊢;exact y7 ih hn e
 |exit id=>intro s x e;simpa[exec]using e
 |ret=>intro s x e;simpa[exec]using e
 |lB k=>intro s x e;simpa[exec]using e
 |bad=>intro s x e;simp[exec]at e
 |cut b c ih=>intro s x e;simp only[exec]at e ⊢;exact ih _ _ e
 |Gp c ih=>intro s x e;simp only[exec]at e ⊢;exact ih _ _ e
 |lex c ih=>
  intro s x e;simp only[exec]at e ⊢;cases h1:exec n a c s with
  |none=>simp[h1]at e
  |some q=>rw[ih _ _ h1];simpa[h1]using e
def dV (Q:kg):Prop:=∀f p,Q f=some p->∀a b:CE,CE.le a b->∀args σ v,p a args σ=some v->p b args σ=some v
section
variable{G:Nat->Option Fn}{Q:kg}
theorem B8 (hQ:dV Q){n m:Nat}(hn:n<=m):∀{d e:Nat},d<=e->CE.le (dJ G Q n d) (dJ G Q m e)
 |0,_,_=>λf args σ x h=>by simp[dJ]at h
 |d+1,0,h=>by omega
 |d+1,e+1,hd=>λf args σ x h=>by
  have ih:=B8 hQ hn (show d<=e by omega)
  simp only[dJ]at h ⊢;cases hq:Q f with
  |some p=>
   simp only[hq]at h ⊢;exact hQ f p hq _ _ ih _ _ _ h
  |none=>
   simp only[hq]at h ⊢;cases hg:G f with
   |none=>simp[hg]at h
   |some fn=>
    simp only[hg]at h ⊢;split at h
    case isFalse=>simp at h
    rename_i hl;rw[ae hl];cases he:exec n (dJ G Q n d) fn.body {vars:=args++List.replicate (fn.nv-fn.np) .aM,fl:=none,σ}with
    |none=>simp[he]at h
    |some q=>rw[rH ih hn _ _ _ he];simpa[he]using h
def cN (G:Nat->Option Fn) (Q:kg) (n:Nat):CE:=dJ G Q n n
theorem sL (hQ:dV Q){n m:Nat}(hn:n<=m):CE.le (cN G Q n) (cN G Q m):=B8 hQ hn hn
open Classical in
noncomputable def lim (G:Nat->Option Fn) (Q:kg):CE:=λf args σ=>if h:∃x,∃N,cN G Q N f args σ=some x then some (choose h)else none
theorem B9 (hQ:dV Q){N f:Nat}{args:List AV}{σ:List ag}{x:AV×List ag}(h:cN G Q N f args σ=some x):lim G Q f args σ=some x:=by
 have hx:∃x,∃N,cN G Q N f args σ=some x:=⟨x,N,h⟩;unfold lim;rw[dif_pos hx];obtain⟨M,hM⟩:=Classical.choose_spec hx;have h1:=sL (G:=G) hQ (Nat.le_max_left N M) _ _ _ _ h;have h2:=sL (G:=G) hQ (Nat.le_max_right N M) _ _ _ _ hM;rw[h1]at h2;exact h2.symm
theorem uE{f:Nat}{args:List AV}{σ:List ag}{x:AV×List ag}(h:lim G Q f args σ=some x):∃N,cN G Q N f args σ=some x:=by
 unfold lim at h;split at h
 ·rename_i hx
  obtain⟨M,hM⟩:=Classical.choose_spec hx;exact⟨M,by rw[hM];exact h⟩
 ·simp at h
variable (hQ:dV Q)
include hQ
theorem yH{f:Nat}{args:List AV}{x:AV}(e:je (lim G Q) f args=some x):∃N,je (cN G Q N) f args=some x:=by
 unfold je at e;split at e
 case isFalse=>simp at e
 rename_i hn;cases hc:lim G Q f (args.map wk) []with
 |none=>simp[hc]at e
 |some r=>
  obtain⟨N,hN⟩:=uE hc;exact⟨N,by unfold je;rw[ae hn,hN];simpa[hc]using e⟩
theorem Ca{σ:List ag}{nl:Nat}{ps:List aZ}{r:Rf->AV}{o:cW}{x:AV×Option aZ}(e:ev (lim G Q) σ nl ps r o=some x):∃N,ev (cN G Q N) σ nl ps r o=some x:=by
 cases o
 case bW f args=>
  simp only[ev,nG]at e ⊢;obtain⟨y,h1,h2⟩:=e;obtain⟨N,hN⟩:=yH hQ h1;exact⟨N,y,hN,h2⟩
 case lG y args=>
  simp only[ev]at e ⊢;cases hr:r y<;>simp only[hr]at e<;>try(simp at e;done)
  simp only[nG]at e ⊢;obtain⟨y,h1,h2⟩:=e;obtain⟨N,hN⟩:=yH hQ h1;exact⟨N,y,hN,h2⟩
 case inv y gE args=>
  simp only[ev]at e ⊢;cases hr:r y<;>simp only[hr]at e<;>try(simp at e;done)
  rename_i t v;cases ht:eM gE t with
  |none=>simp[ht]at e
  |some f=>
   simp only[ht,nG]at e ⊢;obtain⟨y,h1,h2⟩:=e;obtain⟨N,hN⟩:=yH hQ h1;exact⟨N,y,hN,h2⟩
 case can f args=>
  simp only[ev]at e ⊢;split at e
  case isFalse=>simp at e
  rename_i hn;cases hc:lim G Q f (args.map r) []with
  |none=>simp[hc]at e
  |some q=>
   obtain⟨N,hN⟩:=uE hc;exact⟨N,by rw[ae hn,hN];simpa[hc]using e⟩
 case tS f args=>
  simp only[ev]at e ⊢;cases hm:bZ (λx=>view σ false vd (r x)) args with
  |none=>simp[hm]at e
  |some vs=>
   simp only[hm]at e ⊢;cases hc:lim G Q f vs []with
   |none=>simp[hc]at e
   |some q=>
    obtain⟨N,hN⟩:=uE hc;exact⟨N,by rw[hN];simpa[hc]using e⟩
 all_goals exact⟨0,e⟩
theorem aaR{σ:List ag}{r:Rf->AV}{o:cW}{x:AV×List ag}(e:fF (lim G Q) σ r o=some x):∃N,fF (cN G Q N) σ r o=some x:=by
 cases o
 case fI f args=>exact uE e
 case kW y args=>
  simp only[fF]at e ⊢;cases hr:r y<;>simp only[hr]at e<;>try(simp at e;done)
  exact uE e
 case qc y gE args=>
  simp only[fF]at e ⊢;cases hr:r y<;>simp only[hr]at e<;>try(simp at e;done)
  rename_i t v;cases ht:eM gE t with
  |none=>simp[ht]at e
  |some f=>simp only[ht]at e ⊢;exact uE e
 case st=>exact⟨0,e⟩
 case df=>exact⟨0,e⟩
 case vm=>exact⟨0,e⟩
 case vl=>exact⟨0,e⟩
 case xF=>exact⟨0,e⟩
 case Gj=>exact⟨0,e⟩
 all_goals
  simp only[fF]at e ⊢;split at e
  ·rename_i hc;obtain⟨N,hN⟩:=Ca hQ hc;exact⟨N,by rw[hN];exact e⟩
  ·rename_i hc;obtain⟨N,hN⟩:=Ca hQ hc;exact⟨N,by rw[hN];exact e⟩
  ·simp at e
theorem aaS{vars:List AV}{s s' : LS}{l:Ln}(e:dg (lim G Q) vars s l=some s'):∃N,dg (cN G Q N) vars s l=some s' :=by
 unfold dg at e ⊢;cases hw:want vars s.env l.g with
 |none=>simp[hw]at e
 |some b=>
  cases b with
  |false=>exact⟨0,by simpa[hw]using e⟩
  |true=>
   simp only[hw]at e ⊢;split at e
   ·rename_i hW
    split at e
    ·rename_i hc;obtain⟨N,hN⟩:=aaR hQ hc;exact⟨N,by rw[ae hW,hN];exact e⟩
    ·simp at e
   ·rename_i hW
    split at e
    ·rename_i hc;obtain⟨N,hN⟩:=Ca hQ hc;exact⟨N,by rw[ab hW,hN];exact e⟩
    ·rename_i hc;obtain⟨N,hN⟩:=Ca hQ hc;exact⟨N,by rw[ab hW,hN];exact e⟩
    ·simp at e
theorem Oq{vars:List AV}:∀{ls:List Ln}{s s' : LS},lines (lim G Q) vars ls s=some s' ->∃N,lines (cN G Q N) vars ls s=some s'
 | [],_,_,e=>⟨0,e⟩
 |l::ls,s,s', e=>by
  simp only[lines]at e ⊢;cases h1:dg (lim G Q) vars s l with
  |none=>simp[h1]at e
  |some q=>
   simp only[h1]at e;obtain⟨N,hN⟩:=aaS hQ h1;obtain⟨M,hM⟩:=Oq e;refine⟨max N M,?_⟩;rw[Oo (sL hQ (Nat.le_max_left N M)) hN];exact Iv (sL hQ (Nat.le_max_right N M)) hM
theorem aaT{r:gh}{s s' : St}(e:dq (lim G Q) r s=some s'):∃N,dq (cN G Q N) r s=some s' :=by
 unfold dq at e ⊢;cases h1:lines (lim G Q) s.vars r.ls ⟨[],s.σ,s.σ⟩with
 |none=>simp[h1]at e
 |some q=>
  obtain⟨N,hN⟩:=Oq hQ h1;exact⟨N,by rw[hN];simpa[h1]using e⟩
def qf (G:Nat->Option Fn) (Q:kg) (N:Nat) (c:IC) (s:St):Option (Ex×St):=exec N (cN G Q N) c s
omit hQ in
theorem za (hQ:dV Q){n m:Nat}(hn:n<=m){c:IC}{s:St}{x:Ex×St}(h:qf G Q n c s=some x):qf G Q m c s=some x:=rH (sL hQ hn) hn _ _ _ h
theorem aaU{n:Nat}:∀(c:IC) (s:St) (x:Ex×St),exec n (lim G Q) c s=some x->∃N,qf G Q N c s=some x:=by
 intro c
 induction c with
 |skip=>intro s x e;exact⟨0,by simpa[exec,qf]using e⟩
 |aa r=>
  intro s x e;simp only[exec,qf]at e ⊢;cases h1:dq (lim G Q) r s with
  |none=>simp[h1]at e
  |some q=>obtain⟨N,hN⟩:=aaT hQ h1;exact⟨N,by rw[hN];simpa[h1]using e⟩
 |seq c d y8 y9=>
  intro s x e;simp only[exec]at e;cases h1:exec n (lim G Q) c s with
  |none=>simp[h1]at e
  |some q=>
   obtain⟨N,hN⟩:=y8 _ _ h1;obtain⟨e1,s1⟩:=q;cases e1 with
   |ft=>
    simp only[h1]at e;obtain⟨M,hM⟩:=y9 _ _ e;refine⟨max N M,?_⟩;have a1:=za (G:=G) hQ (Nat.le_max_left N M) hN;have a2:=za (G:=G) hQ (Nat.le_max_right N M) hM;simp only[qf,exec]at a1 a2 ⊢;rw[a1];exact a2
   |exit j=>exact⟨N,by simp only[qf,exec]at hN ⊢;rw[hN];simpa[h1]using e⟩
   |ret=>exact⟨N,by simp only[qf,exec]at hN ⊢;rw[hN];simpa[h1]using e⟩
 |cond t c d y8 y9=>
  intro s x e;simp only[exec]at e;split at e
  ·split at e
   ·split at e
    ·rename_i h1 h2 h3;obtain⟨N,hN⟩:=y8 _ _ e;exact⟨N,by simp only[qf,exec,h1,h2,dA]at hN ⊢;rw[ae h3];exact hN⟩
    ·rename_i h1 h2 h3;obtain⟨N,hN⟩:=y9 _ _ e;exact⟨N,by simp only[qf,exec,h1,h2,dA]at hN ⊢;rw[ab h3];exact hN⟩
   ·simp at e
  ·simp at e
 |kR k c d y8 y9=>
  intro s x e;simp only[exec]at e;split at e
  ·split at e
   ·rename_i h1 h2;obtain⟨N,hN⟩:=y8 _ _ e;exact⟨N,by simp only[qf,exec,h1]at hN ⊢;rw[ae h2];exact hN⟩
   ·rename_i h1 h2;obtain⟨N,hN⟩:=y9 _ _ e;exact⟨N,by simp only[qf,exec,h1]at hN ⊢;rw[ab h2];exact hN⟩
  ·simp at e
 |block id c ih=>
  intro s x e;simp only[exec]at e;cases h1:exec n (lim G Q) c s with
  |none=>simp[h1]at e
  |some q=>obtain⟨N,hN⟩:=ih _ _ h1;exact⟨N,by simp only[qf,exec]at hN ⊢;rw[hN];simpa[h1]using e⟩
 |loop c ih=>
  intro s x e;simp only[exec]at e;have go:∀(k:Nat) (s:St),iter (exec n (lim G Q) c) k s=some x->∃N,∃j,iter (qf G Q N c) j s=some x:=by
   intro k
   induction k with
   |zero=>intro s e;simp[iter]at e
   |succ k ihk=>
    intro s e;simp only[iter]at e;cases h1:exec n (lim G Q) c s with
    |none=>simp[h1]at e
    |some q=>
     obtain⟨N,hN⟩:=ih _ _ h1;obtain⟨e1,s1⟩:=q;cases e1 with
     |ft=>
      simp only[h1]at e;obtain⟨M,j,hM⟩:=ihk _ e;refine⟨max N M,j+1,?_⟩;simp only[iter];rw[za (G:=G) hQ (Nat.le_max_left N M) hN];exact y7 (λs x h=>za (G:=G) hQ (Nat.le_max_right N M) h) (bA _) hM
     |exit i=>exact⟨N,1,by simp only[iter];rw[hN];simpa[h1]using e⟩
     |ret=>exact⟨N,1,by simp only[iter];rw[hN];simpa[h1]using e⟩
  obtain⟨N,j,h⟩:=go n s e;refine⟨max N j,?_⟩;simp only[qf,exec];exact y7 (λs x h=>za (G:=G) hQ (Nat.le_max_left N j) h) (Nat.le_max_right N j) h
 |exit id=>intro s x e;exact⟨0,by simpa[exec,qf]using e⟩
 |ret=>intro s x e;exact⟨0,by simpa[exec,qf]using e⟩
 |lB k=>intro s x e;exact⟨0,by simpa[exec,qf]using e⟩
 |bad=>intro s x e;simp[exec]at e
 |cut b c ih=>intro s x e;simp only[exec]at e;obtain⟨N,hN⟩:=ih _ _ e;exact⟨N,by simp only[qf,exec]at hN ⊢;exact hN⟩
 |Gp c ih=>intro s x e;simp only[exec]at e;obtain⟨N,hN⟩:=ih _ _ e;exact⟨N,by simp only[qf,exec]at hN ⊢;exact hN⟩
 |lex c ih=>
  intro s x e;simp only[exec]at e;cases h1:exec n (lim G Q) c s with
  |none=>simp[h1]at e
  |some q=>obtain⟨N,hN⟩:=ih _ _ h1;exact⟨N,by simp only[qf,exec]at hN ⊢;rw[hN];simpa[h1]using e⟩
theorem Ot{f n:Nat}{fn:Fn}{args:List AV}{σ:List ag}{e:Ex}{s:St}{r:AV}(hq:Q f=none) (hg:G f=some fn) (hl:args.length=fn.np)
  (he:exec n (lim G Q) fn.body {vars:=args++List.replicate (fn.nv-fn.np) .aM,fl:=none,σ}=some (e,s)) (hx:∀j,e ≠ .exit j) (hr:results fn s=some r) :
  lim G Q f args σ=some (r,s.σ):=by
 obtain⟨N,hN⟩:=aaU hQ _ _ _ he;refine B9 hQ (N:=N+1) ?_;have h1:exec (N+1) (dJ G Q (N+1) N) fn.body {vars:=args++List.replicate (fn.nv-fn.np) .aM,fl:=none,σ}=some (e,s):=
  rH (B8 hQ (Nat.le_succ N) (bA N)) (Nat.le_succ N) _ _ _ hN
 simp only[cN,dJ,hq,hg,hl,kZ,dA,h1];cases e with
 |exit j=>exact absurd rfl (hx j)
 |ft=>simp[hr]
 |ret=>simp[hr]
omit hQ in
theorem uF (hQ:dV Q){N f:Nat}{p:CE->List AV->List ag->Option (AV×List ag)}{args:List AV}{σ:List ag}{x:AV×List ag}(hq:Q f=some p) (hp:p (cN G Q N) args σ=some x):lim G Q f args σ=some x:=by
 refine B9 hQ (N:=N+1) ?_;simp only[cN,dJ,hq];exact hQ f p hq _ _ (B8 hQ (Nat.le_succ N) (bA N)) _ _ _ hp
end
def W (L:CE) (c:IC) (s:St) (Q:Ex->St->Prop):Prop:=∃n e s', exec n L c s=some (e,s')/\Q e s'
section
variable{L:CE}
theorem wF (L:CE):CE.le L L:=λ_ _ _ _ h=>h
theorem W.mono{c:IC}{s:St}{Q R:Ex->St->Prop}(h:W L c s Q) (hQ:∀e s', Q e s' ->R e s'):W L c s R:=by
 obtain⟨n,e,s', h1,h2⟩:=h;exact⟨n,e,s', h1,hQ e s' h2⟩
theorem aaV{s:St}{Q:Ex->St->Prop}(h:Q .ft s):W L .skip s Q:=⟨0,.ft,s,rfl,h⟩
theorem Ou{s:St}{Q:Ex->St->Prop}(h:Q .ret s):W L .ret s Q:=⟨0,.ret,s,rfl,h⟩
theorem aaW{id:Nat}{s:St}{Q:Ex->St->Prop}(h:Q (.exit id) s):W L (.exit id) s Q:=⟨0,.exit id,s,rfl,h⟩
theorem Ov{r:gh}{s s' : St}{Q:Ex->St->Prop}(h:dq L r s=some s') (hq:Q .ft s'):W L (.aa r) s Q:=⟨0,.ft,s', by simp[exec,h],hq⟩
def aaX (L:CE) (d:IC) (Q:Ex->St->Prop):Ex->St->Prop
 |.ft,s=>W L d s Q
 |e,s=>Q e s
theorem Ow{c d:IC}{s:St}{Q:Ex->St->Prop}(h:W L c s (aaX L d Q)):W L (.seq c d) s Q:=by
 obtain⟨n,e,s1,h1,h2⟩:=h;cases e with
 |ft=>
  obtain⟨m,e', s', h3,h4⟩:=h2;refine⟨max n m,e', s', ?_,h4⟩;simp only[exec];rw[rH (wF L) (Nat.le_max_left n m) _ _ _ h1];exact rH (wF L) (Nat.le_max_right n m) _ _ _ h3
 |exit j=>exact⟨n,.exit j,s1,by simp[exec,h1],h2⟩
 |ret=>exact⟨n,.ret,s1,by simp[exec,h1],h2⟩
theorem aaY{t:Nat}{c d:IC}{vars:List AV}{σ:List ag}{b:Bool}{Q:Ex->St->Prop}(h1:b=true->W L c ⟨vars,none,σ⟩ Q) (h2:b=false->W L d ⟨vars,none,σ⟩ Q):W L (.cond t c d) ⟨vars,some (t,.bool b),σ⟩ Q:=by
 cases b with
 |true=>
  obtain⟨n,e,s', h3,h4⟩:=h1 rfl;exact⟨n,e,s', by simp[exec,h3],h4⟩
 |false=>
  obtain⟨n,e,s', h3,h4⟩:=h2 rfl;exact⟨n,e,s', by simp[exec,h3],h4⟩
theorem aaZ{k:Nat}{c d:IC}{s:St}{b:Bool}{Q:Ex->St->Prop}(hb:nth s.vars k = .bool b) (h1:b=true->W L c s Q) (h2:b=false->W L d s Q):W L (.kR k c d) s Q:=by
 cases b with
 |true=>
  obtain⟨n,e,s', h3,h4⟩:=h1 rfl;exact⟨n,e,s', by simp[exec,hb,h3],h4⟩
 |false=>
  obtain⟨n,e,s', h3,h4⟩:=h2 rfl;exact⟨n,e,s', by simp[exec,hb,h3],h4⟩
def Out (id:Nat) (Q:Ex->St->Prop):Ex->St->Prop
 |.exit j,s=>if j=id then Q .ft s else Q (.exit j) s
 |e,s=>Q e s
theorem aa0{id:Nat}{c:IC}{s:St}{Q:Ex->St->Prop}(h:W L c s (Out id Q)):W L (.block id c) s Q:=by
 obtain⟨n,e,s1,h1,h2⟩:=h;cases e with
 |ft=>exact⟨n,.ft,s1,by simp[exec,h1],h2⟩
 |exit j=>
  by_cases hj:j=id
  ·exact⟨n,.ft,s1,by simp[exec,h1,hj],by simpa[Out,hj]using h2⟩
  ·exact⟨n,.exit j,s1,by simp[exec,h1,hj],by simpa[Out,hj]using h2⟩
 |ret=>exact⟨n,.ret,s1,by simp[exec,h1],h2⟩
def zb (I:St->Prop) (μ:St->Nat) (m:Nat) (Q:Ex->St->Prop):Ex->St->Prop
 |.ft,s=>I s/\μ s<m
 |e,s=>Q e s
end
def Cb (l:List AV) (n:Int) (K:AV->Prop):Prop:=0<=n/\∃y,oU l n.toNat=some y/\K y
def qh (n:Int) (K:AV->Prop):Prop:=(-9223372036854775808<=n/\n<=9223372036854775807)/\K (.int n)
def wG (o:BR) (x y:Int) (K:AV->Prop):Prop:=
 match o with
 |.add=>qh (x+y) K
 |.sub=>qh (x-y) K
 |.mul=>qh (x*y) K
 |.quo=>y ≠ 0/\qh (x.tdiv y) K
 |.rem=>y ≠ 0/\K (.int (x.tmod y))
 |.lss=>K (.bool (decide (x<y)))
 |.leq=>K (.bool (decide (x<=y)))
 |.gtr=>K (.bool (decide (y<x)))
 |.geq=>K (.bool (decide (y<=x)))
 |.eql=>K (.bool (decide (x=y)))
 |.neq=>K (.bool (!decide (x=y)))
 |.uw=>K (.int (wr (x+y)))
def xM (L:CE) (f:Nat) (args:List AV):Option AV:=
 match L f args []with
 |some (v,bp)=>cx bp false v
 |none=>none
def aQ{α:Type}(o:Option α) (K:α->Prop):Prop:=
 match o with
 |some u=>K u
 |none=>False
theorem kL{α:Type}{o:Option α}{K:α->Prop}(h:aQ o K):∃u,o=some u/\K u:=by
 cases o with
 |none=>exact h.elim
 |some u=>exact⟨u,rfl,h⟩
theorem Cc{α:Type}{u:α}{K:α->Prop}:aQ (some u) K=K u:=(rfl)
def rI (L:CE) (f:Nat) (args:List AV) (K:AV->Prop):Prop:=ay args=true/\aQ (xM L f (args.map wk)) K
def LX (L:CE) (f:Nat) (args:List AV) (σ:List ag) (K:AV->List ag->Prop):Prop:=aQ (L f args σ) λp=>K p.1 p.2
def zd (cs:List AV) (off:Nat) (k:Option Nat) (K:AV->Prop):Prop:=aQ (part cs off k) K
def bG (c:Prop) (K:Prop):Prop:=c/\K
def qi (L:CE) (σ:List ag) (nl:Nat) (r:Rf->AV) (op:cW) (K:AV->Option aZ->Prop):Prop:=
 match op with
 |.bin o x y=>match r x,r y with
  |.int a,.int b=>wG o a b λv=>K v none
  |_,_=>False
 |.bP x i st=>match r x,r i with
  |.aE _ l,.int n=>Cb l n λy=>y.cells.length=st/\K (.bd y) none
  |.sl b u off len,.int n=>bG (0<=n/\n<len) (K (.ptr b u (off+n.toNat*st)) none)
  |_,_=>False
 |.fV x i n k=>match r x,r i with
  |.ptr b u o,.int j=>bG (0<=j/\j<n) (K (.ptr b u (o+j.toNat*aC k)) none)
  |.bd v,.int j=>bG (0<=j/\j<n) (aQ (part v.cells (j.toNat*aC k) k) λy=>K (.bd y) none)
  |_,_=>False
 |.bW f args=>rI L f (args.map r) λv=>K v none
 |.lG x args=>match r x with
  |.func f aI=>rI L f (args.map r++aI) λv=>K v none
  |_=>False
 |.inv x gE args=>match r x with
  |.iface t v=>match eM gE t with
   |some f=>rI L f (v::args.map r) λv=>K v none
   |none=>False
  |_=>False
 |.ld x k=>match r x with
  |.bd v=>match k,v with
   |none,.agg _=>False
   |none,v=>K v none
   |some n,.agg l=>l.length=n/\K (.agg l) none
   |some _,_=>False
  |.ptr b u o=>aQ (upto σ b u) λB=>B.st.isLive=true/\zd B.cells o k λy=>K y none
  |_=>False
 |.Gn x=>match r x with
  |.int n=>qh n λv=>K v none
  |.ik _ n=>qh n λv=>K v none
  |_=>False
 |.oP x lo hi st=>match tV r lo,tW r hi with
  |some a,some b=>(match r x with
   |.aE nn l=>bG ((0<=a/\a<=b.getD l.length/\b.getD l.length<=l.length)/\gi st l=true) (K (.aE (nn&&decide (0<l.length)) ((l.drop a.toNat).take ((b.getD l.length).toNat-a.toNat))) none)
   |.sl b' u off len=>aQ (upto σ b' u) λB=>bG ((0<=a/\a<=b.getD len/\b.getD len<=len)/\aC B.k=st) (K (.sl b' u (off+a.toNat*st) ((b.getD len).toNat-a.toNat)) none)
   |_=>False)
  |_,_=>False
 |.tS f args=>aQ (bZ (λx=>view σ false vd (r x)) args) λvs=>LX L f vs [] λv bp =>aQ (cx bp true v) λu=>K u none
 |.can f args=>bG (ay (args.map r)=true) (LX L f (args.map r) [] λv bp =>K (jA nl v) (some (.news (bp.map (gR nl)))))
 |.jV n c z k=>match r n,r c with
  |.int n,.int c=>bG (0<=n/\n<=c/\c<=dG/\z.length=aC k) (K (.sl nl (eG c.toNat z).length 0 n.toNat) (some (.new ⟨k,eG c.toNat z,.live⟩)))
  |_,_=>False
 |.app s x k=>match aG σ k (r x)with
  |none=>False
  |some (n,cs)=>match r s with
   |.sl b u off len=>aQ (upto σ b u) λB=>bG (off=0/\u=len*aC k/\len+n<=dG/\tU B.k k=true) ((n=0->K (.sl b u off len) none)/\(n ≠ 0->cs.length ≠ 0/\K (.sl b (u+cs.length) 0 (len+n)) (some (.grow b cs))))
   |.ah=>(n=0->K .ah none)/\(n ≠ 0->n<=dG/\K (.sl nl cs.length 0 n) (some (.new ⟨k,cs,.live⟩)))
   |.emp=>(n=0->K .emp none)/\(n ≠ 0->n<=dG/\K (.sl nl cs.length 0 n) (some (.new ⟨k,cs,.live⟩)))
   |.arr l=>(n=0->K (if ay l then .aE true l else .arr l) none)/\(n ≠ 0->(fitAll (aC k) l=true/\l.length+n<=dG)/\K (.sl nl (l.flatMap AV.cells++cs).length 0 (l.length+n)) (some (.new ⟨k,l.flatMap AV.cells++cs,.live⟩)))
   |_=>False
 |op=>aQ (ev L σ nl [] r op) λp=>K p.1 p.2
theorem pa{n:Int}:kv n=true↔-9223372036854775808<=n/\n<=9223372036854775807:=by
 simp[kv]
theorem wH{n:Int}{K:AV->Prop}(h:qh n K):kv n=true/\K (.int n):=⟨pa.2 h.1,h.2⟩
theorem aa1{o:BR}{x y:Int}{K:AV->Prop}(h:wG o x y K):∃v,bin o x y=some v/\K v:=by
 cases o<;>simp only[wG]at h<;>simp only[bin]
 case add=>obtain⟨h1,h2⟩:=wH h;exact⟨_,by rw[ae h1],h2⟩
 case sub=>obtain⟨h1,h2⟩:=wH h;exact⟨_,by rw[ae h1],h2⟩
 case mul=>obtain⟨h1,h2⟩:=wH h;exact⟨_,by rw[ae h1],h2⟩
 case quo=>obtain⟨h0,h1,h2⟩:=And.intro h.1 (wH h.2);exact⟨_,by simp[h0,h1],h2⟩
 case rem=>exact⟨_,by simp[h.1],h.2⟩
 case eql=>exact⟨_,rfl,by rwa [show(x==y)=decide (x=y)from rfl]⟩
 case neq=>exact⟨_,rfl,by rwa [show(x==y)=decide (x=y)from rfl]⟩
 all_goals exact⟨_,rfl,h⟩
theorem Iw{L:CE}{f:Nat}{args:List AV}{K:AV->Prop}(h:rI L f args K):∃v,je L f args=some v/\K v:=by
 obtain⟨h1,h2⟩:=h;obtain⟨u,h3,h4⟩:=kL h2;exact⟨u,by unfold je;rw[ae h1];exact h3,h4⟩
theorem dS{L:CE}{f:Nat}{args:List AV}{σ:List ag}{K:AV->List ag->Prop}(h:LX L f args σ K):∃v bp, L f args σ=some (v,bp)/\K v bp :=by
 obtain⟨⟨v,bp⟩,h1,h2⟩:=kL h;exact⟨v,bp, h1,h2⟩
theorem Gx{L:CE}{f:Nat}{args:List AV}{σ bp : List ag}{v:AV}{K:AV->List ag->Prop}(h:L f args σ=some (v,bp)) (k:K v bp):LX L f args σ K:=by unfold LX;rw[h];exact k
theorem cu{L:CE}{f:Nat}{args:List AV}{r:AV}(h:LX L f args [] λv bp =>aQ (cx bp false v) (·= r)):xM L f args=some r:=by
 obtain⟨v,bp, h1,h2⟩:=dS h;obtain⟨u,h3,rfl⟩:=kL h2;simp only[xM,h1,h3]
theorem pb{L:CE}{f:Nat}{args:List AV}{σ bp : List ag}{v:AV}(h:LX L f args σ λv' τ=>v' = v/\τ=bp):L f args σ=some (v,bp):=by
 obtain⟨v', τ,h1,rfl,rfl⟩:=dS h;exact h1
theorem Ox{L:CE}{σ:List ag}{nl:Nat}{r:Rf->AV}{op:cW}{K:AV->Option aZ->Prop}(h:qi L σ nl r op K):∃v p,ev L σ nl [] r op=some (v,p)/\K v p:=by
 unfold qi at h;cases op
 case bin o x y=>
  simp only at h;split at h
  ·rename_i a b ha hb
   obtain⟨v,h1,h2⟩:=aa1 h;exact⟨v,none,by simp only[ev,ha,hb,h1];rfl,h2⟩
  ·exact h.elim
 case bP x i st=>
  simp only at h;split at h
  ·rename_i q l n ha hb
   obtain⟨h0,y,h1,h2,h3⟩:=h;exact⟨_,_,by simp[ev,ha,hb,h0,h1,h2],h3⟩
  ·rename_i b u off len n ha hb
   obtain⟨h0,h1⟩:=h;exact⟨_,_,by simp only[ev,ha,hb];rw[ae h0],h1⟩
  ·exact h.elim
 case fV x i n k=>
  simp only at h;split at h
  ·rename_i b u o j ha hb
   obtain⟨h0,h1⟩:=h;exact⟨_,_,by simp only[ev,ha,hb];rw[ae h0],h1⟩
  ·rename_i v j ha hb
   obtain⟨h0,h1⟩:=h;obtain⟨y,h2,h3⟩:=kL h1;exact⟨_,_,by simp only[ev,ha,hb];rw[ae h0,h2];rfl,h3⟩
  ·exact h.elim
 case bW f args=>
  obtain⟨v,h1,h2⟩:=Iw h;exact⟨v,none,by simp[ev,h1],h2⟩
 case lG x args=>
  simp only at h;split at h
  ·rename_i f aI ha
   obtain⟨v,h1,h2⟩:=Iw h;exact⟨v,none,by simp only[ev,ha,h1];rfl,h2⟩
  ·exact h.elim
 case inv x gE args=>
  simp only at h;split at h
  ·rename_i t q ha
   split at h
   ·rename_i f hf
    obtain⟨v,h1,h2⟩:=Iw h;exact⟨v,none,by simp only[ev,ha,hf,h1];rfl,h2⟩
   ·exact h.elim
  ·exact h.elim
 case ld x k=>
  simp only at h;split at h
  ·rename_i v ha
   split at h
   ·exact h.elim
   ·rename_i v hv;exact⟨_,none,by simp only[ev,ha],h⟩
   ·obtain⟨h1,h2⟩:=h;exact⟨_,none,by simp[ev,ha,h1],h2⟩
   ·exact h.elim
  ·rename_i b u o ha
   obtain⟨B,hB,h⟩:=kL h;obtain⟨h1,h⟩:=h;obtain⟨y,h2,h3⟩:=kL h;exact⟨y,none,by simp only[ev,ha,hB];rw[ae h1,h2];rfl,h3⟩
  ·exact h.elim
 case Gn x=>
  simp only at h;split at h
  ·rename_i n ha
   obtain⟨h1,h2⟩:=wH h;exact⟨_,none,by simp only[ev,ha];rw[ae h1],h2⟩
  ·rename_i k n ha
   obtain⟨h1,h2⟩:=wH h;exact⟨_,none,by simp only[ev,ha];rw[ae h1],h2⟩
  ·exact h.elim
 case oP x lo hi st=>
  simp only at h;split at h
  ·rename_i a b ha hb
   split at h
   ·rename_i nn l hx
    obtain⟨h0,h1⟩:=h;exact⟨_,_,by simp only[ev,ha,hb,hx];rw[ae h0],h1⟩
   ·rename_i b' u off len hx
    obtain⟨B,hB,h0,h1⟩:=kL h;exact⟨_,_,by simp only[ev,ha,hb,hx,hB];rw[ae h0],h1⟩
   ·exact h.elim
  ·exact h.elim
 case tS f args=>
  obtain⟨vs,h1,h2⟩:=kL h;obtain⟨v,bp, h3,h4⟩:=dS h2;obtain⟨u,h5,h6⟩:=kL h4;exact⟨u,none,by simp only[ev,h1,h3,h5];rfl,h6⟩
 case can f args=>
  obtain⟨h1,h2⟩:=h;obtain⟨v,bp, h3,h4⟩:=dS h2;exact⟨_,_,by simp only[ev];rw[ae h1,h3],h4⟩
 case jV n c z k=>
  simp only at h;split at h
  ·rename_i n c ha hb
   obtain⟨h0,h1⟩:=h;exact⟨_,_,by simp only[ev,ha,hb];rw[ae h0],h1⟩
  ·exact h.elim
 case app s x k=>
  simp only at h;split at h
  ·exact h.elim
  ·rename_i n cs hx
   split at h
   ·rename_i b u off len hs
    obtain⟨B,hB,⟨h1,h2,h3,h4⟩,h5,h6⟩:=kL h
    by_cases hn:n=0
    ·subst hn
     exact⟨_,_,by simp only[ev,hx,hs,hB];rw[ae (by simp[h1,h2,h4,oH];omega)];simp,h5 rfl⟩
    ·obtain⟨h7,h8⟩:=h6 hn
     exact⟨_,_,by simp only[ev,hx,hs,hB];rw[ae (by simp[h1,h2,h4,oH];omega)];rw[ab (by simpa using hn),ab (by simpa using h7)],h8⟩
   ·rename_i hs
    by_cases hn:n=0
    ·subst hn
     exact⟨_,_,by simp only[ev,hx,hs];simp,h.1 rfl⟩
    ·obtain⟨h7,h8⟩:=h.2 hn
     exact⟨_,_,by simp only[ev,hx,hs];rw[ab (by simpa using hn),ae h7],h8⟩
   ·rename_i hs
    by_cases hn:n=0
    ·subst hn
     exact⟨_,_,by simp only[ev,hx,hs];simp,h.1 rfl⟩
    ·obtain⟨h7,h8⟩:=h.2 hn
     exact⟨_,_,by simp only[ev,hx,hs];rw[ab (by simpa using hn),ae h7],h8⟩
   ·rename_i l hs
    by_cases hn:n=0
    ·subst hn
     exact⟨_,_,by simp only[ev,hx,hs];simp,h.1 rfl⟩
    ·obtain⟨⟨h7,h9⟩,h8⟩:=h.2 hn
     exact⟨_,_,by simp only[ev,hx,hs];rw[ab (by simpa using hn),ae (by simp[h7,h9])],h8⟩
   ·exact h.elim
 all_goals
  obtain⟨⟨v,p⟩,h1,h2⟩:=kL h;exact⟨v,p,h1,h2⟩
def ze (cs:List AV) (o:Nat) (new:List AV) (K:List AV->Prop):Prop:=o+new.length<=cs.length/\K (putAt cs o new)
def zf (L:CE) (σ:List ag) (r:Rf->AV) (op:cW) (K:AV->List ag->Prop):Prop:=
 match op with
 |.st p x n=>match r p with
  |.ptr b u o=>aQ (upto σ b u) λB=>((r x).cells.length=n/\B.st.isLive=true/\bB (r x)=true)/\ze B.cells o (r x).cells λcs=>K .aM (az σ b ⟨B.k,cs,B.st⟩)
  |_=>False
 |.df s x k=>match aG σ k (r x)with
  |none=>False
  |some (n,cs)=>match r s with
   |.sl b u off len=>aQ (upto σ b u) λB=>bG (off=0/\len+n<=dG/\tU B.k k=true/\(n ≠ 0->cs.length ≠ 0)) ((n=0->K (.sl b u off len) σ)/\(n ≠ 0->u=len*aC k->K (.sl b (u+cs.length) 0 (len+n)) (az σ b ⟨B.k,B.cells++cs,.live⟩))/\(n ≠ 0->u ≠ len*aC k->(len+n)*aC k<=u/\K (.sl b u 0 (len+n)) (az σ b ⟨B.k,putAt B.cells (len*aC k) cs,B.st⟩)))
   |.ah=>(n=0->K .ah σ)/\(n ≠ 0->n<=dG/\K (.sl σ.length cs.length 0 n) (σ ++ [⟨k,cs,.live⟩]))
   |.emp=>(n=0->K .emp σ)/\(n ≠ 0->n<=dG/\K (.sl σ.length cs.length 0 n) (σ ++ [⟨k,cs,.live⟩]))
   |.arr l=>(n=0->K (if ay l then .aE true l else .arr l) σ)/\(n ≠ 0->(fitAll (aC k) l=true/\l.length+n<=dG)/\K (.sl σ.length (l.flatMap AV.cells++cs).length 0 (l.length+n)) (σ ++ [⟨k,l.flatMap AV.cells++cs,.live⟩]))
   |_=>False
 |.fI f args=>LX L f (args.map r) σ K
 |.kW x args=>match r x with
  |.func f aI=>LX L f (args.map r++aI) σ K
  |_=>False
 |.qc x gE args=>match r x with
  |.iface t v=>match eM gE t with
   |some f=>LX L f (v::args.map r) σ K
   |none=>False
  |_=>False
 |op=>aQ (fF L σ r op) λp=>K p.1 p.2
theorem aa2{L:CE}{σ:List ag}{r:Rf->AV}{op:cW}{K:AV->List ag->Prop}(h:zf L σ r op K):∃v bp, fF L σ r op=some (v,bp)/\K v bp :=by
 unfold zf at h;cases op
 case st p x n=>
  simp only at h;split at h
  ·rename_i b u o ha
   obtain⟨B,hB,⟨h1,h2,h3⟩,h4,h5⟩:=kL h;exact⟨.aM,_,by simp only[fF,ha,hB];simp[h1,h2,h3,show o+n<=B.cells.length by rw[<-h1];exact h4],h5⟩
  ·exact h.elim
 case df s x k=>
  simp only at h;split at h
  ·exact h.elim
  ·rename_i n cs hx
   split at h
   ·rename_i b u off len hs
    obtain⟨B,hB,⟨h1,h2,h3,h4⟩,h5,h6,h7⟩:=kL h
    by_cases hn:n=0
    ·subst hn
     exact⟨_,_,by simp only[fF,hx,hs,hB];rw[ae (by simp[h1,h3];omega)];simp,h5 rfl⟩
    ·have hc:=h4 hn
     by_cases hu:u=len*aC k
     ·exact⟨_,_,by simp only[fF,hx,hs,hB];rw[ae (by simp[h1,h3];omega)];rw[ab (by simpa using hn),ab (by simpa using hc),ae (by simpa using hu)],h6 hn hu⟩
     ·obtain⟨h8,h9⟩:=h7 hn hu
      exact⟨_,_,by simp only[fF,hx,hs,hB];rw[ae (by simp[h1,h3];omega)];rw[ab (by simpa using hn),ab (by simpa using hc),ab (by simpa using hu),ae h8],h9⟩
   ·rename_i hs
    by_cases hn:n=0
    ·subst hn
     exact⟨_,_,by simp only[fF,hx,hs];simp,h.1 rfl⟩
    ·obtain⟨h7,h8⟩:=h.2 hn
     exact⟨_,_,by simp only[fF,hx,hs];rw[ab (by simpa using hn),ae h7],h8⟩
   ·rename_i hs
    by_cases hn:n=0
    ·subst hn
     exact⟨_,_,by simp only[fF,hx,hs];simp,h.1 rfl⟩
    ·obtain⟨h7,h8⟩:=h.2 hn
     exact⟨_,_,by simp only[fF,hx,hs];rw[ab (by simpa using hn),ae h7],h8⟩
   ·rename_i l hs
    by_cases hn:n=0
    ·subst hn
     exact⟨_,_,by simp only[fF,hx,hs];simp,h.1 rfl⟩
    ·obtain⟨⟨h7,h9⟩,h8⟩:=h.2 hn
     exact⟨_,_,by simp only[fF,hx,hs];rw[ab (by simpa using hn),ae (by simp[h7,h9])],h8⟩
   ·exact h.elim
 case fI f args=>
  obtain⟨v,bp, h1,h2⟩:=dS h;exact⟨v,bp, h1,h2⟩
 case kW x args=>
  simp only at h;split at h
  ·rename_i f aI ha
   obtain⟨v,bp, h1,h2⟩:=dS h;exact⟨v,bp, by simp only[fF,ha];exact h1,h2⟩
  ·exact h.elim
 case qc x gE args=>
  simp only at h;split at h
  ·rename_i t q ha
   split at h
   ·rename_i f hf
    obtain⟨v,bp, h1,h2⟩:=dS h;exact⟨v,bp, by simp only[fF,ha,hf];exact h1,h2⟩
   ·exact h.elim
  ·exact h.elim
 all_goals
  obtain⟨⟨v,p⟩,h1,h2⟩:=kL h;exact⟨v,p,h1,h2⟩
def dT (K:List AV->List ag->List ag->Prop) (env:List AV) (aA σ:List ag) (v:AV):Option aZ->Prop
 |none=>K (v::env) aA σ
 |some p=>K (v::env) σ (fW σ p)
def ct (L:CE) (vars:List AV) (op:cW) (prev:Bool) (env:List AV) (aA σ:List ag) (K:List AV->List ag->List ag->Prop):Prop:=
 match op.kQ,prev,op.lC with
 |true,_,_=>zf L σ (rv vars env) op λv bp =>K (v::env) [] bp
 |false,true,true=>qi L aA σ.length (rv vars env) op (dT K env σ σ)
 |false,true,false=>qi L aA σ.length (rv vars env) op (dT K env aA σ)
 |false,false,true=>qi L σ σ.length (rv vars env) op (dT K env σ σ)
 |false,false,false=>qi L σ σ.length (rv vars env) op (dT K env aA σ)
def gK (b:Bool) (A B:Prop):Prop:=(b=true->A)/\(b=false->B)
theorem Iy{A B:Prop}:gK true A B=A:=by simp[gK]
theorem Iz{A B:Prop}:gK false A B=B:=by simp[gK]
def LK (L:CE) (vars:List AV):List Ln->List AV->List ag->List ag->(List AV->List ag->Prop)->Prop
 | [],env,_,σ,K=>K env σ
 |⟨op,g,prev⟩::ls,env,aA,σ,K=>match g with
  |none=>ct L vars op prev env aA σ λenv aA σ=>LK L vars ls env aA σ K
  |some (.t d,w)=>match nth env d with
   |.bool b=>match w with
    |true=>gK b (ct L vars op prev (eV env d (.bool true)) aA σ λenv aA σ=>LK L vars ls env aA σ K) (LK L vars ls (.bS []::eV env d (.bool false)) aA σ K)
    |false=>gK b (LK L vars ls (.bS []::eV env d (.bool true)) aA σ K) (ct L vars op prev (eV env d (.bool false)) aA σ λenv aA σ=>LK L vars ls env aA σ K)
   |.bS []=>LK L vars ls (.bS []::env) aA σ K
   |_=>False
  |some (.v k,w)=>match nth vars k with
   |.bool b=>match w with
    |true=>gK b (ct L vars op prev env aA σ λenv aA σ=>LK L vars ls env aA σ K) (LK L vars ls (.bS []::env) aA σ K)
    |false=>gK b (LK L vars ls (.bS []::env) aA σ K) (ct L vars op prev env aA σ λenv aA σ=>LK L vars ls env aA σ K)
   |.bS []=>LK L vars ls (.bS []::env) aA σ K
   |_=>False
  |some (.c _,_)=>False
theorem Oy:∀{l:List AV}{d:Nat}{x:AV},x ≠ .aM->nth l d=x->eV l d x=l
 | [],d,x,hx,h=>by simp[nth]at h;exact absurd h.symm hx
 |y::r,0,x,_,h=>by simp[nth]at h;simp[eV,h]
 |y::r,d+1,x,hx,h=>by simp only[nth]at h;simp[eV,Oy hx h]
theorem Oz{L:CE}{vars:List AV}{op:cW}{g:Option (Rf×Bool)}{prev:Bool}{env:List AV}{aA σ:List ag}{K:List AV->List ag->List ag->Prop}(hw:want vars env g=some true) (h:ct L vars op prev env aA σ K) :
  ∃s,dg L vars ⟨env,aA,σ⟩ ⟨op,g,prev⟩=some s/\K s.env s.aA s.σ:=by
 unfold ct at h;unfold dg;simp only[hw];have fin:∀fj qj,(if prev=true then aA else σ)=fj->(if op.lC=true then σ else aA)=qj->op.kQ=false->qi L fj σ.length (rv vars env) op (dT K env qj σ)->
   ∃s,(if op.kQ=true then match fF L σ (rv vars env) op with
    |some (v,bp)=>some (⟨v::env,[],bp⟩:LS)
    |none=>none
   else match ev L (if prev=true then aA else σ) σ.length [] (rv vars env) op with
    |some (v,none)=>some ⟨v::env,if op.lC=true then σ else aA,σ⟩
    |some (v,some p)=>some ⟨v::env,σ,fW σ p⟩
    |none=>none)=some s/\K s.env s.aA s.σ:=λfj qj e0 e1 hW h=>by
  obtain⟨v,p,h1,h2⟩:=Ox h;rw[ab (by simp[hW]),e0,e1,h1]
  cases p with
  |none=>exact⟨_,rfl,h2⟩
  |some p=>exact⟨_,rfl,h2⟩
 split at h
 ·rename_i hW
  obtain⟨v,bp, h1,h2⟩:=aa2 h;rw[ae hW,h1];exact⟨_,rfl,h2⟩
 ·rename_i h1 h2;exact fin _ _ (by simp) (by simp[h2]) h1 h
 ·rename_i h1 h2;exact fin _ _ (by simp) (by simp[h2]) h1 h
 ·rename_i h1 h2;exact fin _ _ (by simp) (by simp[h2]) h1 h
 ·rename_i h1 h2;exact fin _ _ (by simp) (by simp[h2]) h1 h
theorem wJ{L:CE}{vars:List AV}{op:cW}{g:Option (Rf×Bool)}{prev:Bool}{ls:List Ln}{env uG : List AV}{aA σ:List ag}{K:List AV->List ag->Prop}(e:uG = env) (hw:want vars uG g=some false)
  (h:∃q,lines L vars ls ⟨.bS []::uG, aA,σ⟩=some q/\K q.env q.σ):∃q,lines L vars (⟨op,g,prev⟩::ls) ⟨env,aA,σ⟩=some q/\K q.env q.σ:=by
 subst e;obtain⟨q,h1,h2⟩:=h;exact⟨q,by simp only[lines,dg,hw];exact h1,h2⟩
theorem sY{L:CE}{vars:List AV}{op:cW}{g:Option (Rf×Bool)}{prev:Bool}{ls:List Ln}{env uG : List AV}{aA σ:List ag}{K:List AV->List ag->Prop}{J:List AV->List ag->List ag->Prop}(e:uG = env) (hw:want vars uG g=some true)
  (h:ct L vars op prev uG aA σ J) (hJ:∀env aA σ,J env aA σ->∃q,lines L vars ls ⟨env,aA,σ⟩=some q/\K q.env q.σ):∃q,lines L vars (⟨op,g,prev⟩::ls) ⟨env,aA,σ⟩=some q/\K q.env q.σ:=by
 subst e;obtain⟨s,h1,h2⟩:=Oz hw h;obtain⟨q,h3,h4⟩:=hJ _ _ _ h2;exact⟨q,by simp only[lines,h1];exact h3,h4⟩
theorem nW{L:CE}{vars:List AV}:∀{ls:List Ln}{env:List AV}{aA σ:List ag}{K:List AV->List ag->Prop},LK L vars ls env aA σ K->∃q,lines L vars ls ⟨env,aA,σ⟩=some q/\K q.env q.σ
 | [],env,aA,σ,K,h=>⟨_,rfl,h⟩
 |⟨op,g,prev⟩::ls,env,aA,σ,K,h=>by
  unfold LK at h;split at h
  ·exact sY rfl rfl h λ_ _ _ h=>nW h
  ·rename_i d w
   split at h
   ·rename_i b hb
    have e:∀q,b=q->eV env d (.bool q)=env:=λq hq=>Oy (by simp) (hq▸hb)
    cases w with
    |true=>
     simp only[gK]at h;cases b with
     |true=>exact sY (e true rfl) (by rw[e true rfl];simp[want,rv,hb]) (h.1 rfl) λ_ _ _ h=>nW h
     |false=>exact wJ (e false rfl) (by rw[e false rfl];simp[want,rv,hb]) (nW (h.2 rfl))
    |false=>
     simp only[gK]at h;cases b with
     |true=>exact wJ (e true rfl) (by rw[e true rfl];simp[want,rv,hb]) (nW (h.1 rfl))
     |false=>exact sY (e false rfl) (by rw[e false rfl];simp[want,rv,hb]) (h.2 rfl) λ_ _ _ h=>nW h
   ·rename_i hb
    exact wJ rfl (by simp[want,rv,hb]) (nW h)
   ·exact h.elim
  ·rename_i k w
   split at h
   ·rename_i b hb
    cases w with
    |true=>
     simp only[gK]at h;cases b with
     |true=>exact sY rfl (by simp[want,rv,hb]) (h.1 rfl) λ_ _ _ h=>nW h
     |false=>exact wJ rfl (by simp[want,rv,hb]) (nW (h.2 rfl))
    |false=>
     simp only[gK]at h;cases b with
     |true=>exact wJ rfl (by simp[want,rv,hb]) (nW (h.1 rfl))
     |false=>exact sY rfl (by simp[want,rv,hb]) (h.2 rfl) λ_ _ _ h=>nW h
   ·rename_i hb
    exact wJ rfl (by simp[want,rv,hb]) (nW h)
   ·exact h.elim
  ·exact h.elim
@[reducible] def zg (env:List AV):Option (Nat×Nat)->Option (Nat×AV)
 |some (t,d)=>some (t,nth env d)
 |none=>none
def WK (L:CE):IC->List AV->Option (Nat×AV)->List ag->(Ex->St->Prop)->Prop
 |.skip,vars,fl,σ,Q=>Q .ft ⟨vars,fl,σ⟩
 |.aa r,vars,_,σ,Q=>LK L vars r.ls [] σ σ λenv σ=>Q .ft ⟨dI r.dI (outs env r.outs vars),zg env r.fl,σ⟩
 |.seq a b,vars,fl,σ,Q=>WK L a vars fl σ λe s=>match e with
  |.ft=>WK L b s.vars s.fl s.σ Q
  |e=>Q e s
 |.cond t a b,vars,fl,σ,Q=>match fl with
  |some (t', .bool c)=>t' = t/\gK c (WK L a vars none σ Q) (WK L b vars none σ Q)
  |_=>False
 |.kR k a b,vars,fl,σ,Q=>match nth vars k with
  |.bool c=>gK c (WK L a vars fl σ Q) (WK L b vars fl σ Q)
  |_=>False
 |.block id c,vars,fl,σ,Q=>WK L c vars fl σ (Out id Q)
 |.exit id,vars,fl,σ,Q=>Q (.exit id) ⟨vars,fl,σ⟩
 |.ret,vars,fl,σ,Q=>Q .ret ⟨vars,fl,σ⟩
 |.bad,_,_,_,_=>False
 |.cut _ c,vars,fl,σ,Q=>WK L c vars fl σ Q
 |.Gp c,vars,fl,σ,Q=>WK L c vars fl σ Q
 |c,vars,fl,σ,Q=>W L c ⟨vars,fl,σ⟩ Q
def WX (L:CE) (d:IC) (Q:Ex->St->Prop):Ex->St->Prop:=λe s=>match e with
 |.ft=>WK L d s.vars s.fl s.σ Q
 |e=>Q e s
theorem pd{L:CE}:∀{c:IC}{vars:List AV}{fl:Option (Nat×AV)}{σ:List ag}{Q:Ex->St->Prop},WK L c vars fl σ Q->W L c ⟨vars,fl,σ⟩ Q
 |.skip,vars,fl,σ,Q,h=>aaV h
 |.aa r,vars,fl,σ,Q,h=>by
  unfold WK at h;obtain⟨q,h1,h2⟩:=nW h;refine Ov (s' :=⟨dI r.dI (outs q.env r.outs vars),zg q.env r.fl,q.σ⟩) ?_ h2;simp only[dq,h1]
  rfl
 |.seq a b,vars,fl,σ,Q,h=>Ow ((pd (c:=a) h).mono λe s hq=>by
  cases e with
  |ft=>exact pd (c:=b) hq
  |exit j=>exact hq
  |ret=>exact hq)
 |.cond t a b,vars,fl,σ,Q,h=>by
  unfold WK at h;split at h
  ·obtain⟨rfl,h1,h2⟩:=h
   exact aaY (λe=>pd (h1 e)) (λe=>pd (h2 e))
  ·exact h.elim
 |.kR k a b,vars,fl,σ,Q,h=>by
  unfold WK at h;split at h
  ·rename_i c hc
   exact aaZ hc (λe=>pd (h.1 e)) (λe=>pd (h.2 e))
  ·exact h.elim
 |.block id c,vars,fl,σ,Q,h=>aa0 (pd (c:=c) h)
 |.exit id,vars,fl,σ,Q,h=>aaW h
 |.ret,vars,fl,σ,Q,h=>Ou h
 |.loop c,vars,fl,σ,Q,h=>h
 |.lB k,vars,fl,σ,Q,h=>h
 |.lex c,vars,fl,σ,Q,h=>h
 |.bad,vars,fl,σ,Q,h=>h.elim
 |.cut b c,vars,fl,σ,Q,h=>by
  obtain⟨n,e,s', h1,h2⟩:=pd (c:=c) h;exact⟨n,e,s', by simpa only[exec]using h1,h2⟩
 |.Gp c,vars,fl,σ,Q,h=>by
  obtain⟨n,e,s', h1,h2⟩:=pd (c:=c) h;exact⟨n,e,s', by simpa only[exec]using h1,h2⟩
section
variable{L:CE}{vars:List AV}{fl:Option (Nat×AV)}{σ:List ag}{Q:Ex->St->Prop}
theorem aa3:WK L .skip vars fl σ Q=Q .ft ⟨vars,fl,σ⟩:=(rfl)
theorem aa4{r:gh}:WK L (.aa r) vars fl σ Q=LK L vars r.ls [] σ σ λenv σ=>Q .ft ⟨dI r.dI (outs env r.outs vars),zg env r.fl,σ⟩:=(rfl)
theorem aa5{a b:IC}:WK L (.seq a b) vars fl σ Q=WK L a vars fl σ (WX L b Q):=(rfl)
theorem aa6{t:Nat}{a b:IC}{c:Bool}:WK L (.cond t a b) vars (some (t,.bool c)) σ Q=gK c (WK L a vars none σ Q) (WK L b vars none σ Q):=by
 apply propext;exact⟨λh=>h.2,λh=>⟨rfl,h⟩⟩
theorem aa7{k:Nat}{a b:IC}:WK L (.kR k a b) vars fl σ Q=match nth vars k with
  |.bool c=>gK c (WK L a vars fl σ Q) (WK L b vars fl σ Q)
  |_=>False:=by conv=>lhs;unfold WK
theorem aa8{id:Nat}{c:IC}:WK L (.block id c) vars fl σ Q=WK L c vars fl σ (Out id Q):=(rfl)
theorem aa9{id:Nat}:WK L (.exit id) vars fl σ Q=Q (.exit id) ⟨vars,fl,σ⟩:=(rfl)
theorem aba:WK L .ret vars fl σ Q=Q .ret ⟨vars,fl,σ⟩:=(rfl)
theorem abb{c:IC}:WK L (.loop c) vars fl σ Q=W L (.loop c) ⟨vars,fl,σ⟩ Q:=(rfl)
theorem abc{k:Nat}:WK L (.lB k) vars fl σ Q=W L (.lB k) ⟨vars,fl,σ⟩ Q:=(rfl)
theorem abd{c:IC}:WK L (.lex c) vars fl σ Q=W L (.lex c) ⟨vars,fl,σ⟩ Q:=(rfl)
theorem abe:WK L .bad vars fl σ Q=False:=(rfl)
theorem abf{b:Bool}{c:IC}:WK L (.cut b c) vars fl σ Q=WK L c vars fl σ Q:=(rfl)
theorem abg{c:IC}:WK L (.Gp c) vars fl σ Q=WK L c vars fl σ Q:=(rfl)
theorem abh{d:IC}:WX L d Q .ft ⟨vars,fl,σ⟩=WK L d vars fl σ Q:=(rfl)
theorem abi{d:IC}{s:St}:WX L d Q .ret s=Q .ret s:=(rfl)
theorem abj{d:IC}{s:St}{j:Nat}:WX L d Q (.exit j) s=Q (.exit j) s:=(rfl)
theorem abk{id:Nat}{s:St}:Out id Q .ft s=Q .ft s:=(rfl)
theorem abl{id:Nat}{s:St}:Out id Q .ret s=Q .ret s:=(rfl)
theorem abm{id j:Nat}{s:St}:Out id Q (.exit j) s=if j=id then Q .ft s else Q (.exit j) s:=(rfl)
theorem abn{I:St->Prop}{μ:St->Nat}{m:Nat}{s:St}:zb I μ m Q .ft s=(I s/\μ s<m):=(rfl)
theorem abo{I:St->Prop}{μ:St->Nat}{m:Nat}{s:St}:zb I μ m Q .ret s=Q .ret s:=(rfl)
theorem abp{I:St->Prop}{μ:St->Nat}{m j:Nat}{s:St}:zb I μ m Q (.exit j) s=Q (.exit j) s:=(rfl)
end
def ib (fn:Fn) (K:AV->List ag->Prop):Ex->St->Prop
 |.exit _,_=>False
 |_,s=>aQ (results fn s) λv=>K v s.σ
theorem abq{G:Nat->Option Fn}{P:kg}(hQ:dV P){f:Nat}(fn:Fn){args:List AV}{σ:List ag}{K:AV->List ag->Prop}(hq:P f=none) (hg:G f=some fn) (hl:args.length=fn.np)
  (h:WK (lim G P) fn.body (args++List.replicate (fn.nv-fn.np) .aM) none σ (ib fn K)):LX (lim G P) f args σ K:=by
 obtain⟨n,e,s,h1,h2⟩:=pd h;cases e with
 |exit j=>exact h2.elim
 |ft=>obtain⟨v,h3,h4⟩:=kL h2;exact Gx (Ot hQ hq hg hl h1 (λj=>by simp) h3) h4
 |ret=>obtain⟨v,h3,h4⟩:=kL h2;exact Gx (Ot hQ hq hg hl h1 (λj=>by simp) h3) h4
attribute [simp ↓] wG qh bG zd rI
attribute [irreducible] WK
universe u
inductive Tk {α:Sort u} (a:α):Type
 |k
def nx (x:AV) (K:AV->Prop) (_:Tk K):Prop:=K x
def nL (l:List AV) (K:List AV->Prop) (_:Tk K):Prop:=K l
def nB (l:List ag) (K:List ag->Prop) (_:Tk K):Prop:=K l
def nC (l:List AV) (K:List AV->Prop) (_:Tk K):Prop:=K l
def oK{α:Type}(o:Option α) (K:α->Prop) (_:Tk K):Prop:=aQ o K
def gT (b:Bool) (A B:Prop) (_:Tk A) (_:Tk B):Prop:=gK b A B
def im (p A:Prop) (_:Tk A):Prop:=p->A
def xK (l:List AV) (n:Int) (K:AV->Prop) (_:Tk K):Prop:=Cb l n K
def lX (L:CE) (f:Nat) (args:List AV) (σ:List ag) (K:AV->List ag->Prop) (_:Tk K):Prop:=LX L f args σ K
def pT (cs:List AV) (off:Nat) (k:Option Nat) (K:AV->Prop) (_:Tk K):Prop:=aQ (part cs off k) K
def pU (cs:List AV) (o:Nat) (new:List AV) (K:List AV->Prop) (_:Tk K):Prop:=ze cs o new K
def bk (o:Option ag) (u:Nat) (K:Option Nat->List AV->eo->Prop) (_:Tk K):Prop:=
 match o with
 |some B=>(B.cells.length=u/\B.st.gz=true)/\K B.k B.cells B.st
 |none=>False
section
variable{K:AV->Prop}{t:Tk K}
theorem OA{n:Int}:nx (.int n) K t=K (.int n):=(rfl)
theorem Gy{k:Nat}{n:Int}:nx (.ik k n) K t=K (.ik k n):=(rfl)
theorem OB{n:Bool}:nx (.bool n) K t=K (.bool n):=(rfl)
theorem OC{n:List UInt8}:nx (.str n) K t=K (.str n):=(rfl)
theorem OD{l:List AV}:nx (.agg l) K t=K (.agg l):=(rfl)
theorem OE{l:List AV}:nx (.bS l) K t=K (.bS l):=(rfl)
theorem OF:nx .ah K t=K .ah:=(rfl)
theorem OG{q:Bool}{l:List AV}:nx (.aE q l) K t=K (.aE q l):=(rfl)
theorem OH{l:List AV}:nx (.arr l) K t=K (.arr l):=(rfl)
theorem Gz{b u o n:Nat}:nx (.sl b u o n) K t=K (.sl b u o n):=(rfl)
theorem OI:nx .iw K t=K .iw:=(rfl)
theorem OJ{v:AV}:nx (.bd v) K t=K (.bd v):=(rfl)
theorem OK{b u o:Nat}:nx (.ptr b u o) K t=K (.ptr b u o):=(rfl)
theorem OL:nx .kJ K t=K .kJ:=(rfl)
theorem OM{f:Nat}{l:List AV}:nx (.func f l) K t=K (.func f l):=(rfl)
theorem ON:nx .gW K t=K .gW:=(rfl)
theorem OO{n:Nat}{v:AV}:nx (.iface n v) K t=K (.iface n v):=(rfl)
theorem OP{b:Nat}:nx (.cQ b) K t=K (.cQ b):=(rfl)
theorem OQ:nx .qb K t=K .qb:=(rfl)
theorem OR:nx .emp K t=K .emp:=(rfl)
theorem OS:nx .aM K t=K .aM:=(rfl)
theorem abr{x:AV}:nx x K t=K x:=(rfl)
theorem OT{α:Type}{u:α}{K:α->Prop}{t:Tk K}:oK (some u) K t=K u:=(rfl)
theorem OU{α:Type}{K:α->Prop}{t:Tk K}:oK none K t=False:=(rfl)
end
theorem OV{K:List AV->Prop}{t:Tk K}:nL [] K t=K []:=(rfl)
theorem OW{x:AV}{l:List AV}{K:List AV->Prop}{t:Tk K}:nL (x::l) K t=nx x (λy=>nL l (λl=>K (y::l)) .k) .k:=(rfl)
theorem abt{l:List AV}{K:List AV->Prop}{t:Tk K}:nL l K t=K l:=(rfl)
theorem OX{K:List ag->Prop}{t:Tk K}:nB [] K t=K []:=(rfl)
theorem OY{k:Option Nat}{cs:List AV}{st:eo}{l:List ag}{K:List ag->Prop}{t:Tk K}:nB (⟨k,cs,st⟩::l) K t=nB l (λl=>K (⟨k,cs,st⟩::l)) .k:=(rfl)
theorem abu{l:List ag}{K:List ag->Prop}{t:Tk K}:nB l K t=K l:=(rfl)
theorem abv{l:List AV}{K:List AV->Prop}{t:Tk K}:nC l K t=K l:=(rfl)
theorem OZ{A B:Prop}{t:Tk A}{u:Tk B}:gT true A B t u=A:=Iy
theorem O1{A B:Prop}{t:Tk A}{u:Tk B}:gT false A B t u=B:=Iz
theorem O2{b:Bool}{A B:Prop}{t:Tk A}{u:Tk B}:gT (!b) A B t u=gT b B A u t:=by cases b<;>simp[gT,gK]
theorem abw{b:Bool}{A B:Prop}{t:Tk A}{u:Tk B}:gT b A B t u=(im (b=true) A .k/\im (b=false) B .k):=(rfl)
theorem IA{p:Prop} [Decidable p]{A B:Prop}{t:Tk A}{u:Tk B}:gT (decide p) A B t u=(im p A .k/\im (¬p) B .k):=by
 by_cases h:p<;>simp[gT,gK,im,h]
theorem abx{A:Prop}{t:Tk A}:im True A t=A:=by simp[im]
theorem aby{A:Prop}{t:Tk A}:im False A t=True:=by simp[im]
theorem abz{p A:Prop}{t:Tk A}:im p A t=(p->A):=(rfl)
theorem O3{k:Option Nat}{cs:List AV}{u:Nat}{K:Option Nat->List AV->eo->Prop}{t:Tk K}:bk (some ⟨k,cs,.live⟩) u K t=(cs.length=u/\K k cs .live):=by simp[bk,eo.gz]
theorem O4{k:Option Nat}{cs:List AV}{st:eo}{u:Nat}{K:Option Nat->List AV->eo->Prop}{t:Tk K}:bk (some ⟨k,cs,st⟩) u K t=((cs.length=u/\st.gz=true)/\K k cs st):=(rfl)
theorem uH{σ:List ag}{b u:Nat}{K:ag->Prop}:aQ (upto σ b u) K=bk (al σ b) u (λk cs st=>K ⟨k,cs,st⟩) .k:=by
 unfold upto bk;cases al σ b with
 |none=>rfl
 |some B=>
  obtain⟨k,cs,st⟩:=B
  by_cases h:cs.length=u<;>cases st<;>simp[h,aQ,eo.gz]
@[reducible] def ie {α β:Type} (f:α->β):List α->List β
 | []=>[]
 |x::r=>f x::ie f r
theorem iH{α β:Type}(f:α->β):∀l:List α,l.map f=ie f l
 | []=>rfl
 |x::r=>by simp[ie,iH f r]
@[reducible] def gN {α:Type}:List α->List α->List α
 | [],m=>m
 |x::r,m=>x::gN r m
theorem gm{α:Type}:∀l m:List α,l++m=gN l m
 | [],m=>rfl
 |x::r,m=>by simp[gN,gm r m]
@[reducible] def vG:Nat->List AV->List AV
 |0,_=>[]
 |_,[]=>[]
 |n+1,x::r=>x::vG n r
theorem O5:∀(n:Nat) (l:List AV),l.take n=vG n l
 |0,l=>by cases l<;>rfl
 |n+1,[]=>rfl
 |n+1,x::r=>by simp[vG,O5 n r]
@[reducible] def vH:Nat->List AV->List AV
 |0,l=>l
 |_,[]=>[]
 |n+1,_::r=>vH n r
theorem O6:∀(n:Nat) (l:List AV),l.drop n=vH n l
 |0,l=>by cases l<;>rfl
 |n+1,[]=>rfl
 |n+1,x::r=>by simp[vH,O6 n r]
theorem abA{cs:List AV}{off:Nat}{K:AV->Prop}{t:Tk K}:pT cs off none K t=oK (oU cs off) K .k:=(rfl)
theorem abB{cs:List AV}{off n:Nat}{K:AV->Prop}{t:Tk K}:pT cs off (some n) K t=(off+n<=cs.length/\nL (vG n (vH off cs)) (λl=>K (.agg l)) .k):=by
 unfold pT part;rw[<-O5,<-O6]
 by_cases h:off+n<=cs.length<;>simp[h,aQ,nL]
section
variable{L:CE}{vars env:List AV}{aA σ:List ag}{K:List AV->List ag->List ag->Prop}
def ii (x y:AV) (K:Int->Int->Prop):Prop:=match x,y with
 |.int a,.int b=>K a b
 |_,_=>False
theorem abC{a b:Int}{K:Int->Int->Prop}:ii (.int a) (.int b) K=K a b:=(rfl)
def bb (x y:AV) (K:Bool->Bool->Prop):Prop:=match x,y with
 |.bool a,.bool b=>K a b
 |_,_=>False
theorem abD{a b:Bool}{K:Bool->Bool->Prop}:bb (.bool a) (.bool b) K=K a b:=(rfl)
def b1 (x:AV) (K:Bool->Prop):Prop:=match x with
 |.bool a=>K a
 |_=>False
theorem abE{a:Bool}{K:Bool->Prop}:b1 (.bool a) K=K a:=(rfl)
def GA (x:AV) (K:Int->Prop):Prop:=match x with
 |.ah=>K 0
 |.emp=>K 0
 |.aE _ l=>K l.length
 |.sl _ _ _ n=>K n
 |_=>False
theorem abF{K:Int->Prop}:GA .ah K=K 0:=(rfl)
theorem abG{K:Int->Prop}:GA .emp K=K 0:=(rfl)
theorem abH{q:Bool}{l:List AV}{K:Int->Prop}:GA (.aE q l) K=K l.length:=(rfl)
theorem abI{b u o n:Nat}{K:Int->Prop}:GA (.sl b u o n) K=K n:=(rfl)
def O7 (x:AV) (off:Nat) (k:Option Nat) (K:AV->Prop):Prop:=match x with
 |.ptr b u o=>K (.ptr b u (o+off))
 |.bd v=>pT v.cells off k (λy=>K (.bd y)) .k
 |_=>False
theorem abJ{b u o off:Nat}{k:Option Nat}{K:AV->Prop}:O7 (.ptr b u o) off k K=K (.ptr b u (o+off)):=(rfl)
theorem abK{v:AV}{off:Nat}{k:Option Nat}{K:AV->Prop}:O7 (.bd v) off k K=pT v.cells off k (λy=>K (.bd y)) .k:=(rfl)
def O8 (x:AV) (K:AV->Prop):Prop:=match x with
 |.ptr b u o=>K (.ptr b u o)
 |.bd v=>K (.bd v)
 |_=>False
theorem abL{b u o:Nat}{K:AV->Prop}:O8 (.ptr b u o) K=K (.ptr b u o):=(rfl)
theorem abM{v:AV}{K:AV->Prop}:O8 (.bd v) K=K (.bd v):=(rfl)
def sf (x:AV) (k:Option Nat) (K:AV->Prop):Prop:=match x with
 |.bd v=>match k,v with
  |none,.agg _=>False
  |none,v=>K v
  |some n,.agg l=>l.length=n/\K (.agg l)
  |some _,_=>False
 |_=>False
theorem abN{n:Int}{K:AV->Prop}:sf (.bd (.int n)) none K=K (.int n):=(rfl)
theorem abO{n:Bool}{K:AV->Prop}:sf (.bd (.bool n)) none K=K (.bool n):=(rfl)
theorem abP{n:List UInt8}{K:AV->Prop}:sf (.bd (.str n)) none K=K (.str n):=(rfl)
theorem abQ{q:Bool}{l:List AV}{K:AV->Prop}:sf (.bd (.aE q l)) none K=K (.aE q l):=(rfl)
theorem abR{K:AV->Prop}:sf (.bd .ah) none K=K .ah:=(rfl)
theorem abS{v:AV}{K:AV->Prop}:sf (.bd (.bd v)) none K=K (.bd v):=(rfl)
theorem abT{f:Nat}{l:List AV}{K:AV->Prop}:sf (.bd (.func f l)) none K=K (.func f l):=(rfl)
theorem abU{f:Nat}{l:AV}{K:AV->Prop}:sf (.bd (.iface f l)) none K=K (.iface f l):=(rfl)
theorem abV{n:Nat}{l:List AV}{K:AV->Prop}:sf (.bd (.agg l)) (some n) K=(l.length=n/\K (.agg l)):=(rfl)
def fl1 (x:AV) (off:Nat) (k:Option Nat) (K:AV->Prop):Prop:=match x with
 |.agg l=>pT l off k K .k
 |_=>False
theorem abW{l:List AV}{off:Nat}{k:Option Nat}{K:AV->Prop}:fl1 (.agg l) off k K=pT l off k K .k:=(rfl)
def WY (x:AV) (i:Nat) (K:AV->Prop):Prop:=match x with
 |.bS l=>oK (oU l i) K .k
 |_=>False
theorem abX{l:List AV}{i:Nat}{K:AV->Prop}:WY (.bS l) i K=oK (oU l i) K .k:=(rfl)
def sg (σ:List ag) (x:AV) (K:Bool->Prop):Prop:=match x with
 |.ah=>K true
 |.aE true _=>K false
 |.aE false (_::_)=>K false
 |.sl b u _ _=>aQ (upto σ b u) λB=>match B.st with
  |.live=>K false
  |_=>False
 |_=>False
theorem abY{K:Bool->Prop}:sg σ .ah K=K true:=(rfl)
theorem abZ{l:List AV}{K:Bool->Prop}:sg σ (.aE true l) K=K false:=(rfl)
theorem ab0{x:AV}{l:List AV}{K:Bool->Prop}:sg σ (.aE false (x::l)) K=K false:=(rfl)
theorem ab1{b u o n:Nat}{K:Bool->Prop}:sg σ (.sl b u o n) K=bk (al σ b) u (λ_ _ st=>st = .live/\K false) .k:=by
 show aQ (upto σ b u) _=_;rw[show(λB:ag=>match B.st with | .live=>K false|_=>False)=λB=>B.st = .live/\K false from by funext B;cases B.st<;>simp,uH]
def WZ (x i:AV) (st:Nat) (K:AV->Prop):Prop:=match x,i with
 |.aE _ l,.int n=>xK l n (λy=>y.cells.length=st/\K (.bd y)) .k
 |.sl b u off len,.int n=>bG (0<=n/\n<len) (K (.ptr b u (off+n.toNat*st)))
 |_,_=>False
theorem ab2{q:Bool}{l:List AV}{n:Int}{st:Nat}{K:AV->Prop}:WZ (.aE q l) (.int n) st K=xK l n (λy=>y.cells.length=st/\K (.bd y)) .k:=(rfl)
theorem ab3{b u off len:Nat}{n:Int}{st:Nat}{K:AV->Prop}:WZ (.sl b u off len) (.int n) st K=bG (0<=n/\n<len) (K (.ptr b u (off+n.toNat*st))):=(rfl)
def W0 (x i:AV) (n:Nat) (k:Option Nat) (K:AV->Prop):Prop:=match x,i with
 |.ptr b u o,.int j=>bG (0<=j/\j<n) (K (.ptr b u (o+j.toNat*aC k)))
 |.bd v,.int j=>bG (0<=j/\j<n) (pT v.cells (j.toNat*aC k) k (λy=>K (.bd y)) .k)
 |_,_=>False
theorem ab4{b u o n:Nat}{j:Int}{k:Option Nat}{K:AV->Prop}:W0 (.ptr b u o) (.int j) n k K=bG (0<=j/\j<n) (K (.ptr b u (o+j.toNat*aC k))):=(rfl)
theorem ab5{v:AV}{n:Nat}{j:Int}{k:Option Nat}{K:AV->Prop}:W0 (.bd v) (.int j) n k K=bG (0<=j/\j<n) (pT v.cells (j.toNat*aC k) k (λy=>K (.bd y)) .k):=(rfl)
def O9 (x:AV) (K:Nat->List AV->Prop):Prop:=match x with
 |.func f aI=>K f aI
 |_=>False
theorem ab6{f:Nat}{aI:List AV}{K:Nat->List AV->Prop}:O9 (.func f aI) K=K f aI:=(rfl)
def W1 (x:AV) (gE:List (Nat×Nat)) (K:Nat->AV->Prop):Prop:=match x with
 |.iface t v=>match eM gE t with
  |some f=>K f v
  |none=>False
 |_=>False
theorem ab7{t:Nat}{v:AV}{gE:List (Nat×Nat)}{K:Nat->AV->Prop}:W1 (.iface t v) gE K=oK (eM gE t) (λf=>K f v) .k:=by cases h:eM gE t<;>simp[W1,h,oK,aQ]
def i1 (x:AV) (K:Int->Prop):Prop:=match x with
 |.int a=>K a
 |.ik _ a=>K a
 |_=>False
theorem ab8{a:Int}{K:Int->Prop}:i1 (.int a) K=K a:=(rfl)
theorem GB{k:Nat}{a:Int}{K:Int->Prop}:i1 (.ik k a) K=K a:=(rfl)
def st1 (σ:List ag) (p x:AV) (n:Nat) (K:List ag->Prop):Prop:=match p with
 |.ptr b u o=>aQ (upto σ b u) λB=>(x.cells.length=n/\B.st.isLive=true/\bB x=true)/\ze B.cells o x.cells λcs=>K (az σ b ⟨B.k,cs,B.st⟩)
 |_=>False
theorem ab9{b u o n:Nat}{x:AV}{K:List ag->Prop}:st1 σ (.ptr b u o) x n K=bk (al σ b) u (λk cs st=>(x.cells.length=n/\st.isLive=true/\bB x=true)/\pU cs o x.cells (λcs=>nC cs (λcs=>nB (az σ b ⟨k,cs,st⟩) K .k) .k) .k) .k:=uH
theorem aca{x:Rf}:ct L vars (.mv x) false env aA σ K=K (rv vars env x::env) aA σ:=(rfl)
theorem acb{o:BR}{x y:Rf}:ct L vars (.bin o x y) false env aA σ K=ii (rv vars env x) (rv vars env y) λa b=>wG o a b λv=>K (v::env) aA σ:=(rfl)
theorem acd{n:Bool}{x y:Rf}:ct L vars (.beq n x y) false env aA σ K=bb (rv vars env x) (rv vars env y) λa b=>K (.bool ((a==b) != n)::env) aA σ:=by
 show aQ (ev L σ σ.length [] (rv vars env) (.beq n x y)) _=_;simp only[ev,bb];generalize rv vars env x=p;generalize rv vars env y=q;cases p<;>cases q<;>rfl
theorem ace{x:Rf}:ct L vars (.not x) false env aA σ K=b1 (rv vars env x) λa=>K (.bool (!a)::env) aA σ:=by
 show aQ (ev L σ σ.length [] (rv vars env) (.not x)) _=_;simp only[ev,b1];generalize rv vars env x=p;cases p<;>rfl
theorem acf{c x y:Rf}:ct L vars (.pick c x y) false env aA σ K=b1 (rv vars env c) λa=>K ((match a with|true=>rv vars env x|false=>rv vars env y)::env) aA σ:=by
 show aQ (ev L σ σ.length [] (rv vars env) (.pick c x y)) _=_;simp only[ev,b1];cases h:rv vars env c with
 |bool b=>cases b<;>rfl
 |_=>rfl
theorem acg{x:Rf}:ct L vars (.len x) false env aA σ K=GA (rv vars env x) λa=>K (.int a::env) aA σ:=by
 show aQ (ev L σ σ.length [] (rv vars env) (.len x)) _=_;simp only[ev,GA];generalize rv vars env x=p;cases p<;>rfl
theorem ach{x y:Rf}:ct L vars (.mx true x y) false env aA σ K=ii (rv vars env x) (rv vars env y) λa b=>K (.int (max a b)::env) aA σ:=by
 show aQ (ev L σ σ.length [] (rv vars env) (.mx true x y)) _=_;simp only[ev,ii];generalize rv vars env x=p;generalize rv vars env y=q;cases p<;>cases q<;>try rfl
 rename_i a b;show K (.int (if a<b then b else a)::env) aA σ=K (.int (max a b)::env) aA σ
 rw[show(if a<b then b else a)=max a b by rw[Int.max_def];split<;>split<;>omega]
theorem aci{x y:Rf}:ct L vars (.mx false x y) false env aA σ K=ii (rv vars env x) (rv vars env y) λa b=>K (.int (min a b)::env) aA σ:=by
 show aQ (ev L σ σ.length [] (rv vars env) (.mx false x y)) _=_;simp only[ev,ii];generalize rv vars env x=p;generalize rv vars env y=q;cases p<;>cases q<;>try rfl
 rename_i a b;show K (.int (if b<a then b else a)::env) aA σ=K (.int (min a b)::env) aA σ
 rw[show(if b<a then b else a)=min a b by rw[Int.min_def];split<;>split<;>omega]
theorem acj{x:Rf}{off:Nat}{k:Option Nat}:ct L vars (.bD x off k) false env aA σ K=O7 (rv vars env x) off k λa=>K (a::env) aA σ:=by
 show aQ (ev L σ σ.length [] (rv vars env) (.bD x off k)) _=_;simp only[ev,O7];generalize rv vars env x=p;cases p<;>try rfl
 rename_i v;dsimp only[pT];cases part v.cells off k<;>rfl
theorem ack{x i:Rf}{st:Nat}:ct L vars (.bP x i st) false env aA σ K=WZ (rv vars env x) (rv vars env i) st λv=>K (v::env) aA σ:=(rfl)
theorem acm{x i:Rf}{n:Nat}{k:Option Nat}:ct L vars (.fV x i n k) false env aA σ K=W0 (rv vars env x) (rv vars env i) n k λv=>K (v::env) aA σ:=(rfl)
theorem acn{x:Rf}:ct L vars (.oT x) false env aA σ K=O8 (rv vars env x) λa=>K (a::env) aA σ:=by
 show aQ (ev L σ σ.length [] (rv vars env) (.oT x)) _=_;simp only[ev,O8];generalize rv vars env x=p;cases p<;>rfl
theorem pe{α:Type}{c:Prop} [Decidable c]{x:α}{K:α->Prop}:aQ (if c then some x else none) K=bG c (K x):=by
 by_cases h:c<;>simp[h,aQ,bG]
theorem aco{x:Rf}:ct L vars (.gj x) false env aA σ K=bG (aO (rv vars env x)=true) (K (.bd (rv vars env x)::env) aA σ):=by
 show aQ (ev L σ σ.length [] (rv vars env) (.gj x)) _=_;simp only[ev,pe,dT]
theorem acp{n:Nat}:ct L vars (.gH n) false env aA σ K=K (.aM::env) aA σ:=(rfl)
theorem acq{p x:Rf}{n:Nat}:ct L vars (.kK p x n) false env aA σ K=bG (aO (rv vars env x)=true/\(rv vars env x).cells.length=n) (K (.bd (rv vars env x)::env) aA σ):=by
 show aQ (ev L σ σ.length [] (rv vars env) (.kK p x n)) _=_;simp only[ev,pe,dT,aD,cP]
theorem acr{z:List AV}{ps:List (Nat×Nat×Rf)}:ct L vars (.jK z ps) false env aA σ K=aQ (gY z (ps.map λp=>(p.1,p.2.1,rv vars env p.2.2))) λl=>K (.agg l::env) aA σ:=by
 show aQ (ev L σ σ.length [] (rv vars env) (.jK z ps)) _=_;simp only[ev];cases gY z (ps.map λp=>(p.1,p.2.1,rv vars env p.2.2))<;>rfl
theorem acs{x:Rf}{i:Nat}:ct L vars (.ext x i) false env aA σ K=WY (rv vars env x) i λa=>K (a::env) aA σ:=by
 show aQ (ev L σ σ.length [] (rv vars env) (.ext x i)) _=_;simp only[ev,WY];generalize rv vars env x=p;cases p<;>try rfl
 rename_i l;dsimp only[oK];cases oU l i<;>rfl
theorem acu{f:Nat}{cs:List Rf}:ct L vars (.BS f cs) false env aA σ K=K (.func f (cs.map (rv vars env))::env) aA σ:=(rfl)
theorem acv{t:Nat}{x:Rf}:ct L vars (.LH t x) false env aA σ K=K (.iface t (rv vars env x)::env) aA σ:=(rfl)
theorem acw{ps:List Rf}{st:Nat}:ct L vars (.cd ps st) false env aA σ K=bG (ay (ps.map (rv vars env))=true/\fitAll st (ps.map (rv vars env))=true) (K (.aE false (ps.map (rv vars env))::env) aA σ):=by
 show aQ (ev L σ σ.length [] (rv vars env) (.cd ps st)) _=_;simp only[ev,pe,dT,aD]
theorem acx{ps:List Rf}{st:Nat}:ct L vars (.dE ps st) false env aA σ K=bG (fitAll st (ps.map (rv vars env))=true) (K (.arr (ps.map (rv vars env))::env) aA σ):=by
 show aQ (ev L σ σ.length [] (rv vars env) (.dE ps st)) _=_;simp only[ev,pe,dT]
theorem acy{f:Nat}{args:List Rf}:ct L vars (.bW f args) false env aA σ K=rI L f (args.map (rv vars env)) λv=>K (v::env) aA σ:=(rfl)
theorem acz{x:Rf}{args:List Rf}:ct L vars (.lG x args) false env aA σ K=O9 (rv vars env x) λf aI=>rI L f (args.map (rv vars env)++aI) λv=>K (v::env) aA σ:=(rfl)
theorem acA{x:Rf}{gE:List (Nat×Nat)}{args:List Rf}:ct L vars (.inv x gE args) false env aA σ K=W1 (rv vars env x) gE λf v=>rI L f (v::args.map (rv vars env)) λv=>K (v::env) aA σ:=(rfl)
theorem acB{n:Bool}{x:Rf}:ct L vars (.nR n x) false env aA σ K=sg σ (rv vars env x) λa=>K (.bool (a != n)::env) aA σ:=by
 show aQ (ev L σ σ.length [] (rv vars env) (.nR n x)) _=_;cases h:rv vars env x with
 |ah=>simp[ev,h,sg,aQ,dT]
 |aE q l=>
  cases q with
  |true=>simp[ev,h,sg,aQ,dT]
  |false=>cases l<;>simp[ev,h,sg,aQ,dT]
 |sl b u o n=>
  simp only[ev,h,sg];cases upto σ b u with
  |none=>rfl
  |some B=>obtain⟨q,cs,st⟩:=B;cases st<;>simp[aQ,dT]
 |_=>simp[ev,h,sg,aQ]
theorem acC{n:Bool}{x:Rf}:ct L vars (.nR n x) true env aA σ K=sg aA (rv vars env x) λa=>K (.bool (a != n)::env) aA σ:=by
 show aQ (ev L aA σ.length [] (rv vars env) (.nR n x)) _=_;cases h:rv vars env x with
 |ah=>simp[ev,h,sg,aQ,dT]
 |aE q l=>
  cases q with
  |true=>simp[ev,h,sg,aQ,dT]
  |false=>cases l<;>simp[ev,h,sg,aQ,dT]
 |sl b u o n=>
  simp only[ev,h,sg];cases upto aA b u with
  |none=>rfl
  |some B=>obtain⟨q,cs,st⟩:=B;cases st<;>simp[aQ,dT]
 |_=>simp[ev,h,sg,aQ]
theorem acD{x:Rf}{k:Option Nat}:ct L vars (.bj x k) false env aA σ K=sf (rv vars env x) k λa=>K (a::env) aA σ:=by
 show aQ (ev L σ σ.length [] (rv vars env) (.bj x k)) _=_;simp only[ev,sf];generalize rv vars env x=p;cases p<;>try rfl
 rename_i v;cases k with
 |none=>cases v<;>rfl
 |some n=>
  cases v with
  |agg l=>by_cases h:l.length=n<;>simp[h,aQ,dT]
  |_=>rfl
def ld1 (σ:List ag) (x:AV) (k:Option Nat) (K:AV->Prop):Prop:=match x with
 |.bd v=>sf (.bd v) k K
 |.ptr b u o=>aQ (upto σ b u) λB=>B.st.isLive=true/\zd B.cells o k K
 |_=>False
theorem acE{x:Rf}{k:Option Nat}:ct L vars (.ld x k) false env aA σ K=ld1 σ (rv vars env x) k λa=>K (a::env) aA σ:=by
 show qi L σ σ.length (rv vars env) (.ld x k) _=_;cases h:rv vars env x with
 |bd v=>cases k<;>cases v<;>simp[qi,h,ld1,sf,dT]
 |ptr b u o=>simp[qi,h,ld1,dT]
 |_=>simp[qi,h,ld1]
theorem acF{x:Rf}{k:Option Nat}:ct L vars (.ld x k) true env aA σ K=ld1 aA (rv vars env x) k λa=>K (a::env) aA σ:=by
 show qi L aA σ.length (rv vars env) (.ld x k) _=_;cases h:rv vars env x with
 |bd v=>cases k<;>cases v<;>simp[qi,h,ld1,sf,dT]
 |ptr b u o=>simp[qi,h,ld1,dT]
 |_=>simp[qi,h,ld1]
theorem acG{x:Rf}:ct L vars (.Gn x) false env aA σ K=i1 (rv vars env x) λn=>qh n λv=>K (v::env) aA σ:=(rfl)
def sl1 (σ:List ag) (x:AV) (a:Int) (b:Option Int) (st:Nat) (K:AV->Prop):Prop:=match x with
 |.aE nn l=>bG ((0<=a/\a<=b.getD l.length/\b.getD l.length<=l.length)/\gi st l=true) (K (.aE (nn&&decide (0<l.length)) ((l.drop a.toNat).take ((b.getD l.length).toNat-a.toNat))))
 |.sl b' u off len=>aQ (upto σ b' u) λB=>bG ((0<=a/\a<=b.getD len/\b.getD len<=len)/\aC B.k=st) (K (.sl b' u (off+a.toNat*st) ((b.getD len).toNat-a.toNat)))
 |_=>False
theorem acH{x:Rf}{lo hi:Option Rf}{st:Nat}:ct L vars (.oP x lo hi st) false env aA σ K=aQ (tV (rv vars env) lo) λa=>aQ (tW (rv vars env) hi) λb=>sl1 σ (rv vars env x) a b st λv=>K (v::env) aA σ:=by
 show qi L σ σ.length (rv vars env) (.oP x lo hi st) _=_;unfold qi;simp only;cases tV (rv vars env) lo with
 |none=>rfl
 |some a=>cases tW (rv vars env) hi with
  |none=>rfl
  |some b=>rfl
theorem acI{x:Rf}{lo hi:Option Rf}{st:Nat}:ct L vars (.oP x lo hi st) true env aA σ K=aQ (tV (rv vars env) lo) λa=>aQ (tW (rv vars env) hi) λb=>sl1 aA (rv vars env x) a b st λv=>K (v::env) aA σ:=by
 show qi L aA σ.length (rv vars env) (.oP x lo hi st) _=_;unfold qi;simp only;cases tV (rv vars env) lo with
 |none=>rfl
 |some a=>cases tW (rv vars env) hi with
  |none=>rfl
  |some b=>rfl
theorem acJ{f:Nat}{args:List Rf}:ct L vars (.tS f args) false env aA σ K=aQ (bZ (λx=>view σ false vd (rv vars env x)) args) λvs=>LX L f vs [] λv bp =>aQ (cx bp true v) λu=>K (u::env) aA σ:=(rfl)
theorem acK{f:Nat}{args:List Rf}:ct L vars (.tS f args) true env aA σ K=aQ (bZ (λx=>view aA false vd (rv vars env x)) args) λvs=>LX L f vs [] λv bp =>aQ (cx bp true v) λu=>K (u::env) aA σ:=(rfl)
theorem acL{f:Nat}{args:List Rf}:ct L vars (.can f args) false env aA σ K=bG (ay (args.map (rv vars env))=true) (LX L f (args.map (rv vars env)) [] λv bp =>K (jA σ.length v::env) σ (σ++bp.map (gR σ.length))):=(rfl)
theorem acM{x:Rf}{k:Option Nat}:ct L vars (.vg x k) false env aA σ K=bG ((rv vars env x).cells.length=aC k/\bB (rv vars env x)=true) (K (.ptr σ.length (aC k) 0::env) σ (σ ++ [⟨k,(rv vars env x).cells,.live⟩])):=by
 show aQ (ev L σ σ.length [] (rv vars env) (.vg x k)) _=_;simp only[ev,pe,dT,fW,aD,cP]
theorem acN{z:List AV}{k:Option Nat}:ct L vars (.oD z k) false env aA σ K=bG (z.length=aC k) (K (.ptr σ.length (aC k) 0::env) σ (σ ++ [⟨k,z,.live⟩])):=by
 show aQ (ev L σ σ.length [] (rv vars env) (.oD z k)) _=_;simp only[ev,pe,dT,fW,cP]
theorem acO{n c:Rf}{z:List AV}{k:Option Nat}:ct L vars (.jV n c z k) false env aA σ K=ii (rv vars env n) (rv vars env c) λn c=>bG (0<=n/\n<=c/\c<=dG/\z.length=aC k) (K (.sl σ.length (eG c.toNat z).length 0 n.toNat::env) σ (σ ++ [⟨k,eG c.toNat z,.live⟩])):=(rfl)
theorem acP{ps:List Rf}{k:Option Nat}:ct L vars (.mz ps k) false env aA σ K=bG (fitAll (aC k) (ps.map (rv vars env))=true) (K (.sl σ.length ((ps.map (rv vars env)).flatMap AV.cells).length 0 ps.length::env) σ (σ ++ [⟨k,(ps.map (rv vars env)).flatMap AV.cells,.live⟩])):=by
 show aQ (ev L σ σ.length [] (rv vars env) (.mz ps k)) _=_;simp only[ev,pe,dT,fW]
theorem acQ{k:Option Nat}:ct L vars (.nl k) false env aA σ K=K (.sl σ.length 0 0 0::env) σ (σ ++ [⟨k,[],.jP⟩]):=(rfl)
def W2 (σ:List ag) (s:AV) (k:Option Nat) (n:Nat) (cs:List AV) (K:AV->List ag->Prop):Prop:=match s with
 |.sl b u off len=>aQ (upto σ b u) λB=>bG (off=0/\u=len*aC k/\len+n<=dG/\tU B.k k=true) ((n=0->K (.sl b u off len) σ)/\(n ≠ 0->cs.length ≠ 0/\K (.sl b (u+cs.length) 0 (len+n)) (sO σ b cs)))
 |.ah=>(n=0->K .ah σ)/\(n ≠ 0->n<=dG/\K (.sl σ.length cs.length 0 n) (σ ++ [⟨k,cs,.live⟩]))
 |.emp=>(n=0->K .emp σ)/\(n ≠ 0->n<=dG/\K (.sl σ.length cs.length 0 n) (σ ++ [⟨k,cs,.live⟩]))
 |.arr l=>(n=0->K (if ay l then .aE true l else .arr l) σ)/\(n ≠ 0->(fitAll (aC k) l=true/\l.length+n<=dG)/\K (.sl σ.length (l.flatMap AV.cells++cs).length 0 (l.length+n)) (σ ++ [⟨k,l.flatMap AV.cells++cs,.live⟩]))
 |_=>False
theorem acR{b u off len:Nat}{k:Option Nat}{n:Nat}{cs:List AV}{K:AV->List ag->Prop}:W2 σ (.sl b u off len) k n cs K=aQ (upto σ b u) λB=>bG (off=0/\u=len*aC k/\len+n<=dG/\tU B.k k=true) ((n=0->K (.sl b u off len) σ)/\(n ≠ 0->cs.length ≠ 0/\K (.sl b (u+cs.length) 0 (len+n)) (sO σ b cs))):=(rfl)
theorem acS{s x:Rf}{k:Option Nat}:ct L vars (.app s x k) false env aA σ K=aQ (aG σ k (rv vars env x)) λp=>W2 σ (rv vars env s) k p.1 p.2 λv τ=>K (v::env) σ τ:=by
 show qi L σ σ.length (rv vars env) (.app s x k) _=_;unfold qi;simp only;cases aG σ k (rv vars env x)with
 |none=>rfl
 |some p=>
  obtain⟨n,cs⟩:=p;cases h:rv vars env s<;>rfl
theorem acT{p x:Rf}{n:Nat}:ct L vars (.st p x n) false env aA σ K=st1 σ (rv vars env p) (rv vars env x) n λτ=>K (.aM::env) [] τ:=(rfl)
def W3 (σ:List ag) (s:AV) (k:Option Nat) (n:Nat) (cs:List AV) (K:AV->List ag->Prop):Prop:=match s with
 |.sl b u off len=>aQ (upto σ b u) λB=>bG (off=0/\len+n<=dG/\tU B.k k=true/\(n ≠ 0->cs.length ≠ 0)) ((n=0->K (.sl b u off len) σ)/\(n ≠ 0->u=len*aC k->K (.sl b (u+cs.length) 0 (len+n)) (az σ b ⟨B.k,B.cells++cs,.live⟩))/\(n ≠ 0->u ≠ len*aC k->(len+n)*aC k<=u/\K (.sl b u 0 (len+n)) (az σ b ⟨B.k,putAt B.cells (len*aC k) cs,B.st⟩)))
 |.ah=>(n=0->K .ah σ)/\(n ≠ 0->n<=dG/\K (.sl σ.length cs.length 0 n) (σ ++ [⟨k,cs,.live⟩]))
 |.emp=>(n=0->K .emp σ)/\(n ≠ 0->n<=dG/\K (.sl σ.length cs.length 0 n) (σ ++ [⟨k,cs,.live⟩]))
 |.arr l=>(n=0->K (if ay l then .aE true l else .arr l) σ)/\(n ≠ 0->(fitAll (aC k) l=true/\l.length+n<=dG)/\K (.sl σ.length (l.flatMap AV.cells++cs).length 0 (l.length+n)) (σ ++ [⟨k,l.flatMap AV.cells++cs,.live⟩]))
 |_=>False
theorem acU{b u off len:Nat}{k:Option Nat}{n:Nat}{cs:List AV}{K:AV->List ag->Prop}:W3 σ (.sl b u off len) k n cs K=aQ (upto σ b u) λB=>bG (off=0/\len+n<=dG/\tU B.k k=true/\(n ≠ 0->cs.length ≠ 0)) ((n=0->K (.sl b u off len) σ)/\(n ≠ 0->u=len*aC k->K (.sl b (u+cs.length) 0 (len+n)) (az σ b ⟨B.k,B.cells++cs,.live⟩))/\(n ≠ 0->u ≠ len*aC k->(len+n)*aC k<=u/\K (.sl b u 0 (len+n)) (az σ b ⟨B.k,putAt B.cells (len*aC k) cs,B.st⟩))):=(rfl)
theorem acV{s x:Rf}{k:Option Nat}:ct L vars (.df s x k) false env aA σ K=aQ (aG σ k (rv vars env x)) λp=>W3 σ (rv vars env s) k p.1 p.2 λv τ=>K (v::env) [] τ:=by
 show zf L σ (rv vars env) (.df s x k) (λv bp =>K (v::env) [] bp)=_;unfold zf;simp only;cases aG σ k (rv vars env x)with
 |none=>rfl
 |some p=>
  obtain⟨n,cs⟩:=p;cases h:rv vars env s<;>rfl
theorem acW{f:Nat}{args:List Rf}:ct L vars (.fI f args) false env aA σ K=LX L f (args.map (rv vars env)) σ λv τ=>K (v::env) [] τ:=(rfl)
theorem acX{x:Rf}{args:List Rf}:ct L vars (.kW x args) false env aA σ K=O9 (rv vars env x) λf aI=>LX L f (args.map (rv vars env)++aI) σ λv τ=>K (v::env) [] τ:=(rfl)
end
section
variable{L:CE}{vars env:List AV}{aA σ:List ag}{K:List AV->List ag->List ag->Prop}
theorem acY{x:Rf}:ct L vars (.mv x) false env aA σ K=nx (rv vars env x) (λv=>K (v::env) aA σ) .k:=aca
theorem Pa{o:BR}{x y:Rf}:ct L vars (.bin o x y) false env aA σ K=nx (rv vars env x) (λx=>nx (rv vars env y) (λy=>ii x y λa b=>wG o a b λv=>K (v::env) aA σ) .k) .k:=acb
theorem Pb{n:Bool}{x y:Rf}:ct L vars (.beq n x y) false env aA σ K=nx (rv vars env x) (λx=>nx (rv vars env y) (λy=>bb x y λa b=>K (.bool ((a==b) != n)::env) aA σ) .k) .k:=acd
theorem Pc{x:Rf}:ct L vars (.not x) false env aA σ K=nx (rv vars env x) (λx=>b1 x λa=>K (.bool (!a)::env) aA σ) .k:=ace
def pk (b:Bool) (x y:AV):AV:=match b with
 |true=>x
 |false=>y
theorem acZ{x y:AV}:pk true x y=x:=(rfl)
theorem ac0{x y:AV}:pk false x y=y:=(rfl)
theorem ac1{b:Bool}{x y:Int}:pk b (.int x) (.int y) = .int (if b=true then x else y):=by cases b<;>rfl
theorem ac2{b:Bool}{x y:Bool}:pk b (.bool x) (.bool y) = .bool (if b=true then x else y):=by cases b<;>rfl
def pq (b:Bool) (x y:AV) (K:AV->Prop) (_:Tk K):Prop:=K (pk b x y)
theorem Pd{x y:AV}{K:AV->Prop}{t:Tk K}:pq true x y K t=nx x K .k:=(rfl)
theorem Pe{x y:AV}{K:AV->Prop}{t:Tk K}:pq false x y K t=nx y K .k:=(rfl)
theorem Pf{b:Bool}{x y:Int}{K:AV->Prop}{t:Tk K}:pq b (.int x) (.int y) K t=K (.int (if b=true then x else y)):=by unfold pq;rw[ac1]
theorem Pg{b:Bool}{x y:Bool}{K:AV->Prop}{t:Tk K}:pq b (.bool x) (.bool y) K t=K (.bool (if b=true then x else y)):=by unfold pq;rw[ac2]
theorem ac3{b:Bool}{x y:AV}{K:AV->Prop}{t:Tk K}:pq b x y K t=K (pk b x y):=(rfl)
theorem ac4{c x y:Rf}:ct L vars (.pick c x y) false env aA σ K=nx (rv vars env c) (λc=>b1 c λa=>pq a (rv vars env x) (rv vars env y) (λv=>K (v::env) aA σ) .k) .k:=acf
theorem Ph{x:Rf}:ct L vars (.len x) false env aA σ K=nx (rv vars env x) (λx=>GA x λa=>K (.int a::env) aA σ) .k:=acg
theorem Pj{x y:Rf}:ct L vars (.mx true x y) false env aA σ K=nx (rv vars env x) (λx=>nx (rv vars env y) (λy=>ii x y λa b=>K (.int (max a b)::env) aA σ) .k) .k:=ach
theorem Pk{x y:Rf}:ct L vars (.mx false x y) false env aA σ K=nx (rv vars env x) (λx=>nx (rv vars env y) (λy=>ii x y λa b=>K (.int (min a b)::env) aA σ) .k) .k:=aci
theorem Pm{x:Rf}{off:Nat}{k:Option Nat}:ct L vars (.bD x off k) false env aA σ K=nx (rv vars env x) (λx=>O7 x off k λa=>K (a::env) aA σ) .k:=acj
theorem Pn{x i:Rf}{st:Nat}:ct L vars (.bP x i st) false env aA σ K=nx (rv vars env x) (λx=>nx (rv vars env i) (λi=>WZ x i st λv=>K (v::env) aA σ) .k) .k:=ack
theorem ac5{x i:Rf}{n:Nat}{k:Option Nat}:ct L vars (.fV x i n k) false env aA σ K=nx (rv vars env x) (λx=>nx (rv vars env i) (λi=>W0 x i n k λv=>K (v::env) aA σ) .k) .k:=acm
theorem Po{x:Rf}:ct L vars (.oT x) false env aA σ K=nx (rv vars env x) (λx=>O8 x λa=>K (a::env) aA σ) .k:=acn
theorem Pp{x:Rf}:ct L vars (.gj x) false env aA σ K=nx (rv vars env x) (λx=>bG (aO x=true) (K (.bd x::env) aA σ)) .k:=aco
theorem Pq{p x:Rf}{n:Nat}:ct L vars (.kK p x n) false env aA σ K=nx (rv vars env x) (λx=>bG (aO x=true/\x.cells.length=n) (K (.bd x::env) aA σ)) .k:=acq
theorem Pr{z:List AV}{ps:List (Nat×Nat×Rf)}:ct L vars (.jK z ps) false env aA σ K=oK (gY z (ie (λp=>(p.1,p.2.1,rv vars env p.2.2)) ps)) (λl=>nL l (λl=>K (.agg l::env) aA σ) .k) .k:=by rw[<-iH];exact acr
theorem Ps{x:Rf}{i:Nat}:ct L vars (.ext x i) false env aA σ K=nx (rv vars env x) (λx=>WY x i λa=>nx a (λa=>K (a::env) aA σ) .k) .k:=acs
theorem Pt{f:Nat}{cs:List Rf}:ct L vars (.BS f cs) false env aA σ K=nL (ie (rv vars env) cs) (λl=>K (.func f l::env) aA σ) .k:=by rw[<-iH];exact acu
theorem Pu{t:Nat}{x:Rf}:ct L vars (.LH t x) false env aA σ K=nx (rv vars env x) (λx=>K (.iface t x::env) aA σ) .k:=acv
theorem ac6{ps:List Rf}{st:Nat}:ct L vars (.cd ps st) false env aA σ K=nL (ie (rv vars env) ps) (λl=>bG (ay l=true/\fitAll st l=true) (K (.aE false l::env) aA σ)) .k:=by rw[<-iH];exact acw
theorem ac7{ps:List Rf}{st:Nat}:ct L vars (.dE ps st) false env aA σ K=nL (ie (rv vars env) ps) (λl=>bG (fitAll st l=true) (K (.arr l::env) aA σ)) .k:=by rw[<-iH];exact acx
def cl (L:CE) (f:Nat) (args:List AV) (K:AV->Prop) (_:Tk K):Prop:=rI L f args K
theorem Pv{f:Nat}{args:List AV}{K:AV->Prop}{t:Tk K}:cl L f args K t=(ay args=true/\nL (ie wk args) (λas=>oK (xM L f as) (λv=>nx v K .k) .k) .k):=by rw[<-iH];rfl
theorem Pw{f:Nat}{args:List Rf}:ct L vars (.bW f args) false env aA σ K=nL (ie (rv vars env) args) (λas=>cl L f as (λv=>K (v::env) aA σ) .k) .k:=by rw[<-iH];exact acy
theorem ac8{x:Rf}{args:List Rf}:ct L vars (.lG x args) false env aA σ K=nx (rv vars env x) (λx=>O9 x λf aI=>nL (gN (ie (rv vars env) args) aI) (λas=>cl L f as (λv=>K (v::env) aA σ) .k) .k) .k:=by unfold nx nL cl;simp only[<-iH,<-gm];exact acz
theorem Px{x:Rf}{gE:List (Nat×Nat)}{args:List Rf}:ct L vars (.inv x gE args) false env aA σ K=nx (rv vars env x) (λx=>W1 x gE λf v=>nL (v::ie (rv vars env) args) (λas=>cl L f as (λv=>K (v::env) aA σ) .k) .k) .k:=by unfold nx nL cl;simp only[<-iH];exact acA
theorem Py{n:Bool}{x:Rf}:ct L vars (.nR n x) false env aA σ K=nx (rv vars env x) (λx=>sg σ x λa=>K (.bool (a != n)::env) aA σ) .k:=acB
theorem ac9{n:Bool}{x:Rf}:ct L vars (.nR n x) true env aA σ K=nx (rv vars env x) (λx=>sg aA x λa=>K (.bool (a != n)::env) aA σ) .k:=acC
theorem Pz{x:Rf}{k:Option Nat}:ct L vars (.bj x k) false env aA σ K=nx (rv vars env x) (λx=>sf x k λa=>K (a::env) aA σ) .k:=acD
def PA (σ:List ag) (x:AV) (k:Option Nat) (K:AV->Prop):Prop:=match x with
 |.bd v=>nx v (λv=>sf (.bd v) k K) .k
 |.ptr b u o=>bk (al σ b) u (λ_ cs st=>st.isLive=true/\pT cs o k (λv=>nx v K .k) .k) .k
 |_=>False
theorem ada{v:AV}{k:Option Nat}{K:AV->Prop}:PA σ (.bd v) k K=nx v (λv=>sf (.bd v) k K) .k:=(rfl)
theorem adb{b u o:Nat}{k:Option Nat}{K:AV->Prop}:PA σ (.ptr b u o) k K=bk (al σ b) u (λ_ cs st=>st.isLive=true/\pT cs o k (λv=>nx v K .k) .k) .k:=(rfl)
theorem PB{σ:List ag}{x:AV}{k:Option Nat}{K:AV->Prop}:ld1 σ x k K=PA σ x k K:=by
 cases x with
 |ptr b u o=>exact uH
 |_=>rfl
theorem ade{x:Rf}{k:Option Nat}:ct L vars (.ld x k) false env aA σ K=nx (rv vars env x) (λx=>PA σ x k λa=>K (a::env) aA σ) .k:=by unfold nx;simp only[<-PB];exact acE
theorem PD{x:Rf}{k:Option Nat}:ct L vars (.ld x k) true env aA σ K=nx (rv vars env x) (λx=>PA aA x k λa=>K (a::env) aA σ) .k:=by unfold nx;simp only[<-PB];exact acF
theorem PF{x:Rf}:ct L vars (.Gn x) false env aA σ K=nx (rv vars env x) (λx=>i1 x λn=>qh n λv=>K (v::env) aA σ) .k:=acG
def PG (σ:List ag) (x:AV) (a:Int) (b:Option Int) (st:Nat) (K:AV->Prop):Prop:=match x with
 |.aE nn l=>bG ((0<=a/\a<=b.getD l.length/\b.getD l.length<=l.length)/\gi st l=true) (nC ((l.drop a.toNat).take ((b.getD l.length).toNat-a.toNat)) (λl' =>K (.aE (nn&&decide (0<l.length)) l')) .k)
 |.sl b' u off len=>bk (al σ b') u (λk _ _=>bG ((0<=a/\a<=b.getD len/\b.getD len<=len)/\aC k=st) (K (.sl b' u (off+a.toNat*st) ((b.getD len).toNat-a.toNat)))) .k
 |_=>False
theorem adf{nn:Bool}{l:List AV}{a:Int}{b:Option Int}{st:Nat}{K:AV->Prop}:PG σ (.aE nn l) a b st K=bG ((0<=a/\a<=b.getD l.length/\b.getD l.length<=l.length)/\gi st l=true) (nC ((l.drop a.toNat).take ((b.getD l.length).toNat-a.toNat)) (λl' =>K (.aE (nn&&decide (0<l.length)) l')) .k):=(rfl)
theorem adg{b' u off len:Nat}{a:Int}{b:Option Int}{st:Nat}{K:AV->Prop}:PG σ (.sl b' u off len) a b st K=bk (al σ b') u (λk _ _=>bG ((0<=a/\a<=b.getD len/\b.getD len<=len)/\aC k=st) (K (.sl b' u (off+a.toNat*st) ((b.getD len).toNat-a.toNat)))) .k:=(rfl)
theorem PH{σ:List ag}{x:AV}{a:Int}{b:Option Int}{st:Nat}{K:AV->Prop}:sl1 σ x a b st K=PG σ x a b st K:=by
 cases x with
 |sl b u o n=>exact uH
 |_=>rfl
def IB:List AV->List AV->(Bool->Prop)->Prop
 | [],[],K=>K true
 |.int a::xs,.int b::ys,K=>IB xs ys λc=>K (decide (a=b)&&c)
 |_,_,_=>False
theorem adh{K:Bool->Prop}:IB [] [] K=K true:=(rfl)
theorem PI{a b:Int}{xs ys:List AV}{K:Bool->Prop}:IB (.int a::xs) (.int b::ys) K=IB xs ys λc=>K (decide (a=b)&&c):=(rfl)
theorem adi:∀{xs ys:List AV}{K:Bool->Prop},aQ (fh xs ys) K=IB xs ys K:=by
 intro xs
 induction xs with
 |nil=>intro ys K;cases ys<;>rfl
 |cons x xs ih=>
  intro ys K;cases ys with
  |nil=>cases x<;>rfl
  |cons y ys=>
   cases x<;>try rfl
   cases y<;>try rfl
   rename_i a b;rw[PI,<-ih];simp only[fh];cases fh xs ys<;>rfl
def sq1 (n:Nat) (x y:AV) (K:Bool->Prop):Prop:=match x,y with
 |.agg xs,.agg ys=>xs.length=n/\IB xs ys K
 |_,_=>False
theorem PJ{n:Nat}{xs ys:List AV}{K:Bool->Prop}:sq1 n (.agg xs) (.agg ys) K=(xs.length=n/\IB xs ys K):=(rfl)
theorem PK{g:Bool}{n:Nat}{x y:Rf}:ct L vars (.seq g n x y) false env aA σ K=nx (rv vars env x) (λx=>nx (rv vars env y) (λy=>sq1 n x y λb=>K (.bool (b != g)::env) aA σ) .k) .k:=by
 show aQ (ev L σ σ.length [] (rv vars env) (.seq g n x y)) _=_;simp only[nx];generalize hx:rv vars env x=p;generalize hy:rv vars env y=q;simp only[ev,hx,hy];cases p<;>try rfl
 cases q<;>try rfl
 rename_i xs ys;rw[PJ,<-adi]
 by_cases hc:xs.length=n
 ·simp only[ae hc,hc,true_and]
  cases fh xs ys<;>rfl
 ·simp only[ab hc]
  exact propext ⟨λh=>h.elim,λh=>hc h.1⟩
def mp (o:Option ag) (K:Option Nat->List AV->List (AV×AV)->Prop) (_:Tk K):Prop:=match o with
 |some ⟨k,cs,.map es⟩=>cs.length=0/\K k cs es
 |_=>False
theorem adj{k:Option Nat}{cs:List AV}{es:List (AV×AV)}{K:Option Nat->List AV->List (AV×AV)->Prop}{t:Tk K}:mp (some ⟨k,cs,.map es⟩) K t=(cs.length=0/\K k cs es):=(rfl)
theorem GC{σ:List ag}{b:Nat}{K:List (AV×AV)->Prop}:aQ (fb σ b) K=mp (al σ b) (λ_ _ es=>K es) .k:=by
 unfold mp fb;cases al σ b with
 |none=>rfl
 |some B=>
  obtain⟨k,cs,st⟩:=B;cases st with
  |map es=>
   by_cases h:cs.length=0
   ·simp[h,aQ]
   ·simp[h,aQ]
  |_=>rfl
def ID (z:AV) (ok:Bool):Option AV->AV
 |some v=>if ok then .bS [v,.bool true]else v
 |none=>if ok then .bS [z,.bool false]else z
theorem adk{z v:AV}:ID z false (some v)=v:=rfl
theorem adl{z:AV}:ID z false none=z:=rfl
theorem adm{z v:AV}:ID z true (some v) = .bS [v,.bool true]:=rfl
theorem adn{z:AV}:ID z true none = .bS [z,.bool false]:=rfl
def PL (σ:List ag) (x:AV) (kd:Nat) (k z:AV) (ok:Bool) (K:AV->Prop):Prop:=match x with
 |.cQ b=>aQ (fb σ b) λes=>bG (bg kd k=true) (oK (cL es k) (λo=>nx (ID z ok o) K .k) .k)
 |_=>False
theorem ado{σ:List ag}{b kd:Nat}{k z:AV}{ok:Bool}{K:AV->Prop}:PL σ (.cQ b) kd k z ok K=mp (al σ b) (λ_ _ es=>bG (bg kd k=true) (oK (cL es k) (λo=>nx (ID z ok o) K .k) .k)) .k:=GC
theorem PM{x k:Rf}{kd:Nat}{z:AV}{ok:Bool}:ct L vars (.vq x kd k z ok) false env aA σ K=nx (rv vars env x) (λx=>nx (rv vars env k) (λk=>PL σ x kd k z ok λv=>K (v::env) aA σ) .k) .k:=by
 show aQ (ev L σ σ.length [] (rv vars env) (.vq x kd k z ok)) _=_;simp only[nx];generalize hx:rv vars env x=p;generalize hy:rv vars env k=q;simp only[ev,hx,hy];cases p<;>try rfl
 simp only[PL];cases fb σ _ with
 |none=>rfl
 |some es=>
  simp only[Cc,bG]
  by_cases hc:bg kd q=true
  ·simp only[ae hc,hc,true_and]
   cases cL es q with
   |none=>rfl
   |some o=>cases o<;>rfl
  ·simp only[ab hc]
   exact propext ⟨λh=>h.elim,λh=>hc h.1⟩
theorem adp{x k:Rf}{kd:Nat}{z:AV}{ok:Bool}:ct L vars (.vq x kd k z ok) true env aA σ K=nx (rv vars env x) (λx=>nx (rv vars env k) (λk=>PL aA x kd k z ok λv=>K (v::env) aA σ) .k) .k:=by
 show aQ (ev L aA σ.length [] (rv vars env) (.vq x kd k z ok)) _=_;simp only[nx];generalize hx:rv vars env x=p;generalize hy:rv vars env k=q;simp only[ev,hx,hy];cases p<;>try rfl
 simp only[PL];cases fb aA _ with
 |none=>rfl
 |some es=>
  simp only[Cc,bG]
  by_cases hc:bg kd q=true
  ·simp only[ae hc,hc,true_and]
   cases cL es q with
   |none=>rfl
   |some o=>cases o<;>rfl
  ·simp only[ab hc]
   exact propext ⟨λh=>h.elim,λh=>hc h.1⟩
def PN (σ:List ag) (x:AV) (K:Int->Prop):Prop:=match x with
 |.cQ b=>aQ (fb σ b) λes=>K es.length
 |_=>False
theorem adq{σ:List ag}{b:Nat}{K:Int->Prop}:PN σ (.cQ b) K=mp (al σ b) (λ_ _ es=>K es.length) .k:=GC
theorem PO{x:Rf}:ct L vars (.AU x) false env aA σ K=nx (rv vars env x) (λx=>PN σ x λn=>K (.int n::env) aA σ) .k:=by
 show aQ (ev L σ σ.length [] (rv vars env) (.AU x)) _=_;simp only[nx];generalize hx:rv vars env x=p;simp only[ev,hx];cases p<;>try rfl
 simp only[PN];cases fb σ _<;>rfl
theorem adr{x:Rf}:ct L vars (.AU x) true env aA σ K=nx (rv vars env x) (λx=>PN aA x λn=>K (.int n::env) aA σ) .k:=by
 show aQ (ev L aA σ.length [] (rv vars env) (.AU x)) _=_;simp only[nx];generalize hx:rv vars env x=p;simp only[ev,hx];cases p<;>try rfl
 simp only[PN];cases fb aA _<;>rfl
theorem PQ:ct L vars .yl false env aA σ K=nB (gN σ [⟨some 0,[],.map []⟩]) (λτ=>K (.cQ σ.length::env) σ τ) .k:=by rw[<-gm];rfl
def mu1 (σ:List ag) (m:AV) (kd:Nat) (k x:AV) (K:List ag->Prop):Prop:=match m with
 |.cQ b=>mp (al σ b) (λkk cs es=>bG (bg kd k=true/\aO x=true) (oK (cL es k) (λo=>o=none/\nB (az σ b ⟨kk,cs,.map (es ++ [(k,x)])⟩) K .k) .k)) .k
 |_=>False
theorem ads{σ:List ag}{b kd:Nat}{k x:AV}{K:List ag->Prop}:mu1 σ (.cQ b) kd k x K=mp (al σ b) (λkk cs es=>bG (bg kd k=true/\aO x=true) (oK (cL es k) (λo=>o=none/\nB (az σ b ⟨kk,cs,.map (es ++ [(k,x)])⟩) K .k) .k)) .k:=rfl
theorem PS{m k x:Rf}{kd:Nat}:ct L vars (.vl m kd k x) false env aA σ K=nx (rv vars env m) (λm=>nx (rv vars env k) (λk=>nx (rv vars env x) (λx=>mu1 σ m kd k x λτ=>K (.aM::env) [] τ) .k) .k) .k:=by
 show aQ (fF L σ (rv vars env) (.vl m kd k x)) _=_;simp only[nx];generalize hx:rv vars env m=p;generalize hy:rv vars env k=q;generalize hz:rv vars env x=r;simp only[fF,hx,hy,hz];cases p<;>try rfl
 rename_i b;simp only[mu1,mp,fb,oO];cases hb:al σ b with
 |none=>rfl
 |some B=>
  obtain⟨kk,cs,st⟩:=B;cases st<;>try rfl
  rename_i es
  by_cases hc:cs.length=0
  ·by_cases hf:bg kd q=true/\aO r=true
   ·simp only[hc,hf.1,hf.2,bG,true_and,kZ,dA,Bool.and_self]
    cases cL es q with
    |none=>exact propext ⟨λh=>h.elim,λh=>h.elim⟩
    |some o=>cases o with
     |none=>exact propext ⟨λh=>⟨rfl,h⟩,λh=>h.2⟩
     |some y=>exact propext ⟨λh=>h.elim,λh=>by have:=h.1;simp at this⟩
   ·have h' : ¬(bg kd q&&aO r)=true:=λh=>hf (by simpa using h)
    simp only[hc,kZ,dA,ab h', bG];exact propext ⟨λh=>h.elim,λh=>hf h.2.1⟩
  ·simp only[hc,cP,ew,false_and]
   rfl
@[reducible] def W4 (x:Option AV):Option Int:=match x with
 |none=>some 0
 |some (.int n)=>some n
 |some _=>none
@[reducible] def W5 (x:Option AV):Option (Option Int):=match x with
 |none=>some none
 |some (.int n)=>some (some n)
 |some _=>none
@[reducible] def GD (f:Rf->AV):Option Rf->Option AV
 |none=>none
 |some x=>some (f x)
theorem PT{r:Rf->AV}{o:Option Rf}:tV r o=W4 (GD r o):=by
 cases o with
 |none=>rfl
 |some y=>simp only[tV,W4,GD];cases r y<;>rfl
theorem PU{r:Rf->AV}{o:Option Rf}:tW r o=W5 (GD r o):=by
 cases o with
 |none=>rfl
 |some y=>simp only[tW,W5,GD];cases r y<;>rfl
theorem PV{x:Rf}{lo hi:Option Rf}{st:Nat}:ct L vars (.oP x lo hi st) false env aA σ K=oK (W4 (GD (rv vars env) lo)) (λa=>oK (W5 (GD (rv vars env) hi)) (λb=>nx (rv vars env x) (λx=>PG σ x a b st λv=>K (v::env) aA σ) .k) .k) .k:=by unfold oK nx;simp only[<-PT,<-PU,<-PH];exact acH
theorem adt{x:Rf}{lo hi:Option Rf}{st:Nat}:ct L vars (.oP x lo hi st) true env aA σ K=oK (W4 (GD (rv vars env) lo)) (λa=>oK (W5 (GD (rv vars env) hi)) (λb=>nx (rv vars env x) (λx=>PG aA x a b st λv=>K (v::env) aA σ) .k) .k) .k:=by unfold oK nx;simp only[<-PT,<-PU,<-PH];exact acI
theorem IE{α β γ:Type}{f:β->Option γ}{g:α->β}:∀{l:List α},bZ (λx=>f (g x)) l=bZ f (ie g l)
 | []=>rfl
 |x::r=>by simp only[bZ,ie];rw[IE (l:=r)]
theorem PW{f:Nat}{args:List Rf}:ct L vars (.tS f args) false env aA σ K=nL (ie (rv vars env) args) (λas=>oK (bZ (view σ false vd) as) (λvs=>lX L f vs [] (λv bp =>oK (cx bp true v) (λu=>K (u::env) aA σ) .k) .k) .k) .k:=by unfold nL;dsimp only;rw[<-IE];exact acJ
theorem adu{f:Nat}{args:List Rf}:ct L vars (.tS f args) true env aA σ K=nL (ie (rv vars env) args) (λas=>oK (bZ (view aA false vd) as) (λvs=>lX L f vs [] (λv bp =>oK (cx bp true v) (λu=>K (u::env) aA σ) .k) .k) .k) .k:=by unfold nL;dsimp only;rw[<-IE];exact acK
theorem PX{f:Nat}{args:List Rf}:ct L vars (.can f args) false env aA σ K=nL (ie (rv vars env) args) (λas=>bG (ay as=true) (lX L f as [] (λv bp =>nx (jA σ.length v) (λv=>nB (σ++bp.map (gR σ.length)) (λτ=>K (v::env) σ τ) .k) .k) .k)) .k:=by rw[<-iH];exact acL
theorem PY{x:Rf}{k:Option Nat}:ct L vars (.vg x k) false env aA σ K=nx (rv vars env x) (λx=>bG (x.cells.length=aC k/\bB x=true) (nB (gN σ [⟨k,x.cells,.live⟩]) (λτ=>K (.ptr σ.length (aC k) 0::env) σ τ) .k)) .k:=by unfold nx nB;simp only[<-gm];exact acM
theorem PZ{z:List AV}{k:Option Nat}:ct L vars (.oD z k) false env aA σ K=bG (z.length=aC k) (nB (gN σ [⟨k,z,.live⟩]) (λτ=>K (.ptr σ.length (aC k) 0::env) σ τ) .k):=by rw[<-gm];exact acN
theorem P0{n c:Rf}{z:List AV}{k:Option Nat}:ct L vars (.jV n c z k) false env aA σ K=nx (rv vars env n) (λn=>nx (rv vars env c) (λc=>ii n c λn c=>bG (0<=n/\n<=c/\c<=dG/\z.length=aC k) (nC (eG c.toNat z) (λcs=>nB (gN σ [⟨k,cs,.live⟩]) (λτ=>K (.sl σ.length cs.length 0 n.toNat::env) σ τ) .k) .k)) .k) .k:=by
 unfold nx nC nB;simp only[<-gm];exact acO
@[reducible] def sZ:List AV->List AV
 | []=>[]
 |x::r=>gN x.cells (sZ r)
theorem ta:∀l:List AV,l.flatMap AV.cells=sZ l
 | []=>rfl
 |x::r=>by simp only[jG,sZ,ta r,gm]
theorem adv{ps:List Rf}{k:Option Nat}:ct L vars (.mz ps k) false env aA σ K=nL (ie (rv vars env) ps) (λl=>bG (fitAll (aC k) l=true) (nC (sZ l) (λcs=>nB (gN σ [⟨k,cs,.live⟩]) (λτ=>K (.sl σ.length cs.length 0 ps.length::env) σ τ) .k) .k)) .k:=by
 unfold nL nC nB;simp only[<-gm,<-iH,<-ta];exact acP
theorem adw{k:Option Nat}:ct L vars (.nl k) false env aA σ K=nB (gN σ [⟨k,[],.jP⟩]) (λτ=>K (.sl σ.length 0 0 0::env) σ τ) .k:=by rw[<-gm];exact acQ
def src (σ:List ag) (k:Option Nat) (x:AV) (K:Nat->List AV->Prop) (_:Tk K):Prop:=aQ (aG σ k x) λp=>K p.1 p.2
theorem adx{k:Option Nat}{K:Nat->List AV->Prop}{t:Tk K}:src σ k .ah K t=K 0 []:=(rfl)
theorem ady{k:Option Nat}{q:Bool}{l:List AV}{K:Nat->List AV->Prop}{t:Tk K}:src σ k (.aE q l) K t=bG (fitAll (aC k) l=true) (nC (l.flatMap AV.cells) (λcs=>K l.length cs) .k):=by
 unfold src aG;by_cases h:fitAll (aC k) l=true<;>simp[h,aQ,bG,nC]
theorem adz{k:Option Nat}{K:Nat->List AV->Prop}{t:Tk K}:src σ k .emp K t=K 0 []:=(rfl)
theorem adA{k:Option Nat}{l:List AV}{K:Nat->List AV->Prop}{t:Tk K}:src σ k (.arr l) K t=bG (fitAll (aC k) l=true) (nL (sZ l) (λcs=>K l.length cs) .k):=by
 rw[<-ta];unfold src aG;by_cases h:fitAll (aC k) l=true<;>simp[h,aQ,bG,nL]
theorem adB{k:Option Nat}{b u off len:Nat}{K:Nat->List AV->Prop}{t:Tk K}:src σ k (.sl b u off len) K t=bk (al σ b) u (λk' cs _=>bG (off+len*aC k<=cs.length/\aC k' = aC k) (nC ((cs.drop off).take (len*aC k)) (λcs=>K len cs) .k)) .k:=by
 rw[<-uH (K:=λB=>bG (off+len*aC k<=B.cells.length/\aC B.k=aC k) (nC ((B.cells.drop off).take (len*aC k)) (λcs=>K len cs) .k))];unfold src aG;simp only;cases upto σ b u with
 |none=>rfl
 |some B=>by_cases h:off+len*aC k<=B.cells.length/\aC B.k=aC k<;>simp[h,aQ,bG,nC]
def ap (σ:List ag) (s:AV) (k:Option Nat) (n:Nat) (cs:List AV) (K:AV->List ag->Prop) (_:Tk K):Prop:=W2 σ s k n cs K
def nz (n:Nat) (A B:Prop) (_:Tk A) (_:Tk B):Prop:=(n=0->A)/\(n ≠ 0->B)
theorem P1{A B:Prop}{t:Tk A}{u:Tk B}:nz 0 A B t u=A:=by simp[nz]
theorem P2{A B:Prop}{t:Tk A}{u:Tk B}:nz 1 A B t u=B:=by simp[nz]
theorem P3{n:Nat}{A B:Prop}{t:Tk A}{u:Tk B}:nz (n+1) A B t u=B:=by simp[nz]
theorem adC{n:Nat}{A B:Prop}{t:Tk A}{u:Tk B}:nz n A B t u=(im (n=0) A .k/\im (n ≠ 0) B .k):=(rfl)
theorem P4{b u off len:Nat}{k:Option Nat}{n:Nat}{cs:List AV}{K:AV->List ag->Prop}{t:Tk K}:ap σ (.sl b u off len) k n cs K t=bk (al σ b) u (λk' nU st=>bG (off=0/\u=len*aC k/\len+n<=dG/\tU k' k=true) (nz n (K (.sl b u off len) σ) (cs.length ≠ 0/\nC (nU ++ cs) (λc=>nB (az σ b ⟨k', c,.live⟩) (λτ=>K (.sl b c.length 0 (len+n)) τ) .k) .k) .k .k)) .k:=by
 show W2 σ (.sl b u off len) k n cs K=_;rw[acR,uH];cases h:al σ b with
 |none=>rfl
 |some B=>
  obtain⟨k', nU, st⟩:=B;simp only[bk,nz,nC,nB,bG,sO,h,bz];apply propext;constructor
  ·rintro⟨⟨rfl,h1⟩,h2,h3,h4⟩;exact⟨⟨rfl,h1⟩,h2,h3,h4⟩
  ·rintro⟨⟨rfl,h1⟩,h2,h3,h4⟩;exact⟨⟨rfl,h1⟩,h2,h3,h4⟩
theorem adD{k:Option Nat}{n:Nat}{cs:List AV}{K:AV->List ag->Prop}{t:Tk K}:ap σ .ah k n cs K t=nz n (K .ah σ) (n<=dG/\nB (gN σ [⟨k,cs,.live⟩]) (λτ=>K (.sl σ.length cs.length 0 n) τ) .k) .k .k:=by unfold nz nB;simp only[<-gm];rfl
theorem adE{k:Option Nat}{n:Nat}{cs:List AV}{K:AV->List ag->Prop}{t:Tk K}:ap σ .emp k n cs K t=nz n (K .emp σ) (n<=dG/\nB (gN σ [⟨k,cs,.live⟩]) (λτ=>K (.sl σ.length cs.length 0 n) τ) .k) .k .k:=by unfold nz nB;simp only[<-gm];rfl
theorem adF{l:List AV}{k:Option Nat}{n:Nat}{cs:List AV}{K:AV->List ag->Prop}{t:Tk K}:ap σ (.arr l) k n cs K t=nz n (K (if ay l then .aE true l else .arr l) σ) ((fitAll (aC k) l=true/\l.length+n<=dG)/\nC (gN (sZ l) cs) (λc=>nB (gN σ [⟨k,c,.live⟩]) (λτ=>K (.sl σ.length c.length 0 (l.length+n)) τ) .k) .k) .k .k:=by
 unfold nz nC nB;simp only[<-gm,<-ta];rfl
theorem P5{s x:Rf}{k:Option Nat}:ct L vars (.app s x k) false env aA σ K=nx (rv vars env x) (λx=>src σ k x (λn cs=>nx (rv vars env s) (λs=>ap σ s k n cs (λv τ=>K (v::env) σ τ) .k) .k) .k) .k:=acS
theorem adG{p x:Rf}{n:Nat}:ct L vars (.st p x n) false env aA σ K=nx (rv vars env p) (λp=>nx (rv vars env x) (λx=>st1 σ p x n λτ=>K (.aM::env) [] τ) .k) .k:=acT
def aw (σ:List ag) (s:AV) (k:Option Nat) (n:Nat) (cs:List AV) (K:AV->List ag->Prop) (_:Tk K):Prop:=W3 σ s k n cs K
theorem P6{b u off len:Nat}{k:Option Nat}{n:Nat}{cs:List AV}{K:AV->List ag->Prop}{t:Tk K}:aw σ (.sl b u off len) k n cs K t=bk (al σ b) u (λk' nU st=>bG (off=0/\len+n<=dG/\tU k' k=true/\(n ≠ 0->cs.length ≠ 0)) (nz n (K (.sl b u off len) σ) (gT (decide (u=len*aC k)) (nC (nU ++ cs) (λc=>nB (az σ b ⟨k', c,.live⟩) (λτ=>K (.sl b c.length 0 (len+n)) τ) .k) .k) ((len+n)*aC k<=u/\nC (putAt nU (len*aC k) cs) (λc=>nB (az σ b ⟨k', c,st⟩) (λτ=>K (.sl b u 0 (len+n)) τ) .k) .k) .k .k) .k .k)) .k:=by
 show W3 σ (.sl b u off len) k n cs K=_;rw[acU,uH];cases h:al σ b with
 |none=>rfl
 |some B=>
  obtain⟨k', nU, st⟩:=B;simp only[bk,nz,nC,nB,bG,bz,IA,im];apply propext;constructor
  ·rintro⟨⟨rfl,h1⟩,h2,h3,h4,h5⟩;exact⟨⟨rfl,h1⟩,h2,h3,λhn=>⟨h4 hn,h5 hn⟩⟩
  ·rintro⟨⟨rfl,h1⟩,h2,h3,h4⟩;exact⟨⟨rfl,h1⟩,h2,h3,λhn=>(h4 hn).1,λhn=>(h4 hn).2⟩
theorem adH{k:Option Nat}{n:Nat}{cs:List AV}{K:AV->List ag->Prop}{t:Tk K}:aw σ .ah k n cs K t=nz n (K .ah σ) (n<=dG/\nB (gN σ [⟨k,cs,.live⟩]) (λτ=>K (.sl σ.length cs.length 0 n) τ) .k) .k .k:=by unfold nz nB;simp only[<-gm];rfl
theorem adI{k:Option Nat}{n:Nat}{cs:List AV}{K:AV->List ag->Prop}{t:Tk K}:aw σ .emp k n cs K t=nz n (K .emp σ) (n<=dG/\nB (gN σ [⟨k,cs,.live⟩]) (λτ=>K (.sl σ.length cs.length 0 n) τ) .k) .k .k:=by unfold nz nB;simp only[<-gm];rfl
theorem adJ{l:List AV}{k:Option Nat}{n:Nat}{cs:List AV}{K:AV->List ag->Prop}{t:Tk K}:aw σ (.arr l) k n cs K t=nz n (K (if ay l then .aE true l else .arr l) σ) ((fitAll (aC k) l=true/\l.length+n<=dG)/\nC (gN (sZ l) cs) (λc=>nB (gN σ [⟨k,c,.live⟩]) (λτ=>K (.sl σ.length c.length 0 (l.length+n)) τ) .k) .k) .k .k:=by
 unfold nz nC nB;simp only[<-gm,<-ta];rfl
theorem adK{s x:Rf}{k:Option Nat}:ct L vars (.df s x k) false env aA σ K=nx (rv vars env x) (λx=>src σ k x (λn cs=>nx (rv vars env s) (λs=>aw σ s k n cs (λv τ=>K (v::env) [] τ) .k) .k) .k) .k:=acV
def c81 (x:AV) (K:AV->Prop):Prop:=match x with
 |.int n=>bG (0<=n/\n<=255) (K (.ik 4 n))
 |_=>False
theorem nX{n:Int}{K:AV->Prop}:c81 (.int n) K=bG (0<=n/\n<=255) (K (.ik 4 n)):=(rfl)
theorem P7{x:Rf}:ct L vars (.LD x) false env aA σ K=nx (rv vars env x) (λx=>c81 x λv=>K (v::env) aA σ) .k:=by
 show aQ (ev L σ σ.length [] (rv vars env) (.LD x)) _=_;simp only[nx];generalize hx:rv vars env x=p;simp only[ev,hx];cases p<;>try rfl
 rename_i n;rw[nX];simp only[pe];rfl
theorem P8{x:Rf}:ct L vars (.BB x) false env aA σ K=nx (rv vars env x) (λx=>src σ none x (λ_ cs=>aQ (bytesOf cs) λs=>K (.str s::env) aA σ) .k) .k:=by
 show aQ (ev L σ σ.length [] (rv vars env) (.BB x)) _=_;simp only[nx,src];generalize hx:rv vars env x=p;simp only[ev,hx];cases aG σ none p with
 |none=>rfl
 |some q=>
  obtain⟨n,cs⟩:=q;simp only[Cc];cases bytesOf cs<;>rfl
def ik1 (x y:AV) (K:Bool->Prop):Prop:=match x,y with
 |.ik k a,.ik j b=>bG (k=j) (K (a==b))
 |_,_=>False
theorem P9{k j:Nat}{a b:Int}{K:Bool->Prop}:ik1 (.ik k a) (.ik j b) K=bG (k=j) (K (a==b)):=(rfl)
theorem Qa{g:Bool}{x y:Rf}:ct L vars (.LG g x y) false env aA σ K=nx (rv vars env x) (λx=>nx (rv vars env y) (λy=>ik1 x y λb=>K (.bool (b != g)::env) aA σ) .k) .k:=by
 show aQ (ev L σ σ.length [] (rv vars env) (.LG g x y)) _=_;simp only[nx];generalize hx:rv vars env x=p;generalize hy:rv vars env y=q;simp only[ev,hx,hy];cases p<;>try rfl
 cases q<;>try rfl
 rw[P9];simp only[pe];rfl
def si2 (x:AV) (a:Int) (b:Option Int) (st:Nat) (K:AV->Prop):Prop:=match x with
 |.aE nn l=>bG ((0<=a/\a<=b.getD l.length/\b.getD l.length<=l.length)/\gi st l=true) (nC ((l.drop a.toNat).take ((b.getD l.length).toNat-a.toNat)) (λl' =>K (.aE (nn&&decide (0<l.length)) l')) .k)
 |_=>False
theorem adL{nn:Bool}{l:List AV}{a:Int}{b:Option Int}{st:Nat}{K:AV->Prop}:si2 (.aE nn l) a b st K=bG ((0<=a/\a<=b.getD l.length/\b.getD l.length<=l.length)/\gi st l=true) (nC ((l.drop a.toNat).take ((b.getD l.length).toNat-a.toNat)) (λl' =>K (.aE (nn&&decide (0<l.length)) l')) .k):=(rfl)
theorem adM{st:Nat}:ct L vars (.su st) false env aA σ K=K (.emp::env) aA σ:=(rfl)
def bs1 (x:AV) (K:AV->Prop):Prop:=match x with
 |.str s=>nx (.aE false (s.map λb=>.ik 4 (b.toNat:Int))) K .k
 |_=>False
theorem adN{s:List UInt8}{K:AV->Prop}:bs1 (.str s) K=nx (.aE false (s.map λb=>.ik 4 (b.toNat:Int))) K .k:=(rfl)
theorem Qb{x:Rf}:ct L vars (.Lx x) false env aA σ K=nx (rv vars env x) (λx=>bs1 x λv=>K (v::env) aA σ) .k:=by
 show aQ (ev L σ σ.length [] (rv vars env) (.Lx x)) _=_;simp only[nx];generalize hx:rv vars env x=p;simp only[ev,hx];cases p<;>rfl
def si1 (x i:AV) (K:AV->Prop):Prop:=match x,i with
 |.str s,.int n=>0<=n/\aQ (s[n.toNat]?) λb=>K (.ik 4 (b.toNat:Int))
 |_,_=>False
theorem IF{s:List UInt8}{n:Int}{K:AV->Prop}:si1 (.str s) (.int n) K=(0<=n/\aQ (s[n.toNat]?) λb=>K (.ik 4 (b.toNat:Int))):=(rfl)
theorem Qc{x i:Rf}:ct L vars (.LF x i) false env aA σ K=nx (rv vars env x) (λx=>nx (rv vars env i) (λi=>si1 x i λv=>K (v::env) aA σ) .k) .k:=by
 show aQ (ev L σ σ.length [] (rv vars env) (.LF x i)) _=_;simp only[nx];generalize hx:rv vars env x=p;generalize hy:rv vars env i=q;simp only[ev,hx,hy];cases p<;>try rfl
 cases q<;>try rfl
 rename_i s n;rw[IF]
 by_cases h:0<=n
 ·simp only[ae h,h,true_and]
  cases s[n.toNat]?<;>rfl
 ·simp only[ab h]
  exact propext ⟨λe=>e.elim,λe=>h e.1⟩
def cw1 (x:AV) (K:AV->Prop):Prop:=match x with
 |.int n=>K (.ik 4 (n%256))
 |_=>False
theorem adO{n:Int}{K:AV->Prop}:cw1 (.int n) K=K (.ik 4 (n%256)):=(rfl)
theorem Qd{x:Rf}:ct L vars (.BO x) false env aA σ K=nx (rv vars env x) (λx=>cw1 x λv=>K (v::env) aA σ) .k:=by
 show aQ (ev L σ σ.length [] (rv vars env) (.BO x)) _=_;simp only[nx];generalize hx:rv vars env x=p;simp only[ev,hx];cases p<;>rfl
def W6 (x y:AV) (K:AV->Prop):Prop:=match x,y with
 |.int a,.int n=>bG (0<=n/\n<64) (K (.int (a.fdiv (2^n.toNat))))
 |.int a,.ik 7 n=>bG (0<=n/\n<64) (K (.int (a.fdiv (2^n.toNat))))
 |_,_=>False
theorem adP{a n:Int}{K:AV->Prop}:W6 (.int a) (.int n) K=bG (0<=n/\n<64) (K (.int (a.fdiv (2^n.toNat)))):=(rfl)
theorem adQ{a n:Int}{K:AV->Prop}:W6 (.int a) (.ik 7 n) K=bG (0<=n/\n<64) (K (.int (a.fdiv (2^n.toNat)))):=(rfl)
theorem Qe{x y:Rf}:ct L vars (.HV x y) false env aA σ K=nx (rv vars env x) (λx=>nx (rv vars env y) (λy=>W6 x y λv=>K (v::env) aA σ) .k) .k:=by
 show aQ (ev L σ σ.length [] (rv vars env) (.HV x y)) _=_;simp only[nx];generalize hx:rv vars env x=p;generalize hy:rv vars env y=q;simp only[ev,hx,hy,W6];split
 ·simp only[pe];rfl
 ·simp only[pe];rfl
 ·rename_i h1 h2
  split
  ·rename_i a n;exact absurd rfl (h1 a n rfl)
  ·rename_i a n;exact absurd rfl (h2 a n rfl)
  ·rfl
def ss1 (n:Nat) (x y:AV) (K:Bool->Prop):Prop:=match x,y with
 |.agg xs,.agg ys=>xs.length=n/\aQ (iM xs ys) K
 |_,_=>False
theorem Qf{n:Nat}{xs ys:List AV}{K:Bool->Prop}:ss1 n (.agg xs) (.agg ys) K=(xs.length=n/\aQ (iM xs ys) K):=(rfl)
theorem Qg{g:Bool}{n:Nat}{x y:Rf}:ct L vars (.LI g n x y) false env aA σ K=nx (rv vars env x) (λx=>nx (rv vars env y) (λy=>ss1 n x y λb=>K (.bool (b != g)::env) aA σ) .k) .k:=by
 show aQ (ev L σ σ.length [] (rv vars env) (.LI g n x y)) _=_;simp only[nx];generalize hx:rv vars env x=p;generalize hy:rv vars env y=q;simp only[ev,hx,hy];cases p<;>try rfl
 cases q<;>try rfl
 rename_i xs ys;rw[Qf]
 by_cases hc:xs.length=n
 ·simp only[ae hc,hc,true_and]
  cases iM xs ys<;>rfl
 ·simp only[ab hc]
  exact propext ⟨λh=>h.elim,λh=>hc h.1⟩
def uI (es:List (AV×AV)) (k x:AV) (o:Option AV):List (AV×AV):=match o with
 |none=>es ++ [(k,x)]
 |some _=>iY es k x
theorem adR{es:List (AV×AV)}{k x:AV}:uI es k x none=es ++ [(k,x)]:=rfl
theorem adS{es:List (AV×AV)}{k x y:AV}:uI es k x (some y)=iY es k x:=rfl
def ms1 (σ:List ag) (m:AV) (kd:Nat) (k x:AV) (K:List ag->Prop):Prop:=match m with
 |.cQ b=>mp (al σ b) (λkk cs es=>bG (bg kd k=true/\bB x=true) (oK (cL es k) (λo=>nB (az σ b ⟨kk,cs,.map (uI es k x o)⟩) K .k) .k)) .k
 |_=>False
theorem adT{σ:List ag}{b kd:Nat}{k x:AV}{K:List ag->Prop}:ms1 σ (.cQ b) kd k x K=mp (al σ b) (λkk cs es=>bG (bg kd k=true/\bB x=true) (oK (cL es k) (λo=>nB (az σ b ⟨kk,cs,.map (uI es k x o)⟩) K .k) .k)) .k:=rfl
theorem Qh{m k x:Rf}{kd:Nat}:ct L vars (.xF m kd k x) false env aA σ K=nx (rv vars env m) (λm=>nx (rv vars env k) (λk=>nx (rv vars env x) (λx=>ms1 σ m kd k x λτ=>K (.aM::env) [] τ) .k) .k) .k:=by
 show aQ (fF L σ (rv vars env) (.xF m kd k x)) _=_;simp only[nx];generalize hx:rv vars env m=p;generalize hy:rv vars env k=q;generalize hz:rv vars env x=r;simp only[fF,hx,hy,hz];cases p<;>try rfl
 rename_i b;simp only[ms1,mp,fb,oO];cases hb:al σ b with
 |none=>rfl
 |some B=>
  obtain⟨kk,cs,st⟩:=B;cases st<;>try rfl
  rename_i es
  by_cases hc:cs.length=0
  ·by_cases hf:bg kd q=true/\bB r=true
   ·simp only[hc,hf.1,hf.2,bG,true_and,kZ,dA,Bool.and_self]
    cases cL es q with
    |none=>exact propext ⟨λh=>h.elim,λh=>h.elim⟩
    |some o=>cases o<;>rfl
   ·have h' : ¬(bg kd q&&bB r)=true:=λh=>hf (by simpa using h)
    simp only[hc,kZ,dA,ab h', bG];exact propext ⟨λh=>h.elim,λh=>hf h.2.1⟩
  ·simp only[hc,cP,ew,false_and]
   rfl
theorem Qi{f:Nat}{args:List Rf}:ct L vars (.fI f args) false env aA σ K=nL (ie (rv vars env) args) (λas=>lX L f as σ (λv τ=>nx v (λv=>nB τ (λτ=>K (v::env) [] τ) .k) .k) .k) .k:=by rw[<-iH];exact acW
theorem adU{x:Rf}{args:List Rf}:ct L vars (.kW x args) false env aA σ K=nx (rv vars env x) (λx=>O9 x λf aI=>nL (gN (ie (rv vars env) args) aI) (λas=>lX L f as σ (λv τ=>nx v (λv=>nB τ (λτ=>K (v::env) [] τ) .k) .k) .k) .k) .k:=by unfold nx nL lX;simp only[<-iH,<-gm];exact acX
end
section
variable{L:CE}{vars env:List AV}{aA σ:List ag}{K:List AV->List ag->Prop}{ls:List Ln}{op:cW}{prev:Bool}
theorem adV:LK L vars [] env aA σ K=K env σ:=by unfold LK;rfl
theorem adW:LK L vars (⟨op,none,prev⟩::ls) env aA σ K=ct L vars op prev env aA σ λenv aA σ=>LK L vars ls env aA σ K:=by conv=>lhs;unfold LK
def zh (x:AV) (w:Bool) (go skip go' zi : Prop) (_:Tk go) (_:Tk skip) (_:Tk go') (_:Tk zi):Prop:=match x with
 |.bool b=>match w with
  |true=>gK b go' zi
  |false=>gK b zi go'
 |.bS []=>skip
 |_=>False
theorem adX{w:Bool}{A B C D:Prop}{s:Tk A}{t:Tk B}{u:Tk C}{v:Tk D}:zh (.bS []) w A B C D s t u v=B:=(rfl)
theorem adY{b:Bool}{A B C D:Prop}{s:Tk A}{t:Tk B}{u:Tk C}{v:Tk D}:zh (.bool b) true A B C D s t u v=gT b C D .k .k:=(rfl)
theorem adZ{b:Bool}{A B C D:Prop}{s:Tk A}{t:Tk B}{u:Tk C}{v:Tk D}:zh (.bool b) false A B C D s t u v=gT b D C .k .k:=(rfl)
theorem ad0{A B C D:Prop}{s:Tk A}{t:Tk B}{u:Tk C}{v:Tk D}:zh (.bool true) true A B C D s t u v=C:=Iy
theorem ad1{A B C D:Prop}{s:Tk A}{t:Tk B}{u:Tk C}{v:Tk D}:zh (.bool true) false A B C D s t u v=D:=Iy
theorem ad2{A B C D:Prop}{s:Tk A}{t:Tk B}{u:Tk C}{v:Tk D}:zh (.bool false) true A B C D s t u v=D:=Iz
theorem ad3{A B C D:Prop}{s:Tk A}{t:Tk B}{u:Tk C}{v:Tk D}:zh (.bool false) false A B C D s t u v=C:=Iz
theorem ad4{d:Nat}{w:Bool}:LK L vars (⟨op,some (.t d,w),prev⟩::ls) env aA σ K=nx (nth env d) (λx=>zh x w
   (ct L vars op prev env aA σ λenv aA σ=>LK L vars ls env aA σ K)
   (LK L vars ls (.bS []::env) aA σ K)
   (nL (eV env d (.bool w)) (λenv=>ct L vars op prev env aA σ λenv aA σ=>LK L vars ls env aA σ K) .k)
   (nL (eV env d (.bool (!w))) (λenv=>LK L vars ls (.bS []::env) aA σ K) .k) .k .k .k .k) .k:=by
 conv=>lhs;unfold LK
 simp only[zh,nx,nL];cases nth env d with
 |bool b=>cases w<;>rfl
 |bS l=>cases l<;>rfl
 |_=>rfl
theorem ad5{d:Nat}{w:Bool}:LK L vars (⟨op,some (.v d,w),prev⟩::ls) env aA σ K=nx (nth vars d) (λx=>zh x w
   (ct L vars op prev env aA σ λenv aA σ=>LK L vars ls env aA σ K)
   (LK L vars ls (.bS []::env) aA σ K)
   (ct L vars op prev env aA σ λenv aA σ=>LK L vars ls env aA σ K)
   (LK L vars ls (.bS []::env) aA σ K) .k .k .k .k) .k:=by
 conv=>lhs;unfold LK
 simp only[zh,nx]
 all_goals (cases nth vars d with
  |bool b=>cases w<;>rfl
  |bS l=>cases l<;>rfl
  |_=>rfl)
end
def nF (fl:Option (Nat×AV)) (K:Option (Nat×AV)->Prop) (_:Tk K):Prop:=K fl
theorem ad6{K:Option (Nat×AV)->Prop}{t:Tk K}:nF none K t=K none:=(rfl)
theorem ad7{n:Nat}{x:AV}{K:Option (Nat×AV)->Prop}{t:Tk K}:nF (some (n,x)) K t=nx x (λx=>K (some (n,x))) .k:=(rfl)
section
variable{L:CE}{vars:List AV}{fl:Option (Nat×AV)}{σ:List ag}{Q:Ex->St->Prop}
theorem ad8{ls:List Ln}{os:List (Nat×Nat)}{ks:List Nat}{f:Option (Nat×Nat)}:WK L (.aa ⟨ls,os,ks,f⟩) vars fl σ Q=LK L vars ls [] σ σ λenv σ=>nL (dI ks (outs env os vars)) (λvs=>nF (zg env f) (λf=>Q .ft ⟨vs,f,σ⟩) .k) .k:=aa4
theorem ad9{t:Nat}{a b:IC}{c:Bool}:WK L (.cond t a b) vars (some (t,.bool c)) σ Q=gT c (WK L a vars none σ Q) (WK L b vars none σ Q) .k .k:=aa6
theorem aea{k:Nat}{a b:IC}:WK L (.kR k a b) vars fl σ Q=nx (nth vars k) (λx=>b1 x λc=>gT c (WK L a vars fl σ Q) (WK L b vars fl σ Q) .k .k) .k:=by
 rw[aa7];unfold nx b1;cases nth vars k<;>rfl
end
attribute [simp ↓] P9 adL abG     adE adI adz adN IF adO adP adQ Qf adT adR adS       adj ado adq ads abC abD abE ab8 GB   PJ adh PI abF abH abI abJ abK abL abM abN abO abP abQ abR abS abT abU abV abW abX abY abZ ab0 ab1 ada adb adf adg ab2 ab3 ab4 ab5 ab6 ab7 ab9
attribute [simp ↓] OA Gy OB OC OD OE OF OG OH Gz OI OJ OK OL OM ON OO OP OQ OR OS OT OU OV OW OX OY OZ O1 O2 IA O3 O4 abA abB
attribute [simp] OT OU OV OW OX OY OZ O1 O2 IA abx aby O3 O4
attribute [simp] OA Gy OB OC OD OE OF OG OH Gz OI OJ OK OL OM ON OO OP OQ OR OS
attribute [simp low] abr abt abu abv abw abz ac3 adC
attribute [simp ↓] Pd Pe Pf Pg Pv adx ady adA adB P1 P2 P3 P4 adD adF P6 adH adJ
attribute [simp] adk adl adm adn Pd Pe Pf Pg P1 P2 P3 acZ ac0
attribute [simp ↓] Qa  adM  Qb Qc Qd Qe Qg Qh  P7 P8    PQ PM adp PO adr PS acY Pa Pb PK  Pc ac4 Ph Pj Pk Pm Pn ac5 Po Pp acp Pq Pr  Ps Pt Pu ac6 ac7 Pw ac8 Px Py ac9 Pz ade PD PF PV adt  PW adu PX PY PZ P0 adv adw P5 adG adK Qi adU  adV adW ad4 ad5 adX ad0 ad1 ad2 ad3
attribute [simp ↓ low] adY adZ
attribute [simp ↓] ad6 ad7 ad8 ad9 aea
theorem aeb{α β:Type}{f:α->β}:ie f []=[]:=(rfl)
theorem aec{α β:Type}{f:α->β}{x:α}{l:List α}:ie f (x::l)=f x::ie f l:=(rfl)
theorem aed{α β:Type}{f:α->β}{l:List α}:ie f l=l.map f:=(iH f l).symm
theorem aee{α:Type}{l:List α}:gN [] l=l:=(rfl)
theorem aef{α:Type}{x:α}{l m:List α}:gN (x::l) m=x::gN l m:=(rfl)
theorem aeg{α:Type}{l m:List α}:gN l m=l++m:=(gm l m).symm
attribute [simp] aeb aec aee aef Cc
attribute [simp low] aed aeg
def ix{α:Type} [Inhabited α] (l:List α) (n:Int):α:=l.getD n.toNat default
abbrev iL (l:List Int):AV:=.aE false (l.map .int)
abbrev bL (l:List Bool):AV:=.aE false (l.map .bool)
abbrev cO (l:List (List Int)):AV:=.aE false (l.map iL)
abbrev fX (l:List (List (List Int))):AV:=.aE false (l.map cO)
theorem nT:∀(l:List AV) (i:Nat),oU l i=l[i]?
 | [],i=>by simp[oU]
 |x::r,0=>rfl
 |x::r,i+1=>by simp[oU,nT r i]
section
variable{α:Type} [Inhabited α]
theorem aU{l:List α}{n:Int}(h0:0<=n) (h1:n<l.length):ix l n∈l:=by
 unfold ix;rw[gL,de (by omega)]
 simp
theorem l8{l:List α}{n:Int}(h0:0<=n) (h1:n<l.length):l[n.toNat]? = some (ix l n):=by
 unfold ix;rw[gL,de (by omega)]
 simp
theorem aT{l:List α}{n:Nat}(h1:n<l.length):ix l (n:Int)=l[n]:=by
 unfold ix;rw[gL,kG,de (by omega)]
 simp
theorem aeh{f:α->AV}{xs:List α}{n:Int}{K:AV->Prop}:Cb (xs.map f) n K=((0<=n/\n<xs.length)/\K (f (ix xs n))):=by
 apply propext;unfold Cb;constructor
 ·rintro⟨h0,y,h1,h2⟩
  rw[nT,iv]at h1
  by_cases hn:n<xs.length
  ·rw[l8 h0 hn]at h1
   simp at h1;subst h1;exact⟨⟨h0,hn⟩,h2⟩
  ·rw[jH (by omega)]at h1;simp at h1
 ·rintro⟨⟨h0,h1⟩,h2⟩
  exact⟨h0,_,by rw[nT,iv,l8 h0 h1];rfl,h2⟩
end
theorem aei{fn:Fn}{K:AV->List ag->Prop}{s:St}:ib fn K .ret s=oK (results fn s) (λv=>K v s.σ) .k:=(rfl)
theorem aej{fn:Fn}{K:AV->List ag->Prop}{s:St}:ib fn K .ft s=oK (results fn s) (λv=>K v s.σ) .k:=(rfl)
theorem aek{α:Type} [Inhabited α]{f:α->AV}{xs:List α}{n:Int}{K:AV->Prop}{t:Tk K}:xK (xs.map f) n K t=((0<=n/\n<xs.length)/\K (f (ix xs n))):=aeh
theorem Cd{α:Type} [Inhabited α]{l:List α}{i:Int}(h0:0<=i) (h1:i<l.length):l.drop i.toNat=ix l i::l.drop (i+1).toNat:=by
 have e:(i+1).toNat=i.toNat+1:=by omega
 rw[e,rn (by omega),ix,gL,de (by omega)]
 simp
theorem IG{α:Type}{l:List α}{i:Int}(h1:l.length<=i):l.drop i.toNat=[]:=jJ (by omega)
def bY:List (Nat×AV)->List AV->List AV
 | [],vs=>vs
 |(k,x)::r,vs=>bY r (eV vs k x)
def More{α:Type}(f:α->List (Nat×AV)) (g:α->List ag) (I:α->Prop) (μ:α->Nat) (m:Nat) (vs:List AV) (Q:Ex->St->Prop):Ex->St->Prop:=λe s=>match e with
 |.ft=>∃a,s=⟨bY (f a) vs,none,g a⟩/\I a/\μ a<m
 |e=>Q e s
section
variable{L:CE}{α:Type}{f:α->List (Nat×AV)}{g:α->List ag}{I:α->Prop}{μ:α->Nat}{m:Nat}{vs:List AV}{Q:Ex->St->Prop}
theorem ao{s:St}:More f g I μ m vs Q .ft s=∃a,s=⟨bY (f a) vs,none,g a⟩/\I a/\μ a<m:=(rfl)
theorem ael{s:St}:More f g I μ m vs Q .ret s=Q .ret s:=(rfl)
theorem aem{s:St}{j:Nat}:More f g I μ m vs Q (.exit j) s=Q (.exit j) s:=(rfl)
theorem bu{c:IC}{fl:Option (Nat×AV)}{σ:List ag}(f:α->List (Nat×AV)) (g:α->List ag) (I:α->Prop) (μ:α->Nat) (a0:α) (h0:(⟨vs,fl,σ⟩:St)=⟨bY (f a0) vs,none,g a0⟩) (hI:I a0)
  (hs:∀a,I a->WK L c (bY (f a) vs) none (g a) (More f g I μ (μ a) vs Q)):W L (.loop c) ⟨vs,fl,σ⟩ Q:=by
 have go:∀(k:Nat) (a:α),μ a<k->I a->W L (.loop c) ⟨bY (f a) vs,none,g a⟩ Q:=by
  intro k
  induction k with
  |zero=>intro a h;omega
  |succ k ih=>
   intro a hk hI;obtain⟨n,e,s', h1,h2⟩:=pd (hs a hI);cases e with
   |ft=>
    obtain⟨a', rfl,h3,h4⟩:=h2;obtain⟨n', e', A8, h5,h6⟩:=ih a' (by omega) h3
    refine⟨max n n' + 1,e', A8, ?_,h6⟩;simp only[exec]at h5 ⊢;simp only[iter];rw[rH (wF L) (show n<=max n n' + 1 by omega) _ _ _ h1]
    exact y7 (λs x h=>rH (wF L) (show n' <=max n n' + 1 by omega) _ _ _ h) (show n' <=max n n' by omega) h5
   |exit j=>exact⟨n+1,.exit j,s', by simp only[exec,iter];rw[rH (wF L) (Nat.le_succ n) _ _ _ h1],h2⟩
   |ret=>exact⟨n+1,.ret,s', by simp only[exec,iter];rw[rH (wF L) (Nat.le_succ n) _ _ _ h1],h2⟩
 rw[h0];exact go _ a0 (Nat.lt_succ_self _) hI
end
section
variable{σ:List ag}{fr:Bool}{k:Nat}
theorem aen{n:Int}:view σ fr (k+1) (.int n)=some (.int n):=(rfl)
theorem aeo{n:Bool}:view σ fr (k+1) (.bool n)=some (.bool n):=(rfl)
theorem aep{n:List UInt8}:view σ fr (k+1) (.str n)=some (.str n):=(rfl)
theorem aeq:view σ fr (k+1) .ah=some (.aE false []):=(rfl)
theorem aer:view σ fr (k+1) .gW=some .gW:=(rfl)
theorem aes{b:Bool}{l:List AV}:view σ false (k+1) (.aE b l)=some (.aE false l):=(rfl)
theorem aet{l:List AV}:view σ fr (k+1) (.agg l)=match bZ (view σ fr k) l with
 |none=>none
 |some l=>some (.agg l):=(rfl)
theorem aeu{n:Int}:view σ fr vd (.int n)=some (.int n):=(rfl)
theorem aev{n:Bool}:view σ fr vd (.bool n)=some (.bool n):=(rfl)
theorem aew{n:List UInt8}:view σ fr vd (.str n)=some (.str n):=(rfl)
theorem aex:view σ fr vd .ah=some (.aE false []):=(rfl)
theorem aey:view σ fr vd .gW=some .gW:=(rfl)
theorem aez{b:Bool}{l:List AV}:view σ false vd (.aE b l)=some (.aE false l):=(rfl)
theorem aeA{l:List AV}:view σ fr vd (.agg l)=match bZ (view σ fr 11) l with
 |none=>none
 |some l=>some (.agg l):=(rfl)
end
section
variable{σ:List ag}{fr:Bool}
theorem aeB{n:Int}:cx σ fr (.int n)=some (.int n):=(rfl)
theorem aeC{n:Bool}:cx σ fr (.bool n)=some (.bool n):=(rfl)
theorem aeD{n:List UInt8}:cx σ fr (.str n)=some (.str n):=(rfl)
theorem aeE:cx σ fr .ah=some (.aE false []):=(rfl)
theorem aeF:cx σ fr .gW=some .gW:=(rfl)
theorem aeG{b:Bool}{l:List AV}:cx σ false (.aE b l)=some (.aE false l):=(rfl)
theorem aeH{b u off len:Nat}:cx σ fr (.sl b u off len)=view σ fr vd (.sl b u off len):=(rfl)
theorem aeI{b u off:Nat}:cx σ fr (.ptr b u off)=view σ fr vd (.ptr b u off):=(rfl)
theorem Ce{l:List AV}:cx σ fr (.agg l)=view σ fr vd (.agg l):=(rfl)
theorem aeJ{t:Nat}{l:AV}:cx σ fr (.iface t l)=view σ fr vd (.iface t l):=(rfl)
theorem aeK{l:List AV}:cx σ fr (.bS l)=match bZ (view σ fr vd) l with
  |none=>none
  |some l=>some (.bS l):=(rfl)
end
attribute [simp] aeB aeC aeD aeE aeF aeG aeH aeI Ce aeJ aeK
attribute [simp] aen aeo aep aeq aer aes aet aeu aev aew aex aey aez aeA bY
attribute [simp ↓] ao ael aem abe abf abg aa3 aa5 aa8 aa9 aba abb abc abd abh abi abj abk abl abm abn abo abp aei aej aek
theorem aeL (n:Int):AV.cells (.int n)=[(.int n)]:=(rfl)
theorem aeM (n:Int):bB (.int n)=true:=(rfl)
theorem aeN (n:Int):wk (.int n)=(.int n):=(rfl)
theorem aeO (n:Int):fU (.int n)=(.int n):=(rfl)
theorem aeP (k:Nat) (n:Int):AV.cells (.ik k n)=[(.ik k n)]:=(rfl)
theorem aeQ (k:Nat) (n:Int):bB (.ik k n)=true:=(rfl)
theorem Qj (k:Nat) (n:Int):wk (.ik k n)=(.ik k n):=(rfl)
theorem aeR (k:Nat) (n:Int):fU (.ik k n)=(.ik k n):=(rfl)
theorem aeS (b:Bool):AV.cells (.bool b)=[(.bool b)]:=(rfl)
theorem aeT (b:Bool):bB (.bool b)=true:=(rfl)
theorem aeU (b:Bool):wk (.bool b)=(.bool b):=(rfl)
theorem aeV (b:Bool):fU (.bool b)=(.bool b):=(rfl)
theorem aeW (l:List UInt8):AV.cells (.str l)=[(.str l)]:=(rfl)
theorem aeX (l:List UInt8):bB (.str l)=true:=(rfl)
theorem aeY (l:List UInt8):wk (.str l)=(.str l):=(rfl)
theorem aeZ (l:List UInt8):fU (.str l)=(.str l):=(rfl)
theorem ae0  : AV.cells .ah=[.ah]:=(rfl)
theorem ae1  : bB .ah=true:=(rfl)
theorem ae2  : wk .ah=(.aE false []):=(rfl)
theorem ae3  : fU .ah=(.aE false []):=(rfl)
theorem ae4 (b:Bool) (l:List AV):AV.cells (.aE b l)=[(.aE b l)]:=(rfl)
theorem ae5 (b:Bool) (l:List AV):bB (.aE b l)=true:=(rfl)
theorem ae6 (b:Bool) (l:List AV):wk (.aE b l)=(.aE false l):=(rfl)
theorem ae7 (b:Bool) (l:List AV):fU (.aE b l)=(.aE false l):=(rfl)
theorem ae8 (l:List AV):AV.cells (.arr l)=[(.arr l)]:=(rfl)
theorem ae9 (l:List AV):bB (.arr l)=true:=(rfl)
theorem afa (l:List AV):wk (.arr l)=(.arr l):=(rfl)
theorem afb (l:List AV):fU (.arr l)=(.arr l):=(rfl)
theorem afc (b u o n:Nat):AV.cells (.sl b u o n)=[(.sl b u o n)]:=(rfl)
theorem afd (b u o n:Nat):bB (.sl b u o n)=true:=(rfl)
theorem Qk (b u o n:Nat):wk (.sl b u o n)=(.sl b u o n):=(rfl)
theorem afe (b u o n:Nat):fU (.sl b u o n)=(.sl b u o n):=(rfl)
theorem aff  : AV.cells .iw=[.iw]:=(rfl)
theorem afg  : bB .iw=true:=(rfl)
theorem afh  : wk .iw = .iw:=(rfl)
theorem afi  : fU .iw = .iw:=(rfl)
theorem afj (v:AV):AV.cells (.bd v)=[(.bd v)]:=(rfl)
theorem afk (v:AV):bB (.bd v)=true:=(rfl)
theorem afl (v:AV):wk (.bd v)=(.bd v):=(rfl)
theorem afm (v:AV):fU (.bd v)=(.bd v):=(rfl)
theorem afn (b:Nat):AV.cells (.cQ b)=[(.cQ b)]:=(rfl)
theorem afo (b:Nat):bB (.cQ b)=true:=(rfl)
theorem afp (b:Nat):wk (.cQ b)=(.cQ b):=(rfl)
theorem afq (b:Nat):fU (.cQ b)=(.cQ b):=(rfl)
theorem afr (b u o:Nat):AV.cells (.ptr b u o)=[(.ptr b u o)]:=(rfl)
theorem afs (b u o:Nat):bB (.ptr b u o)=true:=(rfl)
theorem afu (b u o:Nat):wk (.ptr b u o)=(.ptr b u o):=(rfl)
theorem afv (b u o:Nat):fU (.ptr b u o)=(.ptr b u o):=(rfl)
theorem afw  : AV.cells .kJ=[.kJ]:=(rfl)
theorem afx  : bB .kJ=true:=(rfl)
theorem afy  : wk .kJ = .kJ:=(rfl)
theorem afz  : fU .kJ = .kJ:=(rfl)
theorem afA (f:Nat) (l:List AV):AV.cells (.func f l)=[(.func f l)]:=(rfl)
theorem afB (f:Nat) (l:List AV):bB (.func f l)=true:=(rfl)
theorem afC (f:Nat) (l:List AV):wk (.func f l)=(.func f l):=(rfl)
theorem afD (f:Nat) (l:List AV):fU (.func f l)=(.func f l):=(rfl)
theorem afE  : AV.cells .gW=[.gW]:=(rfl)
theorem afF  : bB .gW=true:=(rfl)
theorem afG  : wk .gW = .gW:=(rfl)
theorem afH  : fU .gW = .gW:=(rfl)
theorem afI (t:Nat) (v:AV):AV.cells (.iface t v)=[(.iface t v)]:=(rfl)
theorem afJ (t:Nat) (v:AV):bB (.iface t v)=true:=(rfl)
theorem afK (t:Nat) (v:AV):wk (.iface t v)=(.iface t v):=(rfl)
theorem afL (t:Nat) (v:AV):fU (.iface t v)=(.iface t v):=(rfl)
theorem afM (l:List AV):AV.cells (.agg l)=l:=(rfl)
theorem afN (l:List AV):wk (.agg l) = .agg (l.map fU):=(rfl)
theorem afO (l:List AV):fU (.agg l) = .agg l:=(rfl)
def dL:AV->Bool
 |.aM | .bS _ | .agg _=>false
 |_=>true
theorem afP (l:List AV):bB (.agg l)=l.all dL:=by
 rfl
theorem afQ (n:Int):dL (.int n)=true:=(rfl)
theorem afR (k:Nat) (n:Int):dL (.ik k n)=true:=(rfl)
theorem afS (b:Bool):dL (.bool b)=true:=(rfl)
theorem afT (l:List UInt8):dL (.str l)=true:=(rfl)
theorem afU  : dL .ah=true:=(rfl)
theorem afV (b:Bool) (l:List AV):dL (.aE b l)=true:=(rfl)
theorem afW (l:List AV):dL (.arr l)=true:=(rfl)
theorem afX (b u o n:Nat):dL (.sl b u o n)=true:=(rfl)
theorem afY  : dL .iw=true:=(rfl)
theorem afZ (v:AV):dL (.bd v)=true:=(rfl)
theorem af0 (b u o:Nat):dL (.ptr b u o)=true:=(rfl)
theorem af1  : dL .kJ=true:=(rfl)
theorem af2 (f:Nat) (l:List AV):dL (.func f l)=true:=(rfl)
theorem af3  : dL .gW=true:=(rfl)
theorem af4 (t:Nat) (v:AV):dL (.iface t v)=true:=(rfl)
attribute [simp] afn afo afp afq aeL aeM aeN aeO aeP aeQ Qj aeR aeS aeT aeU aeV aeW aeX aeY aeZ ae0 ae1 ae2 ae3 ae4 ae5 ae6 ae7 ae8 ae9 afa afb afc afd Qk afe aff afg afh afi afj afk afl afm afr afs afu afv afw afx afy afz afA afB afC afD afE afF afG afH afI afJ afK afL afM afN afO afP afQ afR afS afT afU afV afW afX afY afZ af0 af1 af2 af3 af4
attribute [simp] results bZ jB rv nth eV dI outs zg part oU ay aO
theorem af5{st:Nat}:fitAll st []=true:=(rfl)
theorem Ql{st:Nat}{x:AV}{l:List AV}:fitAll st (x::l)=(x.cells.length==st&&bB x&&fitAll st l):=(rfl)
theorem Cf{α:Type}{f:α->AV}{st:Nat}(h:∀x,(f x).cells.length=st/\bB (f x)=true):∀{l:List α},fitAll st (l.map f)=true
 | []=>rfl
 |x::l=>by simp only[dd,Ql,h x,Cf h (l:=l),kZ,Bool.and_self]
theorem af6{l:List Int}:fitAll 1 (l.map .int)=true:=Cf (f:=AV.int) λ_=>⟨rfl,rfl⟩
theorem af7{l:List Bool}:fitAll 1 (l.map .bool)=true:=Cf (f:=AV.bool) λ_=>⟨rfl,rfl⟩
theorem af8{α:Type}{b:Bool}{f:α->List AV}{l:List α}:fitAll 1 (l.map λx=>.aE b (f x))=true:=Cf (f:=λx=>AV.aE b (f x)) λ_=>⟨rfl,rfl⟩
theorem zj{α:Type}{f:α->AV}(h:∀x,(f x).cells=[f x]):∀{l:List α},(l.map f).flatMap AV.cells=l.map f
 | []=>rfl
 |x::l=>by simp only[dd,jG,h x,zj h (l:=l)];rfl
theorem af9{l:List Int}:(l.map AV.int).flatMap AV.cells=l.map .int:=zj (f:=AV.int) λ_=>rfl
theorem aga{l:List Bool}:(l.map AV.bool).flatMap AV.cells=l.map .bool:=zj (f:=AV.bool) λ_=>rfl
theorem agb{α:Type}{b:Bool}{f:α->List AV}{l:List α}:(l.map λx=>AV.aE b (f x)).flatMap AV.cells=l.map λx=>.aE b (f x):=zj (f:=λx=>AV.aE b (f x)) λ_=>rfl
attribute [simp] af5 Ql af6 af7 af8 af9 aga agb
theorem agc:eo.isLive .live=true:=(rfl)
theorem agd:eo.isLive .jP=false:=(rfl)
theorem age:aC none=1:=(rfl)
theorem agf{n:Nat}:aC (some n)=n:=(rfl)
theorem agh:tU none none=true:=(rfl)
theorem agi{a b:Nat}:tU (some a) (some b)=(a==b):=(rfl)
attribute [simp] agc agd age agf agh agi
@[reducible] def qK:List AV->List AV->List AV
 |cs,[]=>cs
 | [],_=>[]
 |_::cs,y::new=>y::qK cs new
@[reducible] def nY:List AV->Nat->List AV->List AV
 |cs,0,new=>qK cs new
 | [],_,_=>[]
 |x::cs,n+1,new=>x::nY cs n new
theorem Qm:∀{cs new:List AV},new.length<=cs.length->qK cs new=new++cs.drop new.length
 |cs,[],_=>by cases cs<;>simp[qK]
 | [],y::new,h=>by simp at h
 |c::cs,y::new,h=>by simp[qK,Qm (cs:=cs) (new:=new) (by simpa using h)]
theorem vI:∀{cs:List AV}{o:Nat}{new:List AV},o+new.length<=cs.length->putAt cs o new=nY cs o new
 |cs,0,new,h=>by
  have e:nY cs 0 new=qK cs new:=by cases cs<;>rfl
  rw[e,Qm (by simpa using h)];simp[putAt]
 | [],o+1,new,h=>by simp at h
 |c::cs,o+1,new,h=>by
  have e:=vI (cs:=cs) (o:=o) (new:=new) (by simp at h;omega)
  simp only[nY];rw[<-e];simp only[putAt,List.take_succ_cons,lf]
  congr 2
  rw[show o+1+new.length=(o+new.length)+1 by omega,List.drop_succ_cons]
section
variable{K:List AV->Prop}{t:Tk K}
theorem Qn{cs:List AV}{o:Nat}{new:List AV}:pU cs o new K t=(o+new.length<=cs.length/\nL (nY cs o new) K .k):=by
 unfold pU ze nL
 by_cases h:o+new.length<=cs.length
 ·simp only[h,true_and];rw[vI h]
 ·simp[h]
theorem Qo{α:Type}{f:α->AV}{xs:List α}{o:Nat}{y:α}(h:o<xs.length):putAt (xs.map f) o [f y]=(xs.set o y).map f:=by
 unfold putAt;rw[List.set_eq_take_append_cons_drop,ae h];simp[List.map_take,List.map_drop]
theorem uJ{α:Type}{f:α->AV}{xs:List α}{o:Nat}{y:α}:pU (xs.map f) o [f y] K t=(o<xs.length/\K ((xs.set o y).map f)):=by
 unfold pU ze
 by_cases h:o<xs.length
 ·simp only[dR,List.length_singleton,Qo h]
  simp[h];omega
 ·simp[h]
  intro h'; omega
theorem agj{xs:List Int}{o:Nat}{y:Int}:pU (xs.map .int) o [AV.int y] K t=(o<xs.length/\K ((xs.set o y).map .int)):=uJ
theorem agk{xs:List Bool}{o:Nat}{y:Bool}:pU (xs.map .bool) o [AV.bool y] K t=(o<xs.length/\K ((xs.set o y).map .bool)):=uJ
theorem Qp{xs:List (List Int)}{o:Nat}{y:List Int}:pU (xs.map iL) o [AV.aE false (y.map .int)] K t=(o<xs.length/\K ((xs.set o y).map iL)):=uJ
theorem Qq{xs:List (List Bool)}{o:Nat}{y:List Bool}:pU (xs.map bL) o [AV.aE false (y.map .bool)] K t=(o<xs.length/\K ((xs.set o y).map bL)):=uJ
theorem agl{xs:List Int}{n:Int}{y:Int}:pU (xs.map .int) (0+n.toNat*1) [AV.int y] K t=(n.toNat<xs.length/\K ((xs.set n.toNat y).map .int)):=by
 rw[show 0+n.toNat*1=n.toNat by omega];exact uJ
theorem agm{xs:List Bool}{n:Int}{y:Bool}:pU (xs.map .bool) (0+n.toNat*1) [AV.bool y] K t=(n.toNat<xs.length/\K ((xs.set n.toNat y).map .bool)):=by
 rw[show 0+n.toNat*1=n.toNat by omega];exact uJ
theorem agn{xs:List Int}:nC (xs.map .int) K t=K (xs.map .int):=(rfl)
theorem ago{xs:List Bool}:nC (xs.map .bool) K t=K (xs.map .bool):=(rfl)
theorem Qr{xs:List (List Int)}:nC (xs.map iL) K t=K (xs.map iL):=(rfl)
theorem Cg{α:Type}{f:α->AV}{xs:List α}{y:α}:nC (xs.map f ++ [f y]) K t=K ((xs ++ [y]).map f):=by simp[nC]
theorem agp{xs:List Int}{y:Int}:nC (xs.map .int ++ [.int y]) K t=K ((xs ++ [y]).map .int):=Cg
theorem agq{xs:List Bool}{y:Bool}:nC (xs.map .bool ++ [.bool y]) K t=K ((xs ++ [y]).map .bool):=Cg
theorem agr{xs:List (List Int)}{y:List Int}:nC (xs.map iL ++ [.aE false (y.map .int)]) K t=K ((xs ++ [y]).map iL):=Cg
theorem ags{xs:List (List Bool)}{y:List Bool}:nC (xs.map bL ++ [.aE false (y.map .bool)]) K t=K ((xs ++ [y]).map bL):=Cg
theorem agt{α:Type}{f:α->AV}{xs ys:List α}:nC (xs.map f++ys.map f) K t=K ((xs++ys).map f):=by simp[nC]
theorem agu{y:AV}:nC ([] ++ [y]) K t=K [y]:=(rfl)
theorem agv{ys:List AV}:nC ([]++ys) K t=K ys:=(rfl)
theorem agw:nC [] K t=K []:=(rfl)
theorem agx{x:AV}:nC [x] K t=K [x]:=(rfl)
theorem agy{xs:List Int}{o:Nat}{y:Int}(h:o<xs.length):nC (putAt (xs.map .int) o [.int y]) K t=K ((xs.set o y).map .int):=by
 unfold nC;rw[Qo h]
theorem IH{n:Nat}{x:AV}:nC (eG n [x]) K t=K (List.replicate n x):=by
 unfold nC eG;congr 1;simp
theorem agz{n:Nat}{b:Bool}:nC (eG n [.bool b]) K t=K ((List.replicate n b).map .bool):=by rw[IH];simp
theorem agA{n:Nat}{b:Int}:nC (eG n [.int b]) K t=K ((List.replicate n b).map .int):=by rw[IH];simp
theorem II{α:Type}{f:α->AV}(h:∀x,(f x).cells=[f x]){xs:List α}:nC ((xs.map f).flatMap AV.cells) K t=K (xs.map f):=by rw[zj h];rfl
theorem agB{xs:List Int}:nC ((xs.map AV.int).flatMap AV.cells) K t=K (xs.map .int):=II λ_=>rfl
theorem agC{xs:List Bool}:nC ((xs.map AV.bool).flatMap AV.cells) K t=K (xs.map .bool):=II λ_=>rfl
theorem agD{xs:List (List Int)}:nC ((xs.map iL).flatMap AV.cells) K t=K (xs.map iL):=II λ_=>rfl
end
section
variable{K:AV->Prop}{t:Tk K}
theorem GF{α:Type} [Inhabited α]{f:α->AV}{xs:List α}{n:Int}:pT (xs.map f) (0+n.toNat*1) none K t=(n.toNat<xs.length/\K (f (ix xs n))):=by
 unfold pT part;rw[show 0+n.toNat*1=n.toNat by omega]
 simp only[nT,iv,ix,gL]
 by_cases h:n.toNat<xs.length
 ·rw[de h];simp[aQ,h]
 ·rw[jH (by omega)];simp[aQ,h]
theorem agE{α:Type} [Inhabited α]{f:α->AV}{xs:List α}{n:Nat}:pT (xs.map f) n none K t=(n<xs.length/\K (f (ix xs n))):=by
 have:=GF (K:=K) (t:=t) (f:=f) (xs:=xs) (n:=n);simpa using this
end
section
variable{K:AV->Prop}{t:Tk K}
end
theorem Qs{L:CE}{f:Nat}{l:List AV}{σ:List ag}{K:AV->List ag->Prop}{t:Tk K}:lX L f l σ K t=oK (L f l σ) (λp=>K p.1 p.2) .k:=(rfl)
attribute [simp ↓ 20000] agj agk Qp Qq agl agm GF agn ago Qr agp agq agr ags agt agu agv agw agx agy agz agA agB agC agD
attribute [simp ↓] Qn IH Qs
attribute [simp ↓ 10500] agE
theorem agF:dG=1073741824:=(rfl)
attribute [simp] agF
def ph{α:Type}:List α->eo
 | []=>.jP
 |_::_=>.live
theorem agG{α:Type}:ph ([]:List α) = .jP:=(rfl)
theorem agH{α:Type}{x:α}{l:List α}:ph (x::l) = .live:=(rfl)
theorem agI{α:Type}{l:List α}:(ph l).gz=true:=by cases l<;>rfl
theorem agJ:eo.gz .live=true:=rfl
theorem agK:eo.gz .jP=true:=rfl
theorem agL:eo.gz .dead=false:=rfl
theorem agM{es:List (AV×AV)}:eo.gz (.map es)=false:=rfl
theorem agN{α:Type}{x:α}{l:List α}:ph (l ++ [x]) = .live:=by cases l<;>rfl
theorem agO{α:Type}{k:Nat}{x:α}{l:List α}:ph (l.set k x)=ph l:=by cases l<;>cases k<;>rfl
theorem agP{α:Type}{l:List α}:((ph l).isLive=true)=(l ≠ []):=by cases l<;>simp[ph,eo.isLive]
theorem agQ{α β:Type}{f:α->β}{l:List α}:ph (l.map f)=ph l:=by cases l<;>rfl
attribute [simp] agG agH agI agJ agK agL agM agN agO agP agQ
theorem aX{α:Type}{f:α->List (Nat×AV)}{g:α->List ag}{I:α->Prop}{μ:α->Nat}{m:Nat}{vs vf : List AV}{σ:List ag}{Q:Ex->St->Prop}(a:α) (h:vf = bY (f a) vs) (hg:σ=g a) (hI:I a) (hm:μ a<m):More f g I μ m vs Q .ft ⟨vf, none,σ⟩:=⟨a,by rw[h,hg],hI,hm⟩
theorem agR{cs:List AV}{K:List AV->Prop}{t:Tk K}:oK (gY cs []) K t=K cs:=(rfl)
theorem agS{cs:List AV}{o n:Nat}{x:AV}{r:List (Nat×Nat×AV)}{K:List AV->Prop}{t:Tk K}:oK (gY cs ((o,n,x)::r)) K t=nx x (λx=>(x.cells.length=n/\o+n<=cs.length/\bB x=true)/\nL (nY cs o x.cells) (λcs=>oK (gY cs r) K .k) .k) .k:=by
 unfold nx nL oK
 by_cases h:x.cells.length=n/\o+n<=cs.length/\bB x=true
 ·have e:=vI (cs:=cs) (o:=o) (new:=x.cells) (by rw[h.1];exact h.2.1)
  simp only[h,and_self,true_and,gY,<-e];simp[h]
 ·have e:gY cs ((o,n,x)::r)=none:=by
   unfold gY;rw[ab];simp only[aD,cP,eR,and_assoc];exact h
  rw[e];simp only[h,false_and,aQ]
attribute [simp ↓] agR agS
end Ab
