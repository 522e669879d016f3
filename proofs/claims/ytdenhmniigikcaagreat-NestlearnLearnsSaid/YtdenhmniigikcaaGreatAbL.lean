/- The interpreter with as much fuel as is wanted: more fuel gives the same answer; the limit, and that it is reached. What is to be shown of a run of the interpreter, as a formula that simp can print. How each line of a region reads: one rule a kind of line. Rules for simp: how the conditions of a run read. More rules for simp: cells of blocks as lists of numbers. Condition: none. -/
import Derived.Test.YtdenhmniigikcaaGreatAbCore
set_option linter.all false
open Option renaming some->aa,none->ab
open Bool renaming true->ad,false->ae
open List renaming replicate->ag,length->ah
namespace Ab
def CE.le (a b:CE):Prop:=∀f args σ x,a f args σ=aa x->b f args σ=aa x
variable{a b:CE}
def wb(h:CE.le a b){f:Nat}{args:ao}{x:AV}(e:j7 a f args=aa x):j7 b f args=aa x:=by
 unfold j7 at e ⊢;split at e
 case isFalse=>simp at e
 rename_i hn;rw[aD hn];cases hc:a f (args.map wk) []with
 |none=>simp[hc]at e
 |some r=>rw[h _ _ _ _ hc];simpa[hc]using e
variable{r:Rf->AV}{o:dN}
def Ee(h:CE.le a b){σ:aq}{nl:Nat}{ps:List dd}{x:AV×Option dd}(e:ev a σ nl ps r o=aa x):ev b σ nl ps r o=aa x:=by
 cases o
 case ml f args=>
  simp only[ev,pw]at e ⊢;obtain⟨y,h1,h2⟩:=e;exact⟨y,wb h h1,h2⟩
 case mX y args=>
  simp only[ev]at e ⊢;cases hr:r y<;>simp only[hr]at e<;>try(simp at e;done)
  simp only[pw]at e ⊢;obtain⟨y,h1,h2⟩:=e;exact⟨y,wb h h1,h2⟩
 case inv y sd args=>
  simp only[ev]at e ⊢;cases hr:r y<;>simp only[hr]at e<;>try(simp at e;done)
  rename_i t v;cases ht:fL sd t with
  |none=>simp[ht]at e
  |some f=>
   simp only[ht,pw]at e ⊢;obtain⟨y,h1,h2⟩:=e;exact⟨y,wb h h1,h2⟩
 case can f args=>
  simp only[ev]at e ⊢;split at e
  case isFalse=>simp at e
  rename_i hn;rw[aD hn];cases hc:a f (args.map r) []with
  |none=>simp[hc]at e
  |some q=>rw[h _ _ _ _ hc];simpa[hc]using e
 case vC f args=>
  simp only[ev]at e ⊢;cases hm:cu (λx=>view σ ae vd (r x)) args with
  |none=>simp[hm]at e
  |some vs=>
   simp only[hm]at e ⊢;cases hc:a f vs []with
   |none=>simp[hc]at e
   |some q=>rw[h _ _ _ _ hc];simpa[hc]using e
 all_goals exact e
def acE(h:CE.le a b){σ:aq}{x:AV×aq}(e:gS a σ r o=aa x):gS b σ r o=aa x:=by
 cases o
 case gm f args=>exact h _ _ _ _ e
 case mB y args=>
  simp only[gS]at e ⊢;cases hr:r y<;>simp only[hr]at e<;>try(simp at e;done)
  exact h _ _ _ _ e
 case uB y sd args=>
  simp only[gS]at e ⊢;cases hr:r y<;>simp only[hr]at e<;>try(simp at e;done)
  rename_i t v;cases ht:fL sd t with
  |none=>simp[ht]at e
  |some f=>simp only[ht]at e ⊢;exact h _ _ _ _ e
 case st=>exact e
 case dH=>exact e
 case xF=>exact e
 case xE=>exact e
 case Af=>exact e
 case NQ=>exact e
 all_goals
  simp only[gS]at e ⊢;split at e
  .rename_i hc;rw[Ee h hc];exact e
  .rename_i hc;rw[Ee h hc];exact e
  .simp at e
def Ql(h:CE.le a b){vars:ao}{s s' : LS}{l:Ln}(e:dQ a vars s l=aa s'):dQ b vars s l=aa s' :=by
 unfold dQ at e ⊢;split at e
 .simp at e
 .exact e
 .split at e
  .rename_i g
   rw[aD g];split at e
   .rename_i d;rw[acE h d];exact e
   .simp at e
  .rename_i g
   rw[aC g];split at e
   .rename_i d;rw[Ee h d];exact e
   .rename_i d;rw[Ee h d];exact e
   .simp at e
def It{a b:CE}(h:CE.le a b){vars:ao}:∀{ls:List Ln}{s s' : LS},lines a vars ls s=aa s' ->lines b vars ls s=aa s'
 | [],_,_,e=>e
 |l::ls,s,s', e=>by
  simp only[lines]at e ⊢;cases d:dQ a vars s l with
  |none=>simp[d]at e
  |some q=>rw[Ql h d];simp only[d]at e;exact It h e
def acF(h:CE.le a b){r:gW}{s s' : St}(e:dJ a r s=aa s'):dJ b r s=aa s' :=by
 unfold dJ at e ⊢;cases d:lines a s.vars r.ls ⟨[],s.σ,s.σ⟩with
 |none=>simp[d]at e
 |some q=>rw[It h d];simpa[d]using e
def Bc{f g:St->Option (Ex×St)}(h:∀s x,f s=aa x->g s=aa x):∀{n m:Nat}{s:St}{x:Ex×St},n<=m->iter f n s=aa x->iter g m s=aa x
 |0,_,_,_,_,e=>by simp[iter]at e
 |n+1,0,_,_,b,_=>by omega
 |n+1,m+1,s,x,b,e=>by
  simp only[iter]at e ⊢;cases a:f s with
  |none=>simp[a]at e
  |some q=>
   rw[h _ _ a];obtain⟨d,i⟩:=q;cases d with
   |fe=>simp only[a]at e ⊢;exact Bc h ax e
   |exit j=>simpa[a]using e
   |ret=>simpa[a]using e
def tn(h:CE.le a b){n m:Nat}(w:n<=m):∀(c:IC) (s:St) (x:Ex×St),exec n a c s=aa x->exec m b c s=aa x:=by
 intro c
 induction c with
 |skip=>intro s x e;simpa[exec]using e
 |cM r=>
  intro s x e;simp only[exec]at e ⊢;cases g:dJ a r s with
  |none=>simp[g]at e
  |some q=>rw[acF h g];simpa[g]using e
 |seq c d i l=>
  intro s x e;simp only[exec]at e ⊢;cases g:exec n a c s with
  |none=>simp[g]at e
  |some q=>
   rw[i _ _ g];obtain⟨y,z⟩:=q;cases y with
   |fe=>simp only[g]at e ⊢;exact l _ _ e
   |exit j=>simpa[g]using e
   |ret=>simpa[g]using e
 |cond t c d i l=>
  intro s x e;simp only[exec]at e ⊢;split at e
  .split at e
   .split at e
    .rename_i g p u;rw[aD p,aD u];exact i _ _ e
    .rename_i g p u;rw[aD p,aC u];exact l _ _ e
   .simp at e
  .simp at e
 |me k c d i l=>
  intro s x e;simp only[exec]at e ⊢;split at e
  .split at e
   .rename_i g p;rw[aD p];exact i _ _ e
   .rename_i g p;rw[aC p];exact l _ _ e
  .simp at e
 |block id c o=>
  intro s x e;simp only[exec]at e ⊢;cases g:exec n a c s with
  |none=>simp[g]at e
  |some q=>rw[o _ _ g];simpa[g]using e
 |loop c o=>
  intro s x e;simp only[exec]at e ⊢;exact Bc o w e
 |exit id=>intro s x e;simpa[exec]using e
 |ret=>intro s x e;simpa[exec]using e
 |km k=>intro s x e;simpa[exec]using e
 |bad=>intro s x e;simp[exec]at e
 |cut b c o=>intro s x e;simp only[exec]at e ⊢;exact o _ _ e
 |Gz c o=>intro s x e;simp only[exec]at e ⊢;exact o _ _ e
 |lex c o=>
  intro s x e;simp only[exec]at e ⊢;cases g:exec n a c s with
  |none=>simp[g]at e
  |some q=>rw[o _ _ g];simpa[g]using e
def eR (Q:lr):Prop:=∀f p,Q f=aa p->∀a b:CE,CE.le a b->∀args d v,p a args d=aa v->p b args d=aa v
section
variable{G:Nat->Option Fn}{Q:lr}
def Ef (hQ:eR Q){n m:Nat}(hn:n<=m):∀{d e:Nat},d<=e->CE.le (eJ G Q n d) (eJ G Q m e)
 |0,_,_=>λf args σ x h=>by simp[eJ]at h
 |d+1,0,h=>by omega
 |d+1,e+1,hd=>λf args σ x h=>by
  have ih:=Ef hQ hn (show d<=e by omega)
  simp only[eJ]at h ⊢;cases hq:Q f with
  |some p=>
   simp only[hq]at h ⊢;exact hQ f p hq _ _ ih _ _ _ h
  |none=>
   simp only[hq]at h ⊢;cases hg:G f with
   |none=>simp[hg]at h
   |some fn=>
    simp only[hg]at h ⊢;split at h
    case isFalse=>simp at h
    rename_i hl;rw[aD hl];cases he:exec n (eJ G Q n d) fn.body {vars:=args++ag (fn.nv-fn.np) .aW,fl:=ab,σ}with
    |none=>simp[he]at h
    |some q=>rw[tn ih hn _ _ _ he];simpa[he]using h
def cN (G:Nat->Option Fn) (Q:lr) (n:Nat):CE:=eJ G Q n n
def uw (b:eR Q){n m:Nat}(a:n<=m):CE.le (cN G Q n) (cN G Q m):=Ef b a a
open Classical in
noncomputable def lim (G:Nat->Option Fn) (Q:lr):CE:=λf args a=>if h:∃x,∃N,cN G Q N f args a=aa x then aa (choose h)else ab
variable{args:ao}{x:AV×aq}
def Eg (a:eR Q){N f:Nat}{σ:aq}(h:cN G Q N f args σ=aa x):lim G Q f args σ=aa x:=by
 have b:∃x,∃N,cN G Q N f args σ=aa x:=⟨x,N,h⟩;unfold lim;rw[dif_pos b];obtain⟨M,e⟩:=Classical.choose_spec b;have g:=uw (G:=G) a (Nat.le_max_left N M) _ _ _ _ h;have d:=uw (G:=G) a (Nat.le_max_right N M) _ _ _ _ e;rw[g]at d;exact d.symm
def wF{f:Nat}{σ:aq}(h:lim G Q f args σ=aa x):∃N,cN G Q N f args σ=aa x:=by
 unfold lim at h;split at h
 .rename_i a
  obtain⟨M,b⟩:=Classical.choose_spec a;exact⟨M,by rw[b];exact h⟩
 .simp at h
variable (hQ:eR Q)
include hQ
variable{args:ao}
theorem AN{f:Nat}{x:AV}(e:j7 (lim G Q) f args=aa x):∃N,j7 (cN G Q N) f args=aa x:=by
 unfold j7 at e;split at e
 case isFalse=>simp at e
 rename_i hn;cases hc:lim G Q f (args.map wk) []with
 |none=>simp[hc]at e
 |some r=>
  obtain⟨N,hN⟩:=wF hc;exact⟨N,by unfold j7;rw[aD hn,hN];simpa[hc]using e⟩
variable{r:Rf->AV}{o:dN}
theorem Eh{σ:aq}{nl:Nat}{ps:List dd}{x:AV×Option dd}(e:ev (lim G Q) σ nl ps r o=aa x):∃N,ev (cN G Q N) σ nl ps r o=aa x:=by
 cases o
 case ml f args=>
  simp only[ev,pw]at e ⊢;obtain⟨y,h1,h2⟩:=e;obtain⟨N,hN⟩:=AN hQ h1;exact⟨N,y,hN,h2⟩
 case mX y args=>
  simp only[ev]at e ⊢;cases hr:r y<;>simp only[hr]at e<;>try(simp at e;done)
  simp only[pw]at e ⊢;obtain⟨y,h1,h2⟩:=e;obtain⟨N,hN⟩:=AN hQ h1;exact⟨N,y,hN,h2⟩
 case inv y sd args=>
  simp only[ev]at e ⊢;cases hr:r y<;>simp only[hr]at e<;>try(simp at e;done)
  rename_i t v;cases ht:fL sd t with
  |none=>simp[ht]at e
  |some f=>
   simp only[ht,pw]at e ⊢;obtain⟨y,h1,h2⟩:=e;obtain⟨N,hN⟩:=AN hQ h1;exact⟨N,y,hN,h2⟩
 case can f args=>
  simp only[ev]at e ⊢;split at e
  case isFalse=>simp at e
  rename_i hn;cases hc:lim G Q f (args.map r) []with
  |none=>simp[hc]at e
  |some q=>
   obtain⟨N,hN⟩:=wF hc;exact⟨N,by rw[aD hn,hN];simpa[hc]using e⟩
 case vC f args=>
  simp only[ev]at e ⊢;cases hm:cu (λx=>view σ ae vd (r x)) args with
  |none=>simp[hm]at e
  |some vs=>
   simp only[hm]at e ⊢;cases hc:lim G Q f vs []with
   |none=>simp[hc]at e
   |some q=>
    obtain⟨N,hN⟩:=wF hc;exact⟨N,by rw[hN];simpa[hc]using e⟩
 all_goals exact⟨0,e⟩
theorem acG{σ:aq}{x:AV×aq}(e:gS (lim G Q) σ r o=aa x):∃N,gS (cN G Q N) σ r o=aa x:=by
 cases o
 case gm f args=>exact wF e
 case mB y args=>
  simp only[gS]at e ⊢;cases hr:r y<;>simp only[hr]at e<;>try(simp at e;done)
  exact wF e
 case uB y sd args=>
  simp only[gS]at e ⊢;cases hr:r y<;>simp only[hr]at e<;>try(simp at e;done)
  rename_i t v;cases ht:fL sd t with
  |none=>simp[ht]at e
  |some f=>simp only[ht]at e ⊢;exact wF e
 case st=>exact⟨0,e⟩
 case dH=>exact⟨0,e⟩
 case xF=>exact⟨0,e⟩
 case xE=>exact⟨0,e⟩
 case Af=>exact⟨0,e⟩
 case NQ=>exact⟨0,e⟩
 all_goals
  simp only[gS]at e ⊢;split at e
  .rename_i hc;obtain⟨N,hN⟩:=Eh hQ hc;exact⟨N,by rw[hN];exact e⟩
  .rename_i hc;obtain⟨N,hN⟩:=Eh hQ hc;exact⟨N,by rw[hN];exact e⟩
  .simp at e
theorem acH{vars:ao}{s s' : LS}{l:Ln}(e:dQ (lim G Q) vars s l=aa s'):∃N,dQ (cN G Q N) vars s l=aa s' :=by
 unfold dQ at e ⊢;cases i:want vars s.env l.g with
 |none=>simp[i]at e
 |some b=>
  cases b with
  |false=>exact⟨0,by simpa[i]using e⟩
  |true=>
   simp only[i]at e ⊢;split at e
   .rename_i h
    split at e
    .rename_i a;obtain⟨N,d⟩:=acG hQ a;exact⟨N,by rw[aD h,d];exact e⟩
    .simp at e
   .rename_i h
    split at e
    .rename_i a;obtain⟨N,d⟩:=Eh hQ a;exact⟨N,by rw[aC h,d];exact e⟩
    .rename_i a;obtain⟨N,d⟩:=Eh hQ a;exact⟨N,by rw[aC h,d];exact e⟩
    .simp at e
theorem Qm{vars:ao}:∀{ls:List Ln}{s s' : LS},lines (lim G Q) vars ls s=aa s' ->∃N,lines (cN G Q N) vars ls s=aa s'
 | [],_,_,e=>⟨0,e⟩
 |l::ls,s,s', e=>by
  simp only[lines]at e ⊢;cases a:dQ (lim G Q) vars s l with
  |none=>simp[a]at e
  |some q=>
   simp only[a]at e;obtain⟨N,b⟩:=acH hQ a;obtain⟨M,d⟩:=Qm e;refine⟨max N M,?_⟩;rw[Ql (uw hQ (Nat.le_max_left N M)) b];exact It (uw hQ (Nat.le_max_right N M)) d
theorem acI{r:gW}{s s' : St}(e:dJ (lim G Q) r s=aa s'):∃N,dJ (cN G Q N) r s=aa s' :=by
 unfold dJ at e ⊢;cases a:lines (lim G Q) s.vars r.ls ⟨[],s.σ,s.σ⟩with
 |none=>simp[a]at e
 |some q=>
  obtain⟨N,b⟩:=Qm hQ a;exact⟨N,by rw[b];simpa[a]using e⟩
def tX (G:Nat->Option Fn) (Q:lr) (N:Nat) (c:IC) (s:St):Option (Ex×St):=exec N (cN G Q N) c s
omit hQ in
theorem Bd (hQ:eR Q){n m:Nat}(a:n<=m){c:IC}{s:St}{x:Ex×St}(h:tX G Q n c s=aa x):tX G Q m c s=aa x:=tn (uw hQ a) a _ _ _ h
variable{n:Nat}
theorem acJ:∀(c:IC) (s:St) (x:Ex×St),exec n (lim G Q) c s=aa x->∃N,tX G Q N c s=aa x:=by
 intro c
 induction c with
 |skip=>intro s x e;exact⟨0,by simpa[exec,tX]using e⟩
 |cM r=>
  intro s x e;simp only[exec,tX]at e ⊢;cases g:dJ (lim G Q) r s with
  |none=>simp[g]at e
  |some q=>obtain⟨N,a⟩:=acI hQ g;exact⟨N,by rw[a];simpa[g]using e⟩
 |seq c d l m=>
  intro s x e;simp only[exec]at e;cases g:exec n (lim G Q) c s with
  |none=>simp[g]at e
  |some q=>
   obtain⟨N,a⟩:=l _ _ g;obtain⟨u,C⟩:=q;cases u with
   |fe=>
    simp only[g]at e;obtain⟨M,w⟩:=m _ _ e;refine⟨max N M,?_⟩;have A:=Bd (G:=G) hQ (Nat.le_max_left N M) a;have B:=Bd (G:=G) hQ (Nat.le_max_right N M) w;simp only[tX,exec]at A B ⊢;rw[A];exact B
   |exit j=>exact⟨N,sV⟩
   |ret=>exact⟨N,sV⟩
 |cond t c d l m=>
  intro s x e;simp only[exec]at e;split at e
  .split at e
   .split at e
    .rename_i g p y;obtain⟨N,a⟩:=l _ _ e;exact⟨N,by simp only[tX,exec,g,p,dM]at a ⊢;rw[aD y];exact a⟩
    .rename_i g p y;obtain⟨N,a⟩:=m _ _ e;exact⟨N,by simp only[tX,exec,g,p,dM]at a ⊢;rw[aC y];exact a⟩
   .simp at e
  .simp at e
 |me k c d l m=>
  intro s x e;simp only[exec]at e;split at e
  .split at e
   .rename_i g p;obtain⟨N,a⟩:=l _ _ e;exact⟨N,by simp only[tX,exec,g]at a ⊢;rw[aD p];exact a⟩
   .rename_i g p;obtain⟨N,a⟩:=m _ _ e;exact⟨N,by simp only[tX,exec,g]at a ⊢;rw[aC p];exact a⟩
  .simp at e
 |block id c o=>
  intro s x e;simp only[exec]at e;cases g:exec n (lim G Q) c s with
  |none=>simp[g]at e
  |some q=>obtain⟨N,a⟩:=o _ _ g;exact⟨N,sV⟩
 |loop c o=>
  intro s x e;simp only[exec]at e;have go:∀(k:Nat) (s:St),iter (exec n (lim G Q) c) k s=aa x->∃N,∃j,iter (tX G Q N c) j s=aa x:=by
   intro k
   induction k with
   |zero=>intro s e;simp[iter]at e
   |succ k z=>
    intro s e;simp only[iter]at e;cases g:exec n (lim G Q) c s with
    |none=>simp[g]at e
    |some q=>
     obtain⟨N,a⟩:=o _ _ g;obtain⟨u,C⟩:=q;cases u with
     |fe=>
      simp only[g]at e;obtain⟨M,j,w⟩:=z _ e;refine⟨max N M,j+1,?_⟩;simp only[iter];rw[Bd (G:=G) hQ (Nat.le_max_left N M) a];exact Bc (λs x h=>Bd (G:=G) hQ (Nat.le_max_right N M) h) (bG _) w
     |exit i=>exact⟨N,1,by simp only[iter];rw[a];simpa[g]using e⟩
     |ret=>exact⟨N,1,by simp only[iter];rw[a];simpa[g]using e⟩
  obtain⟨N,j,h⟩:=go n s e;refine⟨max N j,?_⟩;simp only[tX,exec];exact Bc (λs x h=>Bd (G:=G) hQ (Nat.le_max_left N j) h) (Nat.le_max_right N j) h
 |exit id=>intro s x e;exact⟨0,by simpa[exec,tX]using e⟩
 |ret=>intro s x e;exact⟨0,by simpa[exec,tX]using e⟩
 |km k=>intro s x e;exact⟨0,by simpa[exec,tX]using e⟩
 |bad=>intro s x e;simp[exec]at e
 |cut b c o=>intro s x e;simp only[exec]at e;obtain⟨N,a⟩:=o _ _ e;exact⟨N,by simp only[tX,exec]at a ⊢;exact a⟩
 |Gz c o=>intro s x e;simp only[exec]at e;obtain⟨N,a⟩:=o _ _ e;exact⟨N,by simp only[tX,exec]at a ⊢;exact a⟩
 |lex c o=>
  intro s x e;simp only[exec]at e;cases g:exec n (lim G Q) c s with
  |none=>simp[g]at e
  |some q=>obtain⟨N,a⟩:=o _ _ g;exact⟨N,sV⟩
theorem Qn{f:Nat}{fn:Fn}{σ:aq}{e:Ex}{s:St}{r:AV}(b:Q f=ab) (d:G f=aa fn) (g:ah args=fn.np)
  (h:exec n (lim G Q) fn.body {vars:=args++ag (fn.nv-fn.np) .aW,fl:=ab,σ}=aa (e,s)) (i:∀j,e ≠ .exit j) (a:results fn s=aa r) :
  lim G Q f args σ=aa (r,s.σ):=by
 obtain⟨N,l⟩:=acJ hQ _ _ _ h;refine Eg hQ (N:=N+1) ?_;have m:exec (N+1) (eJ G Q (N+1) N) fn.body {vars:=args++ag (fn.nv-fn.np) .aW,fl:=ab,σ}=aa (e,s):=
  tn (Ef hQ (Nat.le_succ N) (bG N)) (Nat.le_succ N) _ _ _ l
 simp only[cN,eJ,b,d,g,mF,dM,m];cases e with
 |exit j=>exact absurd rfl (i j)
 |fe=>simp[a]
 |ret=>simp[a]
omit hQ in
theorem wG (hQ:eR Q){N f:Nat}{p:CE->ao->aq->Option (AV×aq)}{args:ao}{σ:aq}{x:AV×aq}(a:Q f=aa p) (b:p (cN G Q N) args σ=aa x):lim G Q f args σ=aa x:=by
 refine Eg hQ (N:=N+1) ?_;simp only[cN,eJ,a];exact hQ f p a _ _ (Ef hQ (Nat.le_succ N) (bG N)) _ _ _ b
end
def W (L:CE) (c:IC) (s:St) (Q:Ex->St->Prop):Prop:=∃n e a, exec n L c s=aa (e,a)/\Q e a
section
variable{L:CE}
def yY (L:CE):CE.le L L:=λ_ _ _ _ h=>h
variable{c:IC}{s:St}
def W.mono{Q R:Ex->St->Prop}(h:W L c s Q) (hQ:∀e s', Q e s' ->R e s'):W L c s R:=by
 obtain⟨n,e,s', h1,h2⟩:=h;exact⟨n,e,s', h1,hQ e s' h2⟩
def acK{Q:Ex->St->Prop}(h:Q .fe s):W L .skip s Q:=⟨0,.fe,s,rfl,h⟩
def Qo{Q:Ex->St->Prop}(h:Q .ret s):W L .ret s Q:=⟨0,.ret,s,rfl,h⟩
variable{id:Nat}
def acL{Q:Ex->St->Prop}(h:Q (.exit id) s):W L (.exit id) s Q:=⟨0,.exit id,s,rfl,h⟩
def Qp{r:gW}{s s' : St}{Q:Ex->St->Prop}(h:dJ L r s=aa s') (a:Q .fe s'):W L (.cM r) s Q:=⟨0,.fe,s', by simp[exec,h],a⟩
def acM (L:CE) (d:IC) (Q:Ex->St->Prop):Ex->St->Prop
 |.fe,s=>W L d s Q
 |e,s=>Q e s
variable{d:IC}
def Qq{Q:Ex->St->Prop}(h:W L c s (acM L d Q)):W L (.seq c d) s Q:=by
 obtain⟨n,e,g,a,b⟩:=h;cases e with
 |fe=>
  obtain⟨m,i, l, o,p⟩:=b;refine⟨max n m,i, l, ?_,p⟩;simp only[exec];rw[tn (yY L) (Nat.le_max_left n m) _ _ _ a];exact tn (yY L) (Nat.le_max_right n m) _ _ _ o
 |exit j=>exact⟨n,.exit j,g,by simp[exec,a],b⟩
 |ret=>exact⟨n,.ret,g,by simp[exec,a],b⟩
variable{b:Bool}
def acN{t:Nat}{vars:ao}{σ:aq}{Q:Ex->St->Prop}(i:b=ad->W L c ⟨vars,ab,σ⟩ Q) (j:b=ae->W L d ⟨vars,ab,σ⟩ Q):W L (.cond t c d) ⟨vars,aa (t,.bool b),σ⟩ Q:=by
 cases b with
 |true=>
  obtain⟨n,e,a, g,h⟩:=i rfl;exact⟨n,e,a, by simp[exec,g],h⟩
 |false=>
  obtain⟨n,e,a, g,h⟩:=j rfl;exact⟨n,e,a, by simp[exec,g],h⟩
def acO{k:Nat}{Q:Ex->St->Prop}(i:nth s.vars k = .bool b) (j:b=ad->W L c s Q) (l:b=ae->W L d s Q):W L (.me k c d) s Q:=by
 cases b with
 |true=>
  obtain⟨n,e,a, g,h⟩:=j rfl;exact⟨n,e,a, by simp[exec,i,g],h⟩
 |false=>
  obtain⟨n,e,a, g,h⟩:=l rfl;exact⟨n,e,a, by simp[exec,i,g],h⟩
def Out (id:Nat) (Q:Ex->St->Prop):Ex->St->Prop
 |.exit j,s=>if j=id then Q .fe s else Q (.exit j) s
 |e,s=>Q e s
def acP{Q:Ex->St->Prop}(h:W L c s (Out id Q)):W L (.block id c) s Q:=by
 obtain⟨n,e,a,b,d⟩:=h;cases e with
 |fe=>exact⟨n,.fe,a,by simp[exec,b],d⟩
 |exit j=>
  by_cases g:j=id
  .exact⟨n,.fe,a,by simp[exec,b,g],by simpa[Out,g]using d⟩
  .exact⟨n,.exit j,a,by simp[exec,b,g],by simpa[Out,g]using d⟩
 |ret=>exact⟨n,.ret,a,by simp[exec,b],d⟩
def Be (I:St->Prop) (a:St->Nat) (m:Nat) (Q:Ex->St->Prop):Ex->St->Prop
 |.fe,s=>I s/\a s<m
 |e,s=>Q e s
end
def Ei (l:ao) (n:Int) (K:AV->Prop):Prop:=0<=n/\∃y,lU l n.toNat=aa y/\K y
def rM (n:Int) (K:AV->Prop):Prop:=(-9223372036854775808<=n/\n<=9223372036854775807)/\K (.int n)
def yZ (o:Dg) (x y:Int) (K:AV->Prop):Prop:=
 match o with
 |.add=>rM (x+y) K
 |.sub=>rM (x-y) K
 |.mul=>rM (x*y) K
 |.quo=>y ≠ 0/\rM (x.tdiv y) K
 |.rem=>y ≠ 0/\K (.int (x.tmod y))
 |.lss=>K (.bool (decide (x<y)))
 |.leq=>K (.bool (decide (x<=y)))
 |.gtr=>K (.bool (decide (y<x)))
 |.geq=>K (.bool (decide (y<=x)))
 |.eql=>K (.bool (decide (x=y)))
 |.neq=>K (.bool (!decide (x=y)))
 |.wq=>K (.int (wr (x+y)))
def Aj (L:CE) (f:Nat) (args:ao):Option AV:=
 match L f args []with
 |some (v,a)=>cK a ae v
 |none=>ab
def bA{a:Type}(o:Option a) (K:a->Prop):Prop:=
 match o with
 |some u=>K u
 |none=>False
def lY{a:Type}{o:Option a}{K:a->Prop}(h:bA o K):∃u,o=aa u/\K u:=by
 cases o with
 |none=>exact h.elim
 |some u=>exact⟨u,rfl,h⟩
def Bg{a:Type}{u:a}{K:a->Prop}:bA (aa u) K=K u:=(rfl)
def tq (L:CE) (f:Nat) (args:ao) (K:AV->Prop):Prop:=aY args=ad/\bA (Aj L f (args.map wk)) K
def LX (L:CE) (f:Nat) (args:ao) (σ:aq) (K:AV->aq->Prop):Prop:=bA (L f args σ) λp=>K p.1 p.2
def Bh (cs:ao) (off:Nat) (k:Option Nat) (K:AV->Prop):Prop:=bA (part cs off k) K
def cc (c:Prop) (K:Prop):Prop:=c/\K
def rN (L:CE) (σ:aq) (nl:Nat) (r:Rf->AV) (op:dN) (K:AV->Option dd->Prop):Prop:=
 match op with
 |.bin o x y=>match r x,r y with
  |.int a,.int b=>yZ o a b λv=>K v ab
  |_,_=>False
 |.cz x i st=>match r x,r i with
  |.aX _ l,.int n=>Ei l n λy=>ah y.cells=st/\K (.bN y) ab
  |.sl b u off len,.int n=>cc (0<=n/\n<len) (K (.ptr b u (off+n.toNat*st)) ab)
  |_,_=>False
 |.gy x i n k=>match r x,r i with
  |.ptr b u o,.int j=>cc (0<=j/\j<n) (K (.ptr b u (o+j.toNat*ba k)) ab)
  |.bN v,.int j=>cc (0<=j/\j<n) (bA (part v.cells (j.toNat*ba k) k) λy=>K (.bN y) ab)
  |_,_=>False
 |.ml f args=>tq L f (args.map r) λv=>K v ab
 |.mX x args=>match r x with
  |.func f e=>tq L f (args.map r++e) λv=>K v ab
  |_=>False
 |.inv x g args=>match r x with
  |.iface t v=>match fL g t with
   |some f=>tq L f (v::args.map r) λv=>K v ab
   |none=>False
  |_=>False
 |.ld x k=>match r x with
  |.bN v=>match k,v with
   |none,.agg _=>False
   |none,v=>K v ab
   |some n,.agg l=>ah l=n/\K (.agg l) ab
   |some _,_=>False
  |.ptr b u o=>bA (upto σ b u) λB=>B.st.isLive=ad/\Bh B.cells o k λy=>K y ab
  |_=>False
 |.Gy x=>match r x with
  |.int n=>rM n λv=>K v ab
  |.ik _ n=>rM n λv=>K v ab
  |_=>False
 |.qp x m q st=>match uq r m,ur r q with
  |some a,aa b=>(match r x with
   |.aX w l=>cc ((0<=a/\a<=b.getD (ah l)/\b.getD (ah l)<=ah l)/\eL st l=ad) (K (.aX (w&&decide (0<ah l)) ((l.drop a.toNat).take ((b.getD (ah l)).toNat-a.toNat))) ab)
   |.sl h u off len=>bA (upto σ h u) λB=>cc ((0<=a/\a<=b.getD len/\b.getD len<=len)/\ba B.k=st) (K (.sl h u (off+a.toNat*st) ((b.getD len).toNat-a.toNat)) ab)
   |_=>False)
  |_,_=>False
 |.vC f args=>bA (cu (λx=>view σ ae vd (r x)) args) λA=>LX L f A [] λv d =>bA (cK d ad v) λu=>K u ab
 |.can f args=>cc (aY (args.map r)=ad) (LX L f (args.map r) [] λv d =>K (iz nl v) (aa (.news (d.map (gl nl)))))
 |.kG n c z k=>match r n,r c with
  |.int n,.int c=>cc (0<=n/\n<=c/\c<=eE/\ah z=ba k) (K (.sl nl (ah (fx c.toNat z)) 0 n.toNat) (aa (.new ⟨k,fx c.toNat z,.live⟩)))
  |_,_=>False
 |.app s x k=>match bw σ k (r x)with
  |none=>False
  |some (n,cs)=>match r s with
   |.sl b u off len=>bA (upto σ b u) λB=>cc (off=0/\u=len*ba k/\len+n<=eE/\vD B.k k=ad) ((n=0->K (.sl b u off len) ab)/\(n ≠ 0->ah cs ≠ 0/\K (.sl b (u+ah cs) 0 (len+n)) (aa (.grow b cs))))
   |.aJ=>(n=0->K .aJ ab)/\(n ≠ 0->n<=eE/\K (.sl nl (ah cs) 0 n) (aa (.new ⟨k,cs,.live⟩)))
   |.emp=>(n=0->K .emp ab)/\(n ≠ 0->n<=eE/\K (.sl nl (ah cs) 0 n) (aa (.new ⟨k,cs,.live⟩)))
   |.arr l=>(n=0->K (if aY l then .aX ad l else .arr l) ab)/\(n ≠ 0->(fitAll (ba k) l=ad/\ah l+n<=eE)/\K (.sl nl (ah (l.flatMap AV.cells++cs)) 0 (ah l+n)) (aa (.new ⟨k,l.flatMap AV.cells++cs,.live⟩)))
   |_=>False
 |op=>bA (ev L σ nl [] r op) λp=>K p.1 p.2
variable{n:Int}
def rO:lA n=ad↔-9223372036854775808<=n/\n<=9223372036854775807:=by
 simp[lA]
def y5{K:AV->Prop}(h:rM n K):lA n=ad/\K (.int n):=⟨rO.2 h.1,h.2⟩
def acQ{o:Dg}{x y:Int}{K:AV->Prop}(h:yZ o x y K):∃v,bin o x y=aa v/\K v:=by
 cases o<;>simp only[yZ]at h<;>simp only[bin]
 case add=>obtain⟨h1,h2⟩:=y5 h;exact⟨_,by rw[aD h1],h2⟩
 case sub=>obtain⟨h1,h2⟩:=y5 h;exact⟨_,by rw[aD h1],h2⟩
 case mul=>obtain⟨h1,h2⟩:=y5 h;exact⟨_,by rw[aD h1],h2⟩
 case quo=>obtain⟨h0,h1,h2⟩:=And.intro h.1 (y5 h.2);exact⟨_,by simp[h0,h1],h2⟩
 case rem=>exact⟨_,by simp[h.1],h.2⟩
 case eql=>exact⟨_,rfl,by rwa [show(x==y)=decide (x=y)from rfl]⟩
 case neq=>exact⟨_,rfl,by rwa [show(x==y)=decide (x=y)from rfl]⟩
 all_goals exact⟨_,rfl,h⟩
variable{args:ao}
def Iu{L:CE}{f:Nat}{K:AV->Prop}(h:tq L f args K):∃v,j7 L f args=aa v/\K v:=by
 obtain⟨a,b⟩:=h;obtain⟨u,d,e⟩:=lY b;exact⟨u,by unfold j7;rw[aD a];exact d,e⟩
def dt{L:CE}{f:Nat}{σ:aq}{K:AV->aq->Prop}(h:LX L f args σ K):∃v a, L f args σ=aa (v,a)/\K v a :=by
 obtain⟨⟨v,a⟩,b,d⟩:=lY h;exact⟨v,a, b,d⟩
variable{dC: aq}{v:AV}
def Bj{L:CE}{f:Nat}{σ: aq}{K:AV->aq->Prop}(h:L f args σ=aa (v,dC)) (k:K v dC):LX L f args σ K:=by unfold LX;rw[h];exact k
def cB{L:CE}{f:Nat}{r:AV}(h:LX L f args [] λv dC =>bA (cK dC ae v) (·= r)):Aj L f args=aa r:=by
 obtain⟨v,dC, a,b⟩:=dt h;obtain⟨u,d,rfl⟩:=lY b;simp only[Aj,a,d]
def pa{L:CE}{f:Nat}{σ: aq}(h:LX L f args σ λa τ=>a = v/\τ=dC):L f args σ=aa (v,dC):=by
 obtain⟨a, τ,b,rfl,rfl⟩:=dt h;exact b
variable{r:Rf->AV}
def Qr{L:CE}{σ:aq}{nl:Nat}{op:dN}{K:AV->Option dd->Prop}(h:rN L σ nl r op K):∃v p,ev L σ nl [] r op=aa (v,p)/\K v p:=by
 unfold rN at h;cases op
 case bin o x y=>
  simp only at h;split at h
  .rename_i a b ha hb
   obtain⟨v,h1,h2⟩:=acQ h;exact⟨v,ab,by simp only[ev,ha,hb,h1];rfl,h2⟩
  .exact h.elim
 case cz x i st=>
  simp only at h;split at h
  .rename_i q l n ha hb
   obtain⟨h0,y,h1,h2,h3⟩:=h;exact⟨_,_,by simp[ev,ha,hb,h0,h1,h2],h3⟩
  .rename_i b u off len n ha hb
   obtain⟨h0,h1⟩:=h;exact⟨_,_,by simp only[ev,ha,hb];rw[aD h0],h1⟩
  .exact h.elim
 case gy x i n k=>
  simp only at h;split at h
  .rename_i b u o j ha hb
   obtain⟨h0,h1⟩:=h;exact⟨_,_,by simp only[ev,ha,hb];rw[aD h0],h1⟩
  .rename_i v j ha hb
   obtain⟨h0,h1⟩:=h;obtain⟨y,h2,h3⟩:=lY h1;exact⟨_,_,by simp only[ev,ha,hb];rw[aD h0,h2];rfl,h3⟩
  .exact h.elim
 case ml f args=>
  obtain⟨v,h1,h2⟩:=Iu h;exact⟨v,ab,by simp[ev,h1],h2⟩
 case mX x args=>
  simp only at h;split at h
  .rename_i f cU ha
   obtain⟨v,h1,h2⟩:=Iu h;exact⟨v,ab,by simp only[ev,ha,h1];rfl,h2⟩
  .exact h.elim
 case inv x sd args=>
  simp only at h;split at h
  .rename_i t q ha
   split at h
   .rename_i f hf
    obtain⟨v,h1,h2⟩:=Iu h;exact⟨v,ab,by simp only[ev,ha,hf,h1];rfl,h2⟩
   .exact h.elim
  .exact h.elim
 case ld x k=>
  simp only at h;split at h
  .rename_i v ha
   split at h
   .exact h.elim
   .rename_i v hv;exact⟨_,ab,by simp only[ev,ha],h⟩
   .obtain⟨h1,h2⟩:=h;exact⟨_,ab,by simp[ev,ha,h1],h2⟩
   .exact h.elim
  .rename_i b u o ha
   obtain⟨B,hB,h⟩:=lY h;obtain⟨h1,h⟩:=h;obtain⟨y,h2,h3⟩:=lY h;exact⟨y,ab,by simp only[ev,ha,hB];rw[aD h1,h2];rfl,h3⟩
  .exact h.elim
 case Gy x=>
  simp only at h;split at h
  .rename_i n ha
   obtain⟨h1,h2⟩:=y5 h;exact⟨_,ab,by simp only[ev,ha];rw[aD h1],h2⟩
  .rename_i k n ha
   obtain⟨h1,h2⟩:=y5 h;exact⟨_,ab,by simp only[ev,ha];rw[aD h1],h2⟩
  .exact h.elim
 case qp x lo hi st=>
  simp only at h;split at h
  .rename_i a b ha hb
   split at h
   .rename_i nn l hx
    obtain⟨h0,h1⟩:=h;exact⟨_,_,by simp only[ev,ha,hb,hx];rw[aD h0],h1⟩
   .rename_i b' u off len hx
    obtain⟨B,hB,h0,h1⟩:=lY h;exact⟨_,_,by simp only[ev,ha,hb,hx,hB];rw[aD h0],h1⟩
   .exact h.elim
  .exact h.elim
 case vC f args=>
  obtain⟨vs,h1,h2⟩:=lY h;obtain⟨v,dC, h3,h4⟩:=dt h2;obtain⟨u,h5,h6⟩:=lY h4;exact⟨u,ab,by simp only[ev,h1,h3,h5];rfl,h6⟩
 case can f args=>
  obtain⟨h1,h2⟩:=h;obtain⟨v,dC, h3,h4⟩:=dt h2;exact⟨_,_,by simp only[ev];rw[aD h1,h3],h4⟩
 case kG n c z k=>
  simp only at h;split at h
  .rename_i n c ha hb
   obtain⟨h0,h1⟩:=h;exact⟨_,_,by simp only[ev,ha,hb];rw[aD h0],h1⟩
  .exact h.elim
 case app s x k=>
  simp only at h;split at h
  .exact h.elim
  .rename_i n cs hx
   split at h
   .rename_i b u off len hs
    obtain⟨B,hB,⟨h1,h2,h3,h4⟩,h5,h6⟩:=lY h
    by_cases hn:n=0
    .subst hn
     exact⟨_,_,by simp only[ev,hx,hs,hB];rw[aD (by simp[h1,h2,h4,qj];omega)];simp,h5 rfl⟩
    .obtain⟨h7,h8⟩:=h6 hn
     exact⟨_,_,by simp only[ev,hx,hs,hB];rw[aD (by simp[h1,h2,h4,qj];omega)];rw[aC kj,aC (by simpa using h7)],h8⟩
   .rename_i hs
    by_cases hn:n=0
    .subst hn
     exact⟨_,_,by simp only[ev,hx,hs];simp,h.1 rfl⟩
    .obtain⟨h7,h8⟩:=h.2 hn
     exact⟨_,_,by simp only[ev,hx,hs];rw[aC kj,aD h7],h8⟩
   .rename_i hs
    by_cases hn:n=0
    .subst hn
     exact⟨_,_,by simp only[ev,hx,hs];simp,h.1 rfl⟩
    .obtain⟨h7,h8⟩:=h.2 hn
     exact⟨_,_,by simp only[ev,hx,hs];rw[aC kj,aD h7],h8⟩
   .rename_i l hs
    by_cases hn:n=0
    .subst hn
     exact⟨_,_,by simp only[ev,hx,hs];simp,h.1 rfl⟩
    .obtain⟨⟨h7,h9⟩,h8⟩:=h.2 hn
     exact⟨_,_,by simp only[ev,hx,hs];rw[aC kj,aD (by simp[h7,h9])],h8⟩
   .exact h.elim
 all_goals
  obtain⟨⟨v,p⟩,h1,h2⟩:=lY h;exact⟨v,p,h1,h2⟩
def Bk (cs:ao) (o:Nat) (new:ao) (K:ao->Prop):Prop:=o+ah new<=ah cs/\K (putAt cs o new)
def Bl (L:CE) (σ:aq) (r:Rf->AV) (op:dN) (K:AV->aq->Prop):Prop:=
 match op with
 |.st p x n=>match r p with
  |.ptr b u o=>bA (upto σ b u) λB=>(ah (r x).cells=n/\B.st.isLive=ad/\bW (r x)=ad)/\Bk B.cells o (r x).cells λcs=>K .aW (aV σ b ⟨B.k,cs,B.st⟩)
  |_=>False
 |.dH s x k=>match bw σ k (r x)with
  |none=>False
  |some (n,cs)=>match r s with
   |.sl b u off len=>bA (upto σ b u) λB=>cc (off=0/\len+n<=eE/\vD B.k k=ad/\(n ≠ 0->ah cs ≠ 0)) ((n=0->K (.sl b u off len) σ)/\(n ≠ 0->u=len*ba k->K (.sl b (u+ah cs) 0 (len+n)) (aV σ b ⟨B.k,B.cells++cs,.live⟩))/\(n ≠ 0->u ≠ len*ba k->(len+n)*ba k<=u/\K (.sl b u 0 (len+n)) (aV σ b ⟨B.k,putAt B.cells (len*ba k) cs,B.st⟩)))
   |.aJ=>(n=0->K .aJ σ)/\(n ≠ 0->n<=eE/\K (.sl (ah σ) (ah cs) 0 n) (σ ++ [⟨k,cs,.live⟩]))
   |.emp=>(n=0->K .emp σ)/\(n ≠ 0->n<=eE/\K (.sl (ah σ) (ah cs) 0 n) (σ ++ [⟨k,cs,.live⟩]))
   |.arr l=>(n=0->K (if aY l then .aX ad l else .arr l) σ)/\(n ≠ 0->(fitAll (ba k) l=ad/\ah l+n<=eE)/\K (.sl (ah σ) (ah (l.flatMap AV.cells++cs)) 0 (ah l+n)) (σ ++ [⟨k,l.flatMap AV.cells++cs,.live⟩]))
   |_=>False
 |.gm f args=>LX L f (args.map r) σ K
 |.mB x args=>match r x with
  |.func f a=>LX L f (args.map r++a) σ K
  |_=>False
 |.uB x d args=>match r x with
  |.iface t v=>match fL d t with
   |some f=>LX L f (v::args.map r) σ K
   |none=>False
  |_=>False
 |op=>bA (gS L σ r op) λp=>K p.1 p.2
def acR{L:CE}{σ:aq}{op:dN}{K:AV->aq->Prop}(h:Bl L σ r op K):∃v dC, gS L σ r op=aa (v,dC)/\K v dC :=by
 unfold Bl at h;cases op
 case st p x n=>
  simp only at h;split at h
  .rename_i b u o ha
   obtain⟨B,hB,⟨h1,h2,h3⟩,h4,h5⟩:=lY h;exact⟨.aW,_,by simp only[gS,ha,hB];simp[h1,h2,h3,show o+n<=ah B.cells by rw[<-h1];exact h4],h5⟩
  .exact h.elim
 case dH s x k=>
  simp only at h;split at h
  .exact h.elim
  .rename_i n cs hx
   split at h
   .rename_i b u off len hs
    obtain⟨B,hB,⟨h1,h2,h3,h4⟩,h5,h6,h7⟩:=lY h
    by_cases hn:n=0
    .subst hn
     exact⟨_,_,by simp only[gS,hx,hs,hB];rw[aD (by simp[h1,h3];omega)];simp,h5 rfl⟩
    .have hc:=h4 hn
     by_cases hu:u=len*ba k
     .exact⟨_,_,by simp only[gS,hx,hs,hB];rw[aD (by simp[h1,h3];omega)];rw[aC kj,aC (by simpa using hc),aD (by simpa using hu)],h6 hn hu⟩
     .obtain⟨h8,h9⟩:=h7 hn hu
      exact⟨_,_,by simp only[gS,hx,hs,hB];rw[aD (by simp[h1,h3];omega)];rw[aC kj,aC (by simpa using hc),aC (by simpa using hu),aD h8],h9⟩
   .rename_i hs
    by_cases hn:n=0
    .subst hn
     exact⟨_,_,by simp only[gS,hx,hs];simp,h.1 rfl⟩
    .obtain⟨h7,h8⟩:=h.2 hn
     exact⟨_,_,by simp only[gS,hx,hs];rw[aC kj,aD h7],h8⟩
   .rename_i hs
    by_cases hn:n=0
    .subst hn
     exact⟨_,_,by simp only[gS,hx,hs];simp,h.1 rfl⟩
    .obtain⟨h7,h8⟩:=h.2 hn
     exact⟨_,_,by simp only[gS,hx,hs];rw[aC kj,aD h7],h8⟩
   .rename_i l hs
    by_cases hn:n=0
    .subst hn
     exact⟨_,_,by simp only[gS,hx,hs];simp,h.1 rfl⟩
    .obtain⟨⟨h7,h9⟩,h8⟩:=h.2 hn
     exact⟨_,_,by simp only[gS,hx,hs];rw[aC kj,aD (by simp[h7,h9])],h8⟩
   .exact h.elim
 case gm f args=>
  obtain⟨v,dC, h1,h2⟩:=dt h;exact⟨v,dC, h1,h2⟩
 case mB x args=>
  simp only at h;split at h
  .rename_i f cU ha
   obtain⟨v,dC, h1,h2⟩:=dt h;exact⟨v,dC, by simp only[gS,ha];exact h1,h2⟩
  .exact h.elim
 case uB x sd args=>
  simp only at h;split at h
  .rename_i t q ha
   split at h
   .rename_i f hf
    obtain⟨v,dC, h1,h2⟩:=dt h;exact⟨v,dC, by simp only[gS,ha,hf];exact h1,h2⟩
   .exact h.elim
  .exact h.elim
 all_goals
  obtain⟨⟨v,p⟩,h1,h2⟩:=lY h;exact⟨v,p,h1,h2⟩
def eP (K:ao->aq->aq->Prop) (env:ao) (a σ:aq) (v:AV):Option dd->Prop
 |none=>K (v::env) a σ
 |some p=>K (v::env) σ (gX σ p)
def cG (L:CE) (vars:ao) (op:dN) (prev:Bool) (env:ao) (a σ:aq) (K:ao->aq->aq->Prop):Prop:=
 match op.mb,prev,op.mU with
 |true,_,_=>Bl L σ (rv vars env) op λv dC =>K (v::env) [] dC
 |false,ad,ad=>rN L a (ah σ) (rv vars env) op (eP K env σ σ)
 |false,ad,ae=>rN L a (ah σ) (rv vars env) op (eP K env a σ)
 |false,ae,ad=>rN L σ (ah σ) (rv vars env) op (eP K env σ σ)
 |false,ae,ae=>rN L σ (ah σ) (rv vars env) op (eP K env a σ)
def gK (b:Bool) (A B:Prop):Prop:=(b=ad->A)/\(b=ae->B)
variable{A B:Prop}
def Iv:gK ad A B=A:=by simp[gK]
def Iw:gK ae A B=B:=by simp[gK]
def LK (L:CE) (vars:ao):List Ln->ao->aq->aq->(ao->aq->Prop)->Prop
 | [],env,_,σ,K=>K env σ
 |⟨op,g,prev⟩::ls,env,a,σ,K=>match g with
  |none=>cG L vars op prev env a σ λenv a σ=>LK L vars ls env a σ K
  |some (.t d,w)=>match nth env d with
   |.bool b=>match w with
    |true=>gK b (cG L vars op prev (eY env d (.bool ad)) a σ λenv a σ=>LK L vars ls env a σ K) (LK L vars ls (.bY []::eY env d (.bool ae)) a σ K)
    |false=>gK b (LK L vars ls (.bY []::eY env d (.bool ad)) a σ K) (cG L vars op prev (eY env d (.bool ae)) a σ λenv a σ=>LK L vars ls env a σ K)
   |.bY []=>LK L vars ls (.bY []::env) a σ K
   |_=>False
  |some (.v k,w)=>match nth vars k with
   |.bool b=>match w with
    |true=>gK b (cG L vars op prev env a σ λenv a σ=>LK L vars ls env a σ K) (LK L vars ls (.bY []::env) a σ K)
    |false=>gK b (LK L vars ls (.bY []::env) a σ K) (cG L vars op prev env a σ λenv a σ=>LK L vars ls env a σ K)
   |.bY []=>LK L vars ls (.bY []::env) a σ K
   |_=>False
  |some (.c _,_)=>False
def Qs:∀{l:ao}{d:Nat}{x:AV},x ≠ .aW->nth l d=x->eY l d x=l
 | [],d,x,a,h=>by simp[nth]at h;exact absurd h.symm a
 |y::r,0,x,_,h=>by simp[nth]at h;simp[eY,h]
 |y::r,d+1,x,a,h=>by simp only[nth]at h;simp[eY,Qs a h]
def Qt{L:CE}{vars:ao}{op:dN}{g:Option (Rf×Bool)}{prev:Bool}{env:ao}{a σ:aq}{K:ao->aq->aq->Prop}(l:want vars env g=aa ad) (h:cG L vars op prev env a σ K) :
  ∃s,dQ L vars ⟨env,a,σ⟩ ⟨op,g,prev⟩=aa s/\K s.env s.bg s.σ:=by
 unfold cG at h;unfold dQ;simp only[l];have fin:∀e i,(if prev=ad then a else σ)=e->(if op.mU=ad then σ else a)=i->op.mb=ae->rN L e (ah σ) (rv vars env) op (eP K env i σ)->
   ∃s,(if op.mb=ad then match gS L σ (rv vars env) op with
    |some (v,dC)=>aa (⟨v::env,[],dC⟩:LS)
    |none=>ab
   else match ev L (if prev=ad then a else σ) (ah σ) [] (rv vars env) op with
    |some (v,ab)=>aa ⟨v::env,if op.mU=ad then σ else a,σ⟩
    |some (v,aa p)=>aa ⟨v::env,σ,gX σ p⟩
    |none=>ab)=aa s/\K s.env s.bg s.σ:=λe i e0 m j h=>by
  obtain⟨v,p,d,b⟩:=Qr h;rw[aC (by simp[j]),e0,m,d]
  cases p with
  |none=>exact⟨_,rfl,b⟩
  |some p=>exact⟨_,rfl,b⟩
 split at h
 .rename_i j
  obtain⟨v,dC, d,b⟩:=acR h;rw[aD j,d];exact⟨_,rfl,b⟩
 .rename_i d b;exact fin _ _ aA fS d h
 .rename_i d b;exact fin _ _ aA fS d h
 .rename_i d b;exact fin _ _ aA fS d h
 .rename_i d b;exact fin _ _ aA fS d h
variable{y6: ao}
def y7{L:CE}{vars:ao}{op:dN}{g:Option (Rf×Bool)}{prev:Bool}{ls:List Ln}{env: ao}{a σ:aq}{K:ao->aq->Prop}(e:y6 = env) (b:want vars y6 g=aa ae)
  (h:∃q,lines L vars ls ⟨.bY []::y6, a,σ⟩=aa q/\K q.env q.σ):∃q,lines L vars (⟨op,g,prev⟩::ls) ⟨env,a,σ⟩=aa q/\K q.env q.σ:=by
 subst e;obtain⟨q,d,i⟩:=h;exact⟨q,by simp only[lines,dQ,b];exact d,i⟩
def uJ{L:CE}{vars:ao}{op:dN}{g:Option (Rf×Bool)}{prev:Bool}{ls:List Ln}{env: ao}{a σ:aq}{K:ao->aq->Prop}{J:ao->aq->aq->Prop}(e:y6 = env) (b:want vars y6 g=aa ad)
  (h:cG L vars op prev y6 a σ J) (d:∀env a σ,J env a σ->∃q,lines L vars ls ⟨env,a,σ⟩=aa q/\K q.env q.σ):∃q,lines L vars (⟨op,g,prev⟩::ls) ⟨env,a,σ⟩=aa q/\K q.env q.σ:=by
 subst e;obtain⟨s,i,j⟩:=Qt b h;obtain⟨q,l,m⟩:=d _ _ _ j;exact⟨q,by simp only[lines,i];exact l,m⟩
def pJ{L:CE}{vars:ao}:∀{ls:List Ln}{env:ao}{i σ:aq}{K:ao->aq->Prop},LK L vars ls env i σ K->∃q,lines L vars ls ⟨env,i,σ⟩=aa q/\K q.env q.σ
 | [],env,i,σ,K,h=>⟨_,rfl,h⟩
 |⟨op,g,prev⟩::ls,env,i,σ,K,h=>by
  unfold LK at h;split at h
  .exact uJ rfl rfl h λ_ _ _ h=>pJ h
  .rename_i d w
   split at h
   .rename_i b a
    have e:∀q,b=q->eY env d (.bool q)=env:=λq j=>Qs aA (j▸a)
    cases w with
    |true=>
     simp only[gK]at h;cases b with
     |true=>exact uJ (e ad rfl) (by rw[e ad rfl];simp[want,rv,a]) (h.1 rfl) λ_ _ _ h=>pJ h
     |false=>exact y7 (e ae rfl) (by rw[e ae rfl];simp[want,rv,a]) (pJ (h.2 rfl))
    |false=>
     simp only[gK]at h;cases b with
     |true=>exact y7 (e ad rfl) (by rw[e ad rfl];simp[want,rv,a]) (pJ (h.1 rfl))
     |false=>exact uJ (e ae rfl) (by rw[e ae rfl];simp[want,rv,a]) (h.2 rfl) λ_ _ _ h=>pJ h
   .rename_i a
    exact y7 rfl oI (pJ h)
   .exact h.elim
  .rename_i k w
   split at h
   .rename_i b a
    cases w with
    |true=>
     simp only[gK]at h;cases b with
     |true=>exact uJ rfl oI (h.1 rfl) λ_ _ _ h=>pJ h
     |false=>exact y7 rfl oI (pJ (h.2 rfl))
    |false=>
     simp only[gK]at h;cases b with
     |true=>exact y7 rfl oI (pJ (h.1 rfl))
     |false=>exact uJ rfl oI (h.2 rfl) λ_ _ _ h=>pJ h
   .rename_i a
    exact y7 rfl oI (pJ h)
   .exact h.elim
  .exact h.elim
@[reducible] def Bm (env:ao):Option (Nat×Nat)->Option (Nat×AV)
 |some (t,d)=>aa (t,nth env d)
 |none=>ab
def WK (L:CE):IC->ao->Option (Nat×AV)->aq->(Ex->St->Prop)->Prop
 |.skip,vars,d,σ,Q=>Q .fe ⟨vars,d,σ⟩
 |.cM r,vars,_,σ,Q=>LK L vars r.ls [] σ σ λenv σ=>Q .fe ⟨eI r.eI (outs env r.outs vars),Bm env r.fl,σ⟩
 |.seq a b,vars,d,σ,Q=>WK L a vars d σ λe s=>match e with
  |.fe=>WK L b s.vars s.fl s.σ Q
  |e=>Q e s
 |.cond t a b,vars,d,σ,Q=>match d with
  |some (g, .bool c)=>g = t/\gK c (WK L a vars ab σ Q) (WK L b vars ab σ Q)
  |_=>False
 |.me k a b,vars,d,σ,Q=>match nth vars k with
  |.bool c=>gK c (WK L a vars d σ Q) (WK L b vars d σ Q)
  |_=>False
 |.block id c,vars,d,σ,Q=>WK L c vars d σ (Out id Q)
 |.exit id,vars,d,σ,Q=>Q (.exit id) ⟨vars,d,σ⟩
 |.ret,vars,d,σ,Q=>Q .ret ⟨vars,d,σ⟩
 |.bad,_,_,_,_=>False
 |.cut _ c,vars,d,σ,Q=>WK L c vars d σ Q
 |.Gz c,vars,d,σ,Q=>WK L c vars d σ Q
 |c,vars,d,σ,Q=>W L c ⟨vars,d,σ⟩ Q
def Zs (L:CE) (d:IC) (Q:Ex->St->Prop):Ex->St->Prop:=λe s=>match e with
 |.fe=>WK L d s.vars s.fl s.σ Q
 |e=>Q e s
def qH{L:CE}:∀{c:IC}{vars:ao}{d:Option (Nat×AV)}{σ:aq}{Q:Ex->St->Prop},WK L c vars d σ Q->W L c ⟨vars,d,σ⟩ Q
 |.skip,vars,d,σ,Q,h=>acK h
 |.cM r,vars,d,σ,Q,h=>by
  unfold WK at h;obtain⟨q,g,i⟩:=pJ h;refine Qp (s' :=⟨eI r.eI (outs q.env r.outs vars),Bm q.env r.fl,q.σ⟩) ?_ i;simp only[dJ,g]
  rfl
 |.seq a b,vars,d,σ,Q,h=>Qq ((qH (c:=a) h).mono λe s l=>by
  cases e with
  |fe=>exact qH (c:=b) l
  |exit j=>exact l
  |ret=>exact l)
 |.cond t a b,vars,d,σ,Q,h=>by
  unfold WK at h;split at h
  .obtain⟨rfl,g,i⟩:=h
   exact acN (λe=>qH (g e)) (λe=>qH (i e))
  .exact h.elim
 |.me k a b,vars,d,σ,Q,h=>by
  unfold WK at h;split at h
  .rename_i c m
   exact acO m (λe=>qH (h.1 e)) (λe=>qH (h.2 e))
  .exact h.elim
 |.block id c,vars,d,σ,Q,h=>acP (qH (c:=c) h)
 |.exit id,vars,d,σ,Q,h=>acL h
 |.ret,vars,d,σ,Q,h=>Qo h
 |.loop c,vars,d,σ,Q,h=>h
 |.km k,vars,d,σ,Q,h=>h
 |.lex c,vars,d,σ,Q,h=>h
 |.bad,vars,d,σ,Q,h=>h.elim
 |.cut b c,vars,d,σ,Q,h=>by
  obtain⟨n,e,s', g,i⟩:=qH (c:=c) h;exact⟨n,e,s', by simpa only[exec]using g,i⟩
 |.Gz c,vars,d,σ,Q,h=>by
  obtain⟨n,e,s', g,i⟩:=qH (c:=c) h;exact⟨n,e,s', by simpa only[exec]using g,i⟩
section
variable{L:CE}{vars:ao}{fl:Option (Nat×AV)}{σ:aq}{Q:Ex->St->Prop}
def acS:WK L .skip vars fl σ Q=Q .fe ⟨vars,fl,σ⟩:=(rfl)
def acT{r:gW}:WK L (.cM r) vars fl σ Q=LK L vars r.ls [] σ σ λenv σ=>Q .fe ⟨eI r.eI (outs env r.outs vars),Bm env r.fl,σ⟩:=(rfl)
def Iy{a b:IC}:WK L (.seq a b) vars fl σ Q=WK L a vars fl σ (Zs L b Q):=(rfl)
variable{a b:IC}
def acU{t:Nat}{c:Bool}:WK L (.cond t a b) vars (aa (t,.bool c)) σ Q=gK c (WK L a vars ab σ Q) (WK L b vars ab σ Q):=by
 apply propext;exact⟨λh=>h.2,λh=>⟨rfl,h⟩⟩
def acV{k:Nat}:WK L (.me k a b) vars fl σ Q=match nth vars k with
  |.bool c=>gK c (WK L a vars fl σ Q) (WK L b vars fl σ Q)
  |_=>False:=by conv=>lhs;unfold WK
def acW{id:Nat}{c:IC}:WK L (.block id c) vars fl σ Q=WK L c vars fl σ (Out id Q):=(rfl)
def acX{id:Nat}:WK L (.exit id) vars fl σ Q=Q (.exit id) ⟨vars,fl,σ⟩:=(rfl)
def acY:WK L .ret vars fl σ Q=Q .ret ⟨vars,fl,σ⟩:=(rfl)
def acZ{c:IC}:WK L (.loop c) vars fl σ Q=W L (.loop c) ⟨vars,fl,σ⟩ Q:=(rfl)
def ac0{k:Nat}:WK L (.km k) vars fl σ Q=W L (.km k) ⟨vars,fl,σ⟩ Q:=(rfl)
def ac1{c:IC}:WK L (.lex c) vars fl σ Q=W L (.lex c) ⟨vars,fl,σ⟩ Q:=(rfl)
def ac2:WK L .bad vars fl σ Q=False:=(rfl)
def ac3{b:Bool}{c:IC}:WK L (.cut b c) vars fl σ Q=WK L c vars fl σ Q:=(rfl)
def ac4{c:IC}:WK L (.Gz c) vars fl σ Q=WK L c vars fl σ Q:=(rfl)
def Iz{d:IC}:Zs L d Q .fe ⟨vars,fl,σ⟩=WK L d vars fl σ Q:=(rfl)
def ac5{d:IC}{s:St}:Zs L d Q .ret s=Q .ret s:=(rfl)
def ac6{d:IC}{s:St}{j:Nat}:Zs L d Q (.exit j) s=Q (.exit j) s:=(rfl)
def ac7{id:Nat}{s:St}:Out id Q .fe s=Q .fe s:=(rfl)
def ac8{id:Nat}{s:St}:Out id Q .ret s=Q .ret s:=(rfl)
def ac9{id j:Nat}{s:St}:Out id Q (.exit j) s=if j=id then Q .fe s else Q (.exit j) s:=(rfl)
def ada{I:St->Prop}{a:St->Nat}{m:Nat}{s:St}:Be I a m Q .fe s=(I s/\a s<m):=(rfl)
def adb{I:St->Prop}{a:St->Nat}{m:Nat}{s:St}:Be I a m Q .ret s=Q .ret s:=(rfl)
def ade{I:St->Prop}{a:St->Nat}{m j:Nat}{s:St}:Be I a m Q (.exit j) s=Q (.exit j) s:=(rfl)
end
def iq (fn:Fn) (K:AV->aq->Prop):Ex->St->Prop
 |.exit _,_=>False
 |_,s=>bA (results fn s) λv=>K v s.σ
def adf{G:Nat->Option Fn}{P:lr}(g:eR P){f:Nat}(fn:Fn){args:ao}{σ:aq}{K:AV->aq->Prop}(i:P f=ab) (l:G f=aa fn) (m:ah args=fn.np)
  (h:WK (lim G P) fn.body (args++ag (fn.nv-fn.np) .aW) ab σ (iq fn K)):LX (lim G P) f args σ K:=by
 obtain⟨n,e,s,o,a⟩:=qH h;cases e with
 |exit j=>exact a.elim
 |fe=>obtain⟨v,b,d⟩:=lY a;exact Bj (Qn g i l m o (λj=>aA) b) d
 |ret=>obtain⟨v,b,d⟩:=lY a;exact Bj (Qn g i l m o (λj=>aA) b) d
attribute [simp ↓] yZ rM cc Bh tq
attribute [irreducible] WK
universe u
inductive Tk {α:Sort u} (a:α):Type
 |k
def nx (x:AV) (K:AV->Prop) (_:Tk K):Prop:=K x
def nL (l:ao) (K:ao->Prop) (_:Tk K):Prop:=K l
def nB (l:aq) (K:aq->Prop) (_:Tk K):Prop:=K l
def nC (l:ao) (K:ao->Prop) (_:Tk K):Prop:=K l
def oK{a:Type}(o:Option a) (K:a->Prop) (_:Tk K):Prop:=bA o K
def gT (b:Bool) (A B:Prop) (_:Tk A) (_:Tk B):Prop:=gK b A B
def im (p A:Prop) (_:Tk A):Prop:=p->A
def xK (l:ao) (n:Int) (K:AV->Prop) (_:Tk K):Prop:=Ei l n K
def lX (L:CE) (f:Nat) (args:ao) (σ:aq) (K:AV->aq->Prop) (_:Tk K):Prop:=LX L f args σ K
def pT (cs:ao) (off:Nat) (k:Option Nat) (K:AV->Prop) (_:Tk K):Prop:=bA (part cs off k) K
def pU (cs:ao) (o:Nat) (new:ao) (K:ao->Prop) (_:Tk K):Prop:=Bk cs o new K
def bk (o:Option aO) (u:Nat) (K:Option Nat->ao->fR->Prop) (_:Tk K):Prop:=
 match o with
 |some B=>(ah B.cells=u/\B.st.gx=ad)/\K B.k B.cells B.st
 |none=>False
section
variable{K:AV->Prop}{t:Tk K}
def Qu{n:Int}:nx (.int n) K t=K (.int n):=(rfl)
def GI{k:Nat}{n:Int}:nx (.ik k n) K t=K (.ik k n):=(rfl)
def Qv{n:Bool}:nx (.bool n) K t=K (.bool n):=(rfl)
def Qw{n:List UInt8}:nx (.str n) K t=K (.str n):=(rfl)
def Qx{l:ao}:nx (.agg l) K t=K (.agg l):=(rfl)
def Qy{l:ao}:nx (.bY l) K t=K (.bY l):=(rfl)
def Qz:nx .aJ K t=K .aJ:=(rfl)
def QA{q:Bool}{l:ao}:nx (.aX q l) K t=K (.aX q l):=(rfl)
def QB{l:ao}:nx (.arr l) K t=K (.arr l):=(rfl)
def GJ{b u o n:Nat}:nx (.sl b u o n) K t=K (.sl b u o n):=(rfl)
def QC:nx .jj K t=K .jj:=(rfl)
def QD{v:AV}:nx (.bN v) K t=K (.bN v):=(rfl)
def QE{b u o:Nat}:nx (.ptr b u o) K t=K (.ptr b u o):=(rfl)
def QF:nx .lS K t=K .lS:=(rfl)
def QG{f:Nat}{l:ao}:nx (.func f l) K t=K (.func f l):=(rfl)
def QH:nx .iR K t=K .iR:=(rfl)
def QI{n:Nat}{v:AV}:nx (.iface n v) K t=K (.iface n v):=(rfl)
def QJ{b:Nat}:nx (.cZ b) K t=K (.cZ b):=(rfl)
def QK:nx .rF K t=K .rF:=(rfl)
def QL:nx .emp K t=K .emp:=(rfl)
def QM:nx .aW K t=K .aW:=(rfl)
def adg{x:AV}:nx x K t=K x:=(rfl)
def QN{a:Type}{u:a}{K:a->Prop}{t:Tk K}:oK (aa u) K t=K u:=(rfl)
def QO{a:Type}{K:a->Prop}{t:Tk K}:oK ab K t=False:=(rfl)
end
def QP{K:ao->Prop}{t:Tk K}:nL [] K t=K []:=(rfl)
def QQ{x:AV}{l:ao}{K:ao->Prop}{t:Tk K}:nL (x::l) K t=nx x (λy=>nL l (λl=>K (y::l)) .k) .k:=(rfl)
def adh{l:ao}{K:ao->Prop}{t:Tk K}:nL l K t=K l:=(rfl)
def QR{K:aq->Prop}{t:Tk K}:nB [] K t=K []:=(rfl)
def QS{k:Option Nat}{cs:ao}{st:fR}{l:aq}{K:aq->Prop}{t:Tk K}:nB (⟨k,cs,st⟩::l) K t=nB l (λl=>K (⟨k,cs,st⟩::l)) .k:=(rfl)
def adi{l:aq}{K:aq->Prop}{t:Tk K}:nB l K t=K l:=(rfl)
def adj{l:ao}{K:ao->Prop}{t:Tk K}:nC l K t=K l:=(rfl)
def QT{A B:Prop}{t:Tk A}{u:Tk B}:gT ad A B t u=A:=Iv
def QU{A B:Prop}{t:Tk A}{u:Tk B}:gT ae A B t u=B:=Iw
def QV{b:Bool}{A B:Prop}{t:Tk A}{u:Tk B}:gT (!b) A B t u=gT b B A u t:=by cases b<;>simp[gT,gK]
def adk{b:Bool}{A B:Prop}{t:Tk A}{u:Tk B}:gT b A B t u=(im (b=ad) A .k/\im (b=ae) B .k):=(rfl)
def IA{p:Prop} [Decidable p]{A B:Prop}{t:Tk A}{u:Tk B}:gT (decide p) A B t u=(im p A .k/\im (¬p) B .k):=by
 by_cases h:p<;>simp[gT,gK,im,h]
def adl{A:Prop}{t:Tk A}:im True A t=A:=by simp[im]
def adm{A:Prop}{t:Tk A}:im False A t=True:=by simp[im]
def adn{p A:Prop}{t:Tk A}:im p A t=(p->A):=(rfl)
def QW{k:Option Nat}{cs:ao}{u:Nat}{K:Option Nat->ao->fR->Prop}{t:Tk K}:bk (aa ⟨k,cs,.live⟩) u K t=(ah cs=u/\K k cs .live):=by simp[bk,fR.gx]
def QX{k:Option Nat}{cs:ao}{st:fR}{u:Nat}{K:Option Nat->ao->fR->Prop}{t:Tk K}:bk (aa ⟨k,cs,st⟩) u K t=((ah cs=u/\st.gx=ad)/\K k cs st):=(rfl)
def wH{σ:aq}{b u:Nat}{K:aO->Prop}:bA (upto σ b u) K=bk (aQ σ b) u (λk cs st=>K ⟨k,cs,st⟩) .k:=by
 unfold upto bk;cases aQ σ b with
 |none=>rfl
 |some B=>
  obtain⟨k,cs,st⟩:=B
  by_cases h:ah cs=u<;>cases st<;>simp[h,bA,fR.gx]
@[reducible] def iX {α β:Type} (f:α->β):List α->List β
 | []=>[]
 |x::r=>f x::iX f r
def jy{a b:Type}(f:a->b):∀l:List a,l.map f=iX f l
 | []=>rfl
 |x::r=>by simp[iX,jy f r]
@[reducible] def iC {α:Type}:List α->List α->List α
 | [],m=>m
 |x::r,m=>x::iC r m
def jt{a:Type}:∀l m:List a,l++m=iC l m
 | [],m=>rfl
 |x::r,m=>by simp[iC,jt r m]
@[reducible] def xS:Nat->ao->ao
 |0,_=>[]
 |_,[]=>[]
 |n+1,x::r=>x::xS n r
def QY:∀(n:Nat) (l:ao),l.take n=xS n l
 |0,l=>by cases l<;>rfl
 |n+1,[]=>rfl
 |n+1,x::r=>by simp[xS,QY n r]
@[reducible] def xT:Nat->ao->ao
 |0,l=>l
 |_,[]=>[]
 |n+1,_::r=>xT n r
def QZ:∀(n:Nat) (l:ao),l.drop n=xT n l
 |0,l=>by cases l<;>rfl
 |n+1,[]=>rfl
 |n+1,x::r=>by simp[xT,QZ n r]
def Q0{cs:ao}{off:Nat}{K:AV->Prop}{t:Tk K}:pT cs off ab K t=oK (lU cs off) K .k:=(rfl)
def ado{cs:ao}{off n:Nat}{K:AV->Prop}{t:Tk K}:pT cs off (aa n) K t=(off+n<=ah cs/\nL (xS n (xT off cs)) (λl=>K (.agg l)) .k):=by
 unfold pT part;rw[<-QY,<-QZ]
 by_cases h:off+n<=ah cs<;>simp[h,bA,nL]
section
variable{L:CE}{vars env:ao}{bg σ:aq}{K:ao->aq->aq->Prop}
def ii (x y:AV) (K:Int->Int->Prop):Prop:=match x,y with
 |.int a,.int b=>K a b
 |_,_=>False
def adp{a b:Int}{K:Int->Int->Prop}:ii (.int a) (.int b) K=K a b:=(rfl)
def bb (x y:AV) (K:Bool->Bool->Prop):Prop:=match x,y with
 |.bool a,.bool b=>K a b
 |_,_=>False
def adq{a b:Bool}{K:Bool->Bool->Prop}:bb (.bool a) (.bool b) K=K a b:=(rfl)
def b1 (x:AV) (K:Bool->Prop):Prop:=match x with
 |.bool a=>K a
 |_=>False
def adr{a:Bool}{K:Bool->Prop}:b1 (.bool a) K=K a:=(rfl)
def GK (x:AV) (K:Int->Prop):Prop:=match x with
 |.aJ=>K 0
 |.emp=>K 0
 |.aX _ l=>K (ah l)
 |.sl _ _ _ n=>K n
 |_=>False
def ads{K:Int->Prop}:GK .aJ K=K 0:=(rfl)
def adt{K:Int->Prop}:GK .emp K=K 0:=(rfl)
def adu{q:Bool}{l:ao}{K:Int->Prop}:GK (.aX q l) K=K (ah l):=(rfl)
def adv{b u o n:Nat}{K:Int->Prop}:GK (.sl b u o n) K=K n:=(rfl)
def Q1 (x:AV) (off:Nat) (k:Option Nat) (K:AV->Prop):Prop:=match x with
 |.ptr b u o=>K (.ptr b u (o+off))
 |.bN v=>pT v.cells off k (λy=>K (.bN y)) .k
 |_=>False
def adw{b u o off:Nat}{k:Option Nat}{K:AV->Prop}:Q1 (.ptr b u o) off k K=K (.ptr b u (o+off)):=(rfl)
def adx{v:AV}{off:Nat}{k:Option Nat}{K:AV->Prop}:Q1 (.bN v) off k K=pT v.cells off k (λy=>K (.bN y)) .k:=(rfl)
def Q2 (x:AV) (K:AV->Prop):Prop:=match x with
 |.ptr b u o=>K (.ptr b u o)
 |.bN v=>K (.bN v)
 |_=>False
def ady{b u o:Nat}{K:AV->Prop}:Q2 (.ptr b u o) K=K (.ptr b u o):=(rfl)
def adz{v:AV}{K:AV->Prop}:Q2 (.bN v) K=K (.bN v):=(rfl)
def ua (x:AV) (k:Option Nat) (K:AV->Prop):Prop:=match x with
 |.bN v=>match k,v with
  |none,.agg _=>False
  |none,v=>K v
  |some n,.agg l=>ah l=n/\K (.agg l)
  |some _,_=>False
 |_=>False
def adA{n:Int}{K:AV->Prop}:ua (.bN (.int n)) ab K=K (.int n):=(rfl)
def adB{n:Bool}{K:AV->Prop}:ua (.bN (.bool n)) ab K=K (.bool n):=(rfl)
def adC{n:List UInt8}{K:AV->Prop}:ua (.bN (.str n)) ab K=K (.str n):=(rfl)
def adD{q:Bool}{l:ao}{K:AV->Prop}:ua (.bN (.aX q l)) ab K=K (.aX q l):=(rfl)
def adE{K:AV->Prop}:ua (.bN .aJ) ab K=K .aJ:=(rfl)
def adF{v:AV}{K:AV->Prop}:ua (.bN (.bN v)) ab K=K (.bN v):=(rfl)
def adG{f:Nat}{l:ao}{K:AV->Prop}:ua (.bN (.func f l)) ab K=K (.func f l):=(rfl)
def adH{f:Nat}{l:AV}{K:AV->Prop}:ua (.bN (.iface f l)) ab K=K (.iface f l):=(rfl)
def adI{n:Nat}{l:ao}{K:AV->Prop}:ua (.bN (.agg l)) (aa n) K=(ah l=n/\K (.agg l)):=(rfl)
def fl1 (x:AV) (off:Nat) (k:Option Nat) (K:AV->Prop):Prop:=match x with
 |.agg l=>pT l off k K .k
 |_=>False
def adJ{l:ao}{off:Nat}{k:Option Nat}{K:AV->Prop}:fl1 (.agg l) off k K=pT l off k K .k:=(rfl)
def Zt (x:AV) (i:Nat) (K:AV->Prop):Prop:=match x with
 |.bY l=>oK (lU l i) K .k
 |_=>False
def adK{l:ao}{i:Nat}{K:AV->Prop}:Zt (.bY l) i K=oK (lU l i) K .k:=(rfl)
def ub (σ:aq) (x:AV) (K:Bool->Prop):Prop:=match x with
 |.aJ=>K ad
 |.aX ad _=>K ae
 |.aX ae (_::_)=>K ae
 |.sl b u _ _=>bA (upto σ b u) λB=>match B.st with
  |.live=>K ae
  |_=>False
 |_=>False
def adL{K:Bool->Prop}:ub σ .aJ K=K ad:=(rfl)
def adM{l:ao}{K:Bool->Prop}:ub σ (.aX ad l) K=K ae:=(rfl)
def adN{x:AV}{l:ao}{K:Bool->Prop}:ub σ (.aX ae (x::l)) K=K ae:=(rfl)
def adO{b u o n:Nat}{K:Bool->Prop}:ub σ (.sl b u o n) K=bk (aQ σ b) u (λ_ _ st=>st = .live/\K ae) .k:=by
 show bA (upto σ b u) _=_;rw[show(λB:aO=>match B.st with | .live=>K ae|_=>False)=λB=>B.st = .live/\K ae from by funext B;cases B.st<;>simp,wH]
def Zu (x i:AV) (st:Nat) (K:AV->Prop):Prop:=match x,i with
 |.aX _ l,.int n=>xK l n (λy=>ah y.cells=st/\K (.bN y)) .k
 |.sl b u off len,.int n=>cc (0<=n/\n<len) (K (.ptr b u (off+n.toNat*st)))
 |_,_=>False
def adP{q:Bool}{l:ao}{n:Int}{st:Nat}{K:AV->Prop}:Zu (.aX q l) (.int n) st K=xK l n (λy=>ah y.cells=st/\K (.bN y)) .k:=(rfl)
def adQ{b u off len:Nat}{n:Int}{st:Nat}{K:AV->Prop}:Zu (.sl b u off len) (.int n) st K=cc (0<=n/\n<len) (K (.ptr b u (off+n.toNat*st))):=(rfl)
def Zv (x i:AV) (n:Nat) (k:Option Nat) (K:AV->Prop):Prop:=match x,i with
 |.ptr b u o,.int j=>cc (0<=j/\j<n) (K (.ptr b u (o+j.toNat*ba k)))
 |.bN v,.int j=>cc (0<=j/\j<n) (pT v.cells (j.toNat*ba k) k (λy=>K (.bN y)) .k)
 |_,_=>False
def adR{b u o n:Nat}{j:Int}{k:Option Nat}{K:AV->Prop}:Zv (.ptr b u o) (.int j) n k K=cc (0<=j/\j<n) (K (.ptr b u (o+j.toNat*ba k))):=(rfl)
def adS{v:AV}{n:Nat}{j:Int}{k:Option Nat}{K:AV->Prop}:Zv (.bN v) (.int j) n k K=cc (0<=j/\j<n) (pT v.cells (j.toNat*ba k) k (λy=>K (.bN y)) .k):=(rfl)
def Q3 (x:AV) (K:Nat->ao->Prop):Prop:=match x with
 |.func f a=>K f a
 |_=>False
def adT{f:Nat}{a:ao}{K:Nat->ao->Prop}:Q3 (.func f a) K=K f a:=(rfl)
def Zw (x:AV) (a:List (Nat×Nat)) (K:Nat->AV->Prop):Prop:=match x with
 |.iface t v=>match fL a t with
  |some f=>K f v
  |none=>False
 |_=>False
def adU{t:Nat}{v:AV}{a:List (Nat×Nat)}{K:Nat->AV->Prop}:Zw (.iface t v) a K=oK (fL a t) (λf=>K f v) .k:=by cases h:fL a t<;>simp[Zw,h,oK,bA]
def i1 (x:AV) (K:Int->Prop):Prop:=match x with
 |.int a=>K a
 |.ik _ a=>K a
 |_=>False
def adV{a:Int}{K:Int->Prop}:i1 (.int a) K=K a:=(rfl)
def GL{k:Nat}{a:Int}{K:Int->Prop}:i1 (.ik k a) K=K a:=(rfl)
def st1 (σ:aq) (p x:AV) (n:Nat) (K:aq->Prop):Prop:=match p with
 |.ptr b u o=>bA (upto σ b u) λB=>(ah x.cells=n/\B.st.isLive=ad/\bW x=ad)/\Bk B.cells o x.cells λcs=>K (aV σ b ⟨B.k,cs,B.st⟩)
 |_=>False
def adW{b u o n:Nat}{x:AV}{K:aq->Prop}:st1 σ (.ptr b u o) x n K=bk (aQ σ b) u (λk cs st=>(ah x.cells=n/\st.isLive=ad/\bW x=ad)/\pU cs o x.cells (λcs=>nC cs (λcs=>nB (aV σ b ⟨k,cs,st⟩) K .k) .k) .k) .k:=wH
variable{x:Rf}
def adX:cG L vars (.mv x) ae env bg σ K=K (rv vars env x::env) bg σ:=(rfl)
variable{y:Rf}
def adY{o:Dg}:cG L vars (.bin o x y) ae env bg σ K=ii (rv vars env x) (rv vars env y) λa b=>yZ o a b λv=>K (v::env) bg σ:=(rfl)
def adZ{n:Bool}:cG L vars (.beq n x y) ae env bg σ K=bb (rv vars env x) (rv vars env y) λa b=>K (.bool ((a==b) != n)::env) bg σ:=by
 show bA (ev L σ (ah σ) [] (rv vars env) (.beq n x y)) _=_;simp only[ev,bb];generalize rv vars env x=p;generalize rv vars env y=q;cases p<;>cases q<;>rfl
def ad0:cG L vars (.not x) ae env bg σ K=b1 (rv vars env x) λa=>K (.bool (!a)::env) bg σ:=by
 show bA (ev L σ (ah σ) [] (rv vars env) (.not x)) _=_;simp only[ev,b1];generalize rv vars env x=p;cases p<;>rfl
variable{c:Rf}
theorem ad1:cG L vars (.pick c x y) ae env bg σ K=b1 (rv vars env c) λa=>K ((match a with|true=>rv vars env x|false=>rv vars env y)::env) bg σ:=by
 show bA (ev L σ (ah σ) [] (rv vars env) (.pick c x y)) _=_;simp only[ev,b1];cases h:rv vars env c with
 |bool b=>cases b<;>rfl
 |_=>rfl
def ad2:cG L vars (.len x) ae env bg σ K=GK (rv vars env x) λa=>K (.int a::env) bg σ:=by
 show bA (ev L σ (ah σ) [] (rv vars env) (.len x)) _=_;simp only[ev,GK];generalize rv vars env x=p;cases p<;>rfl
def ad3:cG L vars (.mx ad x y) ae env bg σ K=ii (rv vars env x) (rv vars env y) λa b=>K (.int (max a b)::env) bg σ:=by
 show bA (ev L σ (ah σ) [] (rv vars env) (.mx ad x y)) _=_;simp only[ev,ii];generalize rv vars env x=p;generalize rv vars env y=q;cases p<;>cases q<;>try rfl
 rename_i a b;show K (.int (if a<b then b else a)::env) bg σ=K (.int (max a b)::env) bg σ
 rw[show(if a<b then b else a)=max a b by rw[Int.max_def];split<;>split<;>omega]
def ad4:cG L vars (.mx ae x y) ae env bg σ K=ii (rv vars env x) (rv vars env y) λa b=>K (.int (min a b)::env) bg σ:=by
 show bA (ev L σ (ah σ) [] (rv vars env) (.mx ae x y)) _=_;simp only[ev,ii];generalize rv vars env x=p;generalize rv vars env y=q;cases p<;>cases q<;>try rfl
 rename_i a b;show K (.int (if b<a then b else a)::env) bg σ=K (.int (min a b)::env) bg σ
 rw[show(if b<a then b else a)=min a b by rw[Int.min_def];split<;>split<;>omega]
variable{off:Nat}
def ad5{k:Option Nat}:cG L vars (.eu x off k) ae env bg σ K=Q1 (rv vars env x) off k λa=>K (a::env) bg σ:=by
 show bA (ev L σ (ah σ) [] (rv vars env) (.eu x off k)) _=_;simp only[ev,Q1];generalize rv vars env x=p;cases p<;>try rfl
 rename_i v;dsimp only[pT];cases part v.cells off k<;>rfl
variable{i:Rf}{st:Nat}
def ad6:cG L vars (.cz x i st) ae env bg σ K=Zu (rv vars env x) (rv vars env i) st λv=>K (v::env) bg σ:=(rfl)
variable{n:Nat}
def ad7{k:Option Nat}:cG L vars (.gy x i n k) ae env bg σ K=Zv (rv vars env x) (rv vars env i) n k λv=>K (v::env) bg σ:=(rfl)
def ad8:cG L vars (.p7 x) ae env bg σ K=Q2 (rv vars env x) λa=>K (a::env) bg σ:=by
 show bA (ev L σ (ah σ) [] (rv vars env) (.p7 x)) _=_;simp only[ev,Q2];generalize rv vars env x=p;cases p<;>rfl
def qI{a:Type}{c:Prop} [Decidable c]{x:a}{K:a->Prop}:bA (if c then aa x else ab) K=cc c (K x):=by
 by_cases h:c<;>simp[h,bA,cc]
def ad9:cG L vars (.ig x) ae env bg σ K=cc (bC (rv vars env x)=ad) (K (.bN (rv vars env x)::env) bg σ):=by
 show bA (ev L σ (ah σ) [] (rv vars env) (.ig x)) _=_;simp only[ev,qI,eP]
def aea{n:Nat}:cG L vars (.iA n) ae env bg σ K=K (.aW::env) bg σ:=(rfl)
variable{p:Rf}
def aeb:cG L vars (.kP p x n) ae env bg σ K=cc (bC (rv vars env x)=ad/\ah (rv vars env x).cells=n) (K (.bN (rv vars env x)::env) bg σ):=by
 show bA (ev L σ (ah σ) [] (rv vars env) (.kP p x n)) _=_;simp only[ev,qI,eP,bd,dA]
variable{z:ao}
def aec{ps:List (Nat×Nat×Rf)}:cG L vars (.ju z ps) ae env bg σ K=bA (iV z (ps.map λp=>(p.1,p.2.1,rv vars env p.2.2))) λl=>K (.agg l::env) bg σ:=by
 show bA (ev L σ (ah σ) [] (rv vars env) (.ju z ps)) _=_;simp only[ev];cases iV z (ps.map λp=>(p.1,p.2.1,rv vars env p.2.2))<;>rfl
def aed{i:Nat}:cG L vars (.ext x i) ae env bg σ K=Zt (rv vars env x) i λa=>K (a::env) bg σ:=by
 show bA (ev L σ (ah σ) [] (rv vars env) (.ext x i)) _=_;simp only[ev,Zt];generalize rv vars env x=p;cases p<;>try rfl
 rename_i l;dsimp only[oK];cases lU l i<;>rfl
def aee{f:Nat}{cs:List Rf}:cG L vars (.D4 f cs) ae env bg σ K=K (.func f (cs.map (rv vars env))::env) bg σ:=(rfl)
def aef{t:Nat}:cG L vars (.NP t x) ae env bg σ K=K (.iface t (rv vars env x)::env) bg σ:=(rfl)
variable{ps:List Rf}
def aeg:cG L vars (.cq ps st) ae env bg σ K=cc (aY (ps.map (rv vars env))=ad/\fitAll st (ps.map (rv vars env))=ad) (K (.aX ae (ps.map (rv vars env))::env) bg σ):=by
 show bA (ev L σ (ah σ) [] (rv vars env) (.cq ps st)) _=_;simp only[ev,qI,eP,bd]
def aeh:cG L vars (.dV ps st) ae env bg σ K=cc (fitAll st (ps.map (rv vars env))=ad) (K (.arr (ps.map (rv vars env))::env) bg σ):=by
 show bA (ev L σ (ah σ) [] (rv vars env) (.dV ps st)) _=_;simp only[ev,qI,eP]
variable{args:List Rf}
def aei{f:Nat}:cG L vars (.ml f args) ae env bg σ K=tq L f (args.map (rv vars env)) λv=>K (v::env) bg σ:=(rfl)
def aej:cG L vars (.mX x args) ae env bg σ K=Q3 (rv vars env x) λf a=>tq L f (args.map (rv vars env)++a) λv=>K (v::env) bg σ:=(rfl)
def aek{a:List (Nat×Nat)}:cG L vars (.inv x a args) ae env bg σ K=Zw (rv vars env x) a λf v=>tq L f (v::args.map (rv vars env)) λv=>K (v::env) bg σ:=(rfl)
def ael{n:Bool}:cG L vars (.pI n x) ae env bg σ K=ub σ (rv vars env x) λa=>K (.bool (a != n)::env) bg σ:=by
 show bA (ev L σ (ah σ) [] (rv vars env) (.pI n x)) _=_;cases h:rv vars env x with
 |aJ=>simp[ev,h,ub,bA,eP]
 |aX q l=>
  cases q with
  |true=>simp[ev,h,ub,bA,eP]
  |false=>cases l<;>simp[ev,h,ub,bA,eP]
 |sl b u o n=>
  simp only[ev,h,ub];cases upto σ b u with
  |none=>rfl
  |some B=>obtain⟨q,cs,st⟩:=B;cases st<;>simp[bA,eP]
 |_=>simp[ev,h,ub,bA]
def aem{n:Bool}:cG L vars (.pI n x) ad env bg σ K=ub bg (rv vars env x) λa=>K (.bool (a != n)::env) bg σ:=by
 show bA (ev L bg (ah σ) [] (rv vars env) (.pI n x)) _=_;cases h:rv vars env x with
 |aJ=>simp[ev,h,ub,bA,eP]
 |aX q l=>
  cases q with
  |true=>simp[ev,h,ub,bA,eP]
  |false=>cases l<;>simp[ev,h,ub,bA,eP]
 |sl b u o n=>
  simp only[ev,h,ub];cases upto bg b u with
  |none=>rfl
  |some B=>obtain⟨q,cs,st⟩:=B;cases st<;>simp[bA,eP]
 |_=>simp[ev,h,ub,bA]
theorem aen{k:Option Nat}:cG L vars (.ew x k) ae env bg σ K=ua (rv vars env x) k λa=>K (a::env) bg σ:=by
 show bA (ev L σ (ah σ) [] (rv vars env) (.ew x k)) _=_;simp only[ev,ua];generalize rv vars env x=p;cases p<;>try rfl
 rename_i v;cases k with
 |none=>cases v<;>rfl
 |some n=>
  cases v with
  |agg l=>by_cases h:ah l=n<;>simp[h,bA,eP]
  |_=>rfl
def ld1 (σ:aq) (x:AV) (k:Option Nat) (K:AV->Prop):Prop:=match x with
 |.bN v=>ua (.bN v) k K
 |.ptr b u o=>bA (upto σ b u) λB=>B.st.isLive=ad/\Bh B.cells o k K
 |_=>False
def aeo{k:Option Nat}:cG L vars (.ld x k) ae env bg σ K=ld1 σ (rv vars env x) k λa=>K (a::env) bg σ:=by
 show rN L σ (ah σ) (rv vars env) (.ld x k) _=_;cases h:rv vars env x with
 |bN v=>cases k<;>cases v<;>simp[rN,h,ld1,ua,eP]
 |ptr b u o=>simp[rN,h,ld1,eP]
 |_=>simp[rN,h,ld1]
def aep{k:Option Nat}:cG L vars (.ld x k) ad env bg σ K=ld1 bg (rv vars env x) k λa=>K (a::env) bg σ:=by
 show rN L bg (ah σ) (rv vars env) (.ld x k) _=_;cases h:rv vars env x with
 |bN v=>cases k<;>cases v<;>simp[rN,h,ld1,ua,eP]
 |ptr b u o=>simp[rN,h,ld1,eP]
 |_=>simp[rN,h,ld1]
def aeq:cG L vars (.Gy x) ae env bg σ K=i1 (rv vars env x) λn=>rM n λv=>K (v::env) bg σ:=(rfl)
def sl1 (σ:aq) (x:AV) (a:Int) (b:Option Int) (st:Nat) (K:AV->Prop):Prop:=match x with
 |.aX e l=>cc ((0<=a/\a<=b.getD (ah l)/\b.getD (ah l)<=ah l)/\eL st l=ad) (K (.aX (e&&decide (0<ah l)) ((l.drop a.toNat).take ((b.getD (ah l)).toNat-a.toNat))))
 |.sl d u off len=>bA (upto σ d u) λB=>cc ((0<=a/\a<=b.getD len/\b.getD len<=len)/\ba B.k=st) (K (.sl d u (off+a.toNat*st) ((b.getD len).toNat-a.toNat)))
 |_=>False
variable{lo hi:Option Rf}
theorem aer:cG L vars (.qp x lo hi st) ae env bg σ K=bA (uq (rv vars env) lo) λa=>bA (ur (rv vars env) hi) λb=>sl1 σ (rv vars env x) a b st λv=>K (v::env) bg σ:=by
 show rN L σ (ah σ) (rv vars env) (.qp x lo hi st) _=_;unfold rN;simp only;cases uq (rv vars env) lo with
 |none=>rfl
 |some a=>cases ur (rv vars env) hi with
  |none=>rfl
  |some b=>rfl
theorem aes:cG L vars (.qp x lo hi st) ad env bg σ K=bA (uq (rv vars env) lo) λa=>bA (ur (rv vars env) hi) λb=>sl1 bg (rv vars env x) a b st λv=>K (v::env) bg σ:=by
 show rN L bg (ah σ) (rv vars env) (.qp x lo hi st) _=_;unfold rN;simp only;cases uq (rv vars env) lo with
 |none=>rfl
 |some a=>cases ur (rv vars env) hi with
  |none=>rfl
  |some b=>rfl
def aet{f:Nat}:cG L vars (.vC f args) ae env bg σ K=bA (cu (λx=>view σ ae vd (rv vars env x)) args) λvs=>LX L f vs [] λv dC =>bA (cK dC ad v) λu=>K (u::env) bg σ:=(rfl)
def aeu{f:Nat}:cG L vars (.vC f args) ad env bg σ K=bA (cu (λx=>view bg ae vd (rv vars env x)) args) λvs=>LX L f vs [] λv dC =>bA (cK dC ad v) λu=>K (u::env) bg σ:=(rfl)
def aev{f:Nat}:cG L vars (.can f args) ae env bg σ K=cc (aY (args.map (rv vars env))=ad) (LX L f (args.map (rv vars env)) [] λv dC =>K (iz (ah σ) v::env) σ (σ++dC.map (gl (ah σ)))):=(rfl)
def aew{k:Option Nat}:cG L vars (.xB x k) ae env bg σ K=cc (ah (rv vars env x).cells=ba k/\bW (rv vars env x)=ad) (K (.ptr (ah σ) (ba k) 0::env) σ (σ ++ [⟨k,(rv vars env x).cells,.live⟩])):=by
 show bA (ev L σ (ah σ) [] (rv vars env) (.xB x k)) _=_;simp only[ev,qI,eP,gX,bd,dA]
def aex{k:Option Nat}:cG L vars (.oz z k) ae env bg σ K=cc (ah z=ba k) (K (.ptr (ah σ) (ba k) 0::env) σ (σ ++ [⟨k,z,.live⟩])):=by
 show bA (ev L σ (ah σ) [] (rv vars env) (.oz z k)) _=_;simp only[ev,qI,eP,gX,dA]
def aey{n:Rf}{k:Option Nat}:cG L vars (.kG n c z k) ae env bg σ K=ii (rv vars env n) (rv vars env c) λn c=>cc (0<=n/\n<=c/\c<=eE/\ah z=ba k) (K (.sl (ah σ) (ah (fx c.toNat z)) 0 n.toNat::env) σ (σ ++ [⟨k,fx c.toNat z,.live⟩])):=(rfl)
def aez{k:Option Nat}:cG L vars (.oA ps k) ae env bg σ K=cc (fitAll (ba k) (ps.map (rv vars env))=ad) (K (.sl (ah σ) (ah ((ps.map (rv vars env)).flatMap AV.cells)) 0 (ah ps)::env) σ (σ ++ [⟨k,(ps.map (rv vars env)).flatMap AV.cells,.live⟩])):=by
 show bA (ev L σ (ah σ) [] (rv vars env) (.oA ps k)) _=_;simp only[ev,qI,eP,gX]
def aeA{k:Option Nat}:cG L vars (.nl k) ae env bg σ K=K (.sl (ah σ) 0 0 0::env) σ (σ ++ [⟨k,[],.jN⟩]):=(rfl)
def Zx (σ:aq) (s:AV) (k:Option Nat) (n:Nat) (cs:ao) (K:AV->aq->Prop):Prop:=match s with
 |.sl b u off len=>bA (upto σ b u) λB=>cc (off=0/\u=len*ba k/\len+n<=eE/\vD B.k k=ad) ((n=0->K (.sl b u off len) σ)/\(n ≠ 0->ah cs ≠ 0/\K (.sl b (u+ah cs) 0 (len+n)) (uD σ b cs)))
 |.aJ=>(n=0->K .aJ σ)/\(n ≠ 0->n<=eE/\K (.sl (ah σ) (ah cs) 0 n) (σ ++ [⟨k,cs,.live⟩]))
 |.emp=>(n=0->K .emp σ)/\(n ≠ 0->n<=eE/\K (.sl (ah σ) (ah cs) 0 n) (σ ++ [⟨k,cs,.live⟩]))
 |.arr l=>(n=0->K (if aY l then .aX ad l else .arr l) σ)/\(n ≠ 0->(fitAll (ba k) l=ad/\ah l+n<=eE)/\K (.sl (ah σ) (ah (l.flatMap AV.cells++cs)) 0 (ah l+n)) (σ ++ [⟨k,l.flatMap AV.cells++cs,.live⟩]))
 |_=>False
variable{b u len:Nat}{cs:ao}
def aeB{k:Option Nat}{K:AV->aq->Prop}:Zx σ (.sl b u off len) k n cs K=bA (upto σ b u) λB=>cc (off=0/\u=len*ba k/\len+n<=eE/\vD B.k k=ad) ((n=0->K (.sl b u off len) σ)/\(n ≠ 0->ah cs ≠ 0/\K (.sl b (u+ah cs) 0 (len+n)) (uD σ b cs))):=(rfl)
variable{s:Rf}
def aeC{k:Option Nat}:cG L vars (.app s x k) ae env bg σ K=bA (bw σ k (rv vars env x)) λp=>Zx σ (rv vars env s) k p.1 p.2 λv τ=>K (v::env) σ τ:=by
 show rN L σ (ah σ) (rv vars env) (.app s x k) _=_;unfold rN;simp only;cases bw σ k (rv vars env x)with
 |none=>rfl
 |some p=>
  obtain⟨n,cs⟩:=p;cases h:rv vars env s<;>rfl
def aeD:cG L vars (.st p x n) ae env bg σ K=st1 σ (rv vars env p) (rv vars env x) n λτ=>K (.aW::env) [] τ:=(rfl)
def Zy (σ:aq) (s:AV) (k:Option Nat) (n:Nat) (cs:ao) (K:AV->aq->Prop):Prop:=match s with
 |.sl b u off len=>bA (upto σ b u) λB=>cc (off=0/\len+n<=eE/\vD B.k k=ad/\(n ≠ 0->ah cs ≠ 0)) ((n=0->K (.sl b u off len) σ)/\(n ≠ 0->u=len*ba k->K (.sl b (u+ah cs) 0 (len+n)) (aV σ b ⟨B.k,B.cells++cs,.live⟩))/\(n ≠ 0->u ≠ len*ba k->(len+n)*ba k<=u/\K (.sl b u 0 (len+n)) (aV σ b ⟨B.k,putAt B.cells (len*ba k) cs,B.st⟩)))
 |.aJ=>(n=0->K .aJ σ)/\(n ≠ 0->n<=eE/\K (.sl (ah σ) (ah cs) 0 n) (σ ++ [⟨k,cs,.live⟩]))
 |.emp=>(n=0->K .emp σ)/\(n ≠ 0->n<=eE/\K (.sl (ah σ) (ah cs) 0 n) (σ ++ [⟨k,cs,.live⟩]))
 |.arr l=>(n=0->K (if aY l then .aX ad l else .arr l) σ)/\(n ≠ 0->(fitAll (ba k) l=ad/\ah l+n<=eE)/\K (.sl (ah σ) (ah (l.flatMap AV.cells++cs)) 0 (ah l+n)) (σ ++ [⟨k,l.flatMap AV.cells++cs,.live⟩]))
 |_=>False
def aeE{k:Option Nat}{K:AV->aq->Prop}:Zy σ (.sl b u off len) k n cs K=bA (upto σ b u) λB=>cc (off=0/\len+n<=eE/\vD B.k k=ad/\(n ≠ 0->ah cs ≠ 0)) ((n=0->K (.sl b u off len) σ)/\(n ≠ 0->u=len*ba k->K (.sl b (u+ah cs) 0 (len+n)) (aV σ b ⟨B.k,B.cells++cs,.live⟩))/\(n ≠ 0->u ≠ len*ba k->(len+n)*ba k<=u/\K (.sl b u 0 (len+n)) (aV σ b ⟨B.k,putAt B.cells (len*ba k) cs,B.st⟩))):=(rfl)
def aeF{k:Option Nat}:cG L vars (.dH s x k) ae env bg σ K=bA (bw σ k (rv vars env x)) λp=>Zy σ (rv vars env s) k p.1 p.2 λv τ=>K (v::env) [] τ:=by
 show Bl L σ (rv vars env) (.dH s x k) (λv dC =>K (v::env) [] dC)=_;unfold Bl;simp only;cases bw σ k (rv vars env x)with
 |none=>rfl
 |some p=>
  obtain⟨n,cs⟩:=p;cases h:rv vars env s<;>rfl
def aeG{f:Nat}:cG L vars (.gm f args) ae env bg σ K=LX L f (args.map (rv vars env)) σ λv τ=>K (v::env) [] τ:=(rfl)
def aeH:cG L vars (.mB x args) ae env bg σ K=Q3 (rv vars env x) λf a=>LX L f (args.map (rv vars env)++a) σ λv τ=>K (v::env) [] τ:=(rfl)
end
section
variable{L:CE}{vars env:ao}{bg σ:aq}{K:ao->aq->aq->Prop}
def aeI{x:Rf}:cG L vars (.mv x) ae env bg σ K=nx (rv vars env x) (λv=>K (v::env) bg σ) .k:=adX
def Q4{o:Dg}{x y:Rf}:cG L vars (.bin o x y) ae env bg σ K=nx (rv vars env x) (λx=>nx (rv vars env y) (λy=>ii x y λa b=>yZ o a b λv=>K (v::env) bg σ) .k) .k:=adY
def Q5{n:Bool}{x y:Rf}:cG L vars (.beq n x y) ae env bg σ K=nx (rv vars env x) (λx=>nx (rv vars env y) (λy=>bb x y λa b=>K (.bool ((a==b) != n)::env) bg σ) .k) .k:=adZ
def Q6{x:Rf}:cG L vars (.not x) ae env bg σ K=nx (rv vars env x) (λx=>b1 x λa=>K (.bool (!a)::env) bg σ) .k:=ad0
def pk (b:Bool) (x y:AV):AV:=match b with
 |true=>x
 |false=>y
def aeJ{x y:AV}:pk ad x y=x:=(rfl)
def aeK{x y:AV}:pk ae x y=y:=(rfl)
variable{b:Bool}
def aeL{x y:Int}:pk b (.int x) (.int y) = .int (if b=ad then x else y):=by cases b<;>rfl
def aeM{x y:Bool}:pk b (.bool x) (.bool y) = .bool (if b=ad then x else y):=by cases b<;>rfl
def pq (b:Bool) (x y:AV) (K:AV->Prop) (_:Tk K):Prop:=K (pk b x y)
def Q7{x y:AV}{K:AV->Prop}{t:Tk K}:pq ad x y K t=nx x K .k:=(rfl)
def Q8{x y:AV}{K:AV->Prop}{t:Tk K}:pq ae x y K t=nx y K .k:=(rfl)
def Q9{b:Bool}{x y:Int}{K:AV->Prop}{t:Tk K}:pq b (.int x) (.int y) K t=K (.int (if b=ad then x else y)):=by unfold pq;rw[aeL]
def Ra{b:Bool}{x y:Bool}{K:AV->Prop}{t:Tk K}:pq b (.bool x) (.bool y) K t=K (.bool (if b=ad then x else y)):=by unfold pq;rw[aeM]
def aeN{b:Bool}{x y:AV}{K:AV->Prop}{t:Tk K}:pq b x y K t=K (pk b x y):=(rfl)
def aeO{c x y:Rf}:cG L vars (.pick c x y) ae env bg σ K=nx (rv vars env c) (λc=>b1 c λa=>pq a (rv vars env x) (rv vars env y) (λv=>K (v::env) bg σ) .k) .k:=ad1
def Rb{x:Rf}:cG L vars (.len x) ae env bg σ K=nx (rv vars env x) (λx=>GK x λa=>K (.int a::env) bg σ) .k:=ad2
def Rc{x y:Rf}:cG L vars (.mx ad x y) ae env bg σ K=nx (rv vars env x) (λx=>nx (rv vars env y) (λy=>ii x y λa b=>K (.int (max a b)::env) bg σ) .k) .k:=ad3
def Re{x y:Rf}:cG L vars (.mx ae x y) ae env bg σ K=nx (rv vars env x) (λx=>nx (rv vars env y) (λy=>ii x y λa b=>K (.int (min a b)::env) bg σ) .k) .k:=ad4
def Rg{x:Rf}{off:Nat}{k:Option Nat}:cG L vars (.eu x off k) ae env bg σ K=nx (rv vars env x) (λx=>Q1 x off k λa=>K (a::env) bg σ) .k:=ad5
def Rh{x i:Rf}{st:Nat}:cG L vars (.cz x i st) ae env bg σ K=nx (rv vars env x) (λx=>nx (rv vars env i) (λi=>Zu x i st λv=>K (v::env) bg σ) .k) .k:=ad6
def aeP{x i:Rf}{n:Nat}{k:Option Nat}:cG L vars (.gy x i n k) ae env bg σ K=nx (rv vars env x) (λx=>nx (rv vars env i) (λi=>Zv x i n k λv=>K (v::env) bg σ) .k) .k:=ad7
def Ri{x:Rf}:cG L vars (.p7 x) ae env bg σ K=nx (rv vars env x) (λx=>Q2 x λa=>K (a::env) bg σ) .k:=ad8
def Rj{x:Rf}:cG L vars (.ig x) ae env bg σ K=nx (rv vars env x) (λx=>cc (bC x=ad) (K (.bN x::env) bg σ)) .k:=ad9
def Rk{p x:Rf}{n:Nat}:cG L vars (.kP p x n) ae env bg σ K=nx (rv vars env x) (λx=>cc (bC x=ad/\ah x.cells=n) (K (.bN x::env) bg σ)) .k:=aeb
def Rl{z:ao}{ps:List (Nat×Nat×Rf)}:cG L vars (.ju z ps) ae env bg σ K=oK (iV z (iX (λp=>(p.1,p.2.1,rv vars env p.2.2)) ps)) (λl=>nL l (λl=>K (.agg l::env) bg σ) .k) .k:=by rw[<-jy];exact aec
def Rm{x:Rf}{i:Nat}:cG L vars (.ext x i) ae env bg σ K=nx (rv vars env x) (λx=>Zt x i λa=>nx a (λa=>K (a::env) bg σ) .k) .k:=aed
def Rn{f:Nat}{cs:List Rf}:cG L vars (.D4 f cs) ae env bg σ K=nL (iX (rv vars env) cs) (λl=>K (.func f l::env) bg σ) .k:=by rw[<-jy];exact aee
def Ro{t:Nat}{x:Rf}:cG L vars (.NP t x) ae env bg σ K=nx (rv vars env x) (λx=>K (.iface t x::env) bg σ) .k:=aef
def aeQ{ps:List Rf}{st:Nat}:cG L vars (.cq ps st) ae env bg σ K=nL (iX (rv vars env) ps) (λl=>cc (aY l=ad/\fitAll st l=ad) (K (.aX ae l::env) bg σ)) .k:=by rw[<-jy];exact aeg
def aeR{ps:List Rf}{st:Nat}:cG L vars (.dV ps st) ae env bg σ K=nL (iX (rv vars env) ps) (λl=>cc (fitAll st l=ad) (K (.arr l::env) bg σ)) .k:=by rw[<-jy];exact aeh
def cl (L:CE) (f:Nat) (args:ao) (K:AV->Prop) (_:Tk K):Prop:=tq L f args K
def Rp{f:Nat}{args:ao}{K:AV->Prop}{t:Tk K}:cl L f args K t=(aY args=ad/\nL (iX wk args) (λas=>oK (Aj L f as) (λv=>nx v K .k) .k) .k):=by rw[<-jy];rfl
def Rq{f:Nat}{args:List Rf}:cG L vars (.ml f args) ae env bg σ K=nL (iX (rv vars env) args) (λas=>cl L f as (λv=>K (v::env) bg σ) .k) .k:=by rw[<-jy];exact aei
def aeS{x:Rf}{args:List Rf}:cG L vars (.mX x args) ae env bg σ K=nx (rv vars env x) (λx=>Q3 x λf a=>nL (iC (iX (rv vars env) args) a) (λas=>cl L f as (λv=>K (v::env) bg σ) .k) .k) .k:=by unfold nx nL cl;simp only[<-jy,<-jt];exact aej
def Rr{x:Rf}{a:List (Nat×Nat)}{args:List Rf}:cG L vars (.inv x a args) ae env bg σ K=nx (rv vars env x) (λx=>Zw x a λf v=>nL (v::iX (rv vars env) args) (λas=>cl L f as (λv=>K (v::env) bg σ) .k) .k) .k:=by unfold nx nL cl;simp only[<-jy];exact aek
def Rs{n:Bool}{x:Rf}:cG L vars (.pI n x) ae env bg σ K=nx (rv vars env x) (λx=>ub σ x λa=>K (.bool (a != n)::env) bg σ) .k:=ael
def aeT{n:Bool}{x:Rf}:cG L vars (.pI n x) ad env bg σ K=nx (rv vars env x) (λx=>ub bg x λa=>K (.bool (a != n)::env) bg σ) .k:=aem
def Rt{x:Rf}{k:Option Nat}:cG L vars (.ew x k) ae env bg σ K=nx (rv vars env x) (λx=>ua x k λa=>K (a::env) bg σ) .k:=aen
def Ru (σ:aq) (x:AV) (k:Option Nat) (K:AV->Prop):Prop:=match x with
 |.bN v=>nx v (λv=>ua (.bN v) k K) .k
 |.ptr b u o=>bk (aQ σ b) u (λ_ cs st=>st.isLive=ad/\pT cs o k (λv=>nx v K .k) .k) .k
 |_=>False
def aeU{v:AV}{k:Option Nat}{K:AV->Prop}:Ru σ (.bN v) k K=nx v (λv=>ua (.bN v) k K) .k:=(rfl)
def aeV{b u o:Nat}{k:Option Nat}{K:AV->Prop}:Ru σ (.ptr b u o) k K=bk (aQ σ b) u (λ_ cs st=>st.isLive=ad/\pT cs o k (λv=>nx v K .k) .k) .k:=(rfl)
variable{x:AV}
theorem Rv{σ:aq}{k:Option Nat}{K:AV->Prop}:ld1 σ x k K=Ru σ x k K:=by
 cases x with
 |ptr b u o=>exact wH
 |_=>rfl
def aeW{x:Rf}{k:Option Nat}:cG L vars (.ld x k) ae env bg σ K=nx (rv vars env x) (λx=>Ru σ x k λa=>K (a::env) bg σ) .k:=by unfold nx;simp only[<-Rv];exact aeo
def Rw{x:Rf}{k:Option Nat}:cG L vars (.ld x k) ad env bg σ K=nx (rv vars env x) (λx=>Ru bg x k λa=>K (a::env) bg σ) .k:=by unfold nx;simp only[<-Rv];exact aep
def Rx{x:Rf}:cG L vars (.Gy x) ae env bg σ K=nx (rv vars env x) (λx=>i1 x λn=>rM n λv=>K (v::env) bg σ) .k:=aeq
def Ry (σ:aq) (x:AV) (a:Int) (b:Option Int) (st:Nat) (K:AV->Prop):Prop:=match x with
 |.aX e l=>cc ((0<=a/\a<=b.getD (ah l)/\b.getD (ah l)<=ah l)/\eL st l=ad) (nC ((l.drop a.toNat).take ((b.getD (ah l)).toNat-a.toNat)) (λg =>K (.aX (e&&decide (0<ah l)) g)) .k)
 |.sl d u off len=>bk (aQ σ d) u (λk _ _=>cc ((0<=a/\a<=b.getD len/\b.getD len<=len)/\ba k=st) (K (.sl d u (off+a.toNat*st) ((b.getD len).toNat-a.toNat)))) .k
 |_=>False
def aeX{nn:Bool}{l:ao}{a:Int}{b:Option Int}{st:Nat}{K:AV->Prop}:Ry σ (.aX nn l) a b st K=cc ((0<=a/\a<=b.getD (ah l)/\b.getD (ah l)<=ah l)/\eL st l=ad) (nC ((l.drop a.toNat).take ((b.getD (ah l)).toNat-a.toNat)) (λl' =>K (.aX (nn&&decide (0<ah l)) l')) .k):=(rfl)
def aeY{d u off len:Nat}{a:Int}{b:Option Int}{st:Nat}{K:AV->Prop}:Ry σ (.sl d u off len) a b st K=bk (aQ σ d) u (λk _ _=>cc ((0<=a/\a<=b.getD len/\b.getD len<=len)/\ba k=st) (K (.sl d u (off+a.toNat*st) ((b.getD len).toNat-a.toNat)))) .k:=(rfl)
theorem Rz{σ:aq}{a:Int}{b:Option Int}{st:Nat}{K:AV->Prop}:sl1 σ x a b st K=Ry σ x a b st K:=by
 cases x with
 |sl b u o n=>exact wH
 |_=>rfl
def IB:ao->ao->(Bool->Prop)->Prop
 | [],[],K=>K ad
 |.int a::xs,.int b::ys,K=>IB xs ys λc=>K (decide (a=b)&&c)
 |_,_,_=>False
def aeZ{K:Bool->Prop}:IB [] [] K=K ad:=(rfl)
def RA{a b:Int}{xs ys:ao}{K:Bool->Prop}:IB (.int a::xs) (.int b::ys) K=IB xs ys λc=>K (decide (a=b)&&c):=(rfl)
def ae0:∀{xs ys:ao}{K:Bool->Prop},bA (fV xs ys) K=IB xs ys K:=by
 intro xs
 induction xs with
 |nil=>intro ys K;cases ys<;>rfl
 |cons x xs d=>
  intro ys K;cases ys with
  |nil=>cases x<;>rfl
  |cons y ys=>
   cases x<;>try rfl
   cases y<;>try rfl
   rename_i a b;rw[RA,<-d];simp only[fV];cases fV xs ys<;>rfl
def sq1 (n:Nat) (x y:AV) (K:Bool->Prop):Prop:=match x,y with
 |.agg xs,.agg a=>ah xs=n/\IB xs a K
 |_,_=>False
def RB{n:Nat}{xs ys:ao}{K:Bool->Prop}:sq1 n (.agg xs) (.agg ys) K=(ah xs=n/\IB xs ys K):=(rfl)
def RD{g:Bool}{n:Nat}{x y:Rf}:cG L vars (.seq g n x y) ae env bg σ K=nx (rv vars env x) (λx=>nx (rv vars env y) (λy=>sq1 n x y λb=>K (.bool (b != g)::env) bg σ) .k) .k:=by
 show bA (ev L σ (ah σ) [] (rv vars env) (.seq g n x y)) _=_;simp only[nx];generalize d:rv vars env x=p;generalize e:rv vars env y=q;simp only[ev,d,e];cases p<;>try rfl
 cases q<;>try rfl
 rename_i xs i;rw[RB,<-ae0]
 by_cases a:ah xs=n
 .simp only[aD a,a,true_and]
  cases fV xs i<;>rfl
 .simp only[aC a]
  exact propext ⟨λh=>h.elim,λh=>a h.1⟩
def mp (o:Option aO) (K:Option Nat->ao->List (AV×AV)->Prop) (_:Tk K):Prop:=match o with
 |some ⟨k,cs,.map es⟩=>ah cs=0/\K k cs es
 |_=>False
def ae1{k:Option Nat}{cs:ao}{es:List (AV×AV)}{K:Option Nat->ao->List (AV×AV)->Prop}{t:Tk K}:mp (aa ⟨k,cs,.map es⟩) K t=(ah cs=0/\K k cs es):=(rfl)
theorem GM{σ:aq}{b:Nat}{K:List (AV×AV)->Prop}:bA (fM σ b) K=mp (aQ σ b) (λ_ _ es=>K es) .k:=by
 unfold mp fM;cases aQ σ b with
 |none=>rfl
 |some B=>
  obtain⟨k,cs,st⟩:=B;cases st with
  |map es=>
   by_cases h:ah cs=0
   .simp[h,bA]
   .simp[h,bA]
  |_=>rfl
def ID (z:AV) (ok:Bool):Option AV->AV
 |some v=>if ok then .bY [v,.bool ad]else v
 |none=>if ok then .bY [z,.bool ae]else z
theorem ae2{z v:AV}:ID z ae (aa v)=v:=rfl
theorem ae3{z:AV}:ID z ae ab=z:=rfl
theorem ae4{z v:AV}:ID z ad (aa v) = .bY [v,.bool ad]:=rfl
theorem ae5{z:AV}:ID z ad ab = .bY [z,.bool ae]:=rfl
def RE (σ:aq) (x:AV) (a:Nat) (k z:AV) (ok:Bool) (K:AV->Prop):Prop:=match x with
 |.cZ b=>bA (fM σ b) λes=>cc (bP a k=ad) (oK (dg es k) (λo=>nx (ID z ok o) K .k) .k)
 |_=>False
def ae6{σ:aq}{b a:Nat}{k z:AV}{ok:Bool}{K:AV->Prop}:RE σ (.cZ b) a k z ok K=mp (aQ σ b) (λ_ _ es=>cc (bP a k=ad) (oK (dg es k) (λo=>nx (ID z ok o) K .k) .k)) .k:=GM
def RF{x k:Rf}{a:Nat}{z:AV}{ok:Bool}:cG L vars (.xG x a k z ok) ae env bg σ K=nx (rv vars env x) (λx=>nx (rv vars env k) (λk=>RE σ x a k z ok λv=>K (v::env) bg σ) .k) .k:=by
 show bA (ev L σ (ah σ) [] (rv vars env) (.xG x a k z ok)) _=_;simp only[nx];generalize d:rv vars env x=p;generalize e:rv vars env k=q;simp only[ev,d,e];cases p<;>try rfl
 simp only[RE];cases fM σ _ with
 |none=>rfl
 |some es=>
  simp only[Bg,cc]
  by_cases b:bP a q=ad
  .simp only[aD b,b,true_and]
   cases dg es q with
   |none=>rfl
   |some o=>cases o<;>rfl
  .simp only[aC b]
   exact propext ⟨λh=>h.elim,λh=>b h.1⟩
def ae7{x k:Rf}{a:Nat}{z:AV}{ok:Bool}:cG L vars (.xG x a k z ok) ad env bg σ K=nx (rv vars env x) (λx=>nx (rv vars env k) (λk=>RE bg x a k z ok λv=>K (v::env) bg σ) .k) .k:=by
 show bA (ev L bg (ah σ) [] (rv vars env) (.xG x a k z ok)) _=_;simp only[nx];generalize d:rv vars env x=p;generalize e:rv vars env k=q;simp only[ev,d,e];cases p<;>try rfl
 simp only[RE];cases fM bg _ with
 |none=>rfl
 |some es=>
  simp only[Bg,cc]
  by_cases b:bP a q=ad
  .simp only[aD b,b,true_and]
   cases dg es q with
   |none=>rfl
   |some o=>cases o<;>rfl
  .simp only[aC b]
   exact propext ⟨λh=>h.elim,λh=>b h.1⟩
def RH (σ:aq) (x:AV) (K:Int->Prop):Prop:=match x with
 |.cZ b=>bA (fM σ b) λes=>K (ah es)
 |_=>False
def ae8{σ:aq}{b:Nat}{K:Int->Prop}:RH σ (.cZ b) K=mp (aQ σ b) (λ_ _ es=>K (ah es)) .k:=GM
def RI{x:Rf}:cG L vars (.De x) ae env bg σ K=nx (rv vars env x) (λx=>RH σ x λn=>K (.int n::env) bg σ) .k:=by
 show bA (ev L σ (ah σ) [] (rv vars env) (.De x)) _=_;simp only[nx];generalize a:rv vars env x=p;simp only[ev,a];cases p<;>try rfl
 simp only[RH];cases fM σ _<;>rfl
def ae9{x:Rf}:cG L vars (.De x) ad env bg σ K=nx (rv vars env x) (λx=>RH bg x λn=>K (.int n::env) bg σ) .k:=by
 show bA (ev L bg (ah σ) [] (rv vars env) (.De x)) _=_;simp only[nx];generalize a:rv vars env x=p;simp only[ev,a];cases p<;>try rfl
 simp only[RH];cases fM bg _<;>rfl
def RJ:cG L vars .Az ae env bg σ K=nB (iC σ [⟨aa 0,[],.map []⟩]) (λτ=>K (.cZ (ah σ)::env) σ τ) .k:=by rw[<-jt];rfl
def mu1 (σ:aq) (m:AV) (a:Nat) (k x:AV) (K:aq->Prop):Prop:=match m with
 |.cZ b=>mp (aQ σ b) (λd cs es=>cc (bP a k=ad/\bC x=ad) (oK (dg es k) (λo=>o=ab/\nB (aV σ b ⟨d,cs,.map (es ++ [(k,x)])⟩) K .k) .k)) .k
 |_=>False
theorem afa{σ:aq}{b a:Nat}{k x:AV}{K:aq->Prop}:mu1 σ (.cZ b) a k x K=mp (aQ σ b) (λd cs es=>cc (bP a k=ad/\bC x=ad) (oK (dg es k) (λo=>o=ab/\nB (aV σ b ⟨d,cs,.map (es ++ [(k,x)])⟩) K .k) .k)) .k:=rfl
def RK{m k x:Rf}{a:Nat}:cG L vars (.xE m a k x) ae env bg σ K=nx (rv vars env m) (λm=>nx (rv vars env k) (λk=>nx (rv vars env x) (λx=>mu1 σ m a k x λτ=>K (.aW::env) [] τ) .k) .k) .k:=by
 show bA (gS L σ (rv vars env) (.xE m a k x)) _=_;simp only[nx];generalize g:rv vars env m=p;generalize i:rv vars env k=q;generalize j:rv vars env x=r;simp only[gS,g,i,j];cases p<;>try rfl
 rename_i b;simp only[mu1,mp,fM,qo];cases n:aQ σ b with
 |none=>rfl
 |some B=>
  obtain⟨s,cs,st⟩:=B;cases st<;>try rfl
  rename_i es
  by_cases e:ah cs=0
  .by_cases d:bP a q=ad/\bC r=ad
   .simp only[e,d.1,d.2,cc,true_and,mF,dM,Bool.and_self]
    cases dg es q with
    |none=>exact propext ⟨λh=>h.elim,λh=>h.elim⟩
    |some o=>cases o with
     |none=>exact propext ⟨λh=>⟨rfl,h⟩,λh=>h.2⟩
     |some y=>exact propext ⟨λh=>h.elim,λh=>by have:=h.1;simp at this⟩
   .have l : ¬(bP a q&&bC r)=ad:=λh=>d du
    simp only[e,mF,dM,aC l, cc];exact propext ⟨λh=>h.elim,λh=>d h.2.1⟩
  .simp only[e,dA,fv,false_and]
   rfl
@[reducible] def RL (x:Option AV):Option Int:=match x with
 |none=>aa 0
 |some (.int n)=>aa n
 |some _=>ab
@[reducible] def RM (x:Option AV):Option (Option Int):=match x with
 |none=>aa ab
 |some (.int n)=>aa (aa n)
 |some _=>ab
@[reducible] def Dl (f:Rf->AV):Option Rf->Option AV
 |none=>ab
 |some x=>aa (f x)
variable{r:Rf->AV}{o:Option Rf}
def IE:uq r o=RL (Dl r o):=by
 cases o with
 |none=>rfl
 |some y=>simp only[uq,RL,Dl];cases r y<;>rfl
def IF:ur r o=RM (Dl r o):=by
 cases o with
 |none=>rfl
 |some y=>simp only[ur,RM,Dl];cases r y<;>rfl
def RN{x:Rf}{d e:Option Rf}{st:Nat}:cG L vars (.qp x d e st) ae env bg σ K=oK (RL (Dl (rv vars env) d)) (λa=>oK (RM (Dl (rv vars env) e)) (λb=>nx (rv vars env x) (λx=>Ry σ x a b st λv=>K (v::env) bg σ) .k) .k) .k:=by unfold oK nx;simp only[<-IE,<-IF,<-Rz];exact aer
def afb{x:Rf}{d e:Option Rf}{st:Nat}:cG L vars (.qp x d e st) ad env bg σ K=oK (RL (Dl (rv vars env) d)) (λa=>oK (RM (Dl (rv vars env) e)) (λb=>nx (rv vars env x) (λx=>Ry bg x a b st λv=>K (v::env) bg σ) .k) .k) .k:=by unfold oK nx;simp only[<-IE,<-IF,<-Rz];exact aes
def IG{a b d:Type}{f:b->Option d}{g:a->b}:∀{l:List a},cu (λx=>f (g x)) l=cu f (iX g l)
 | []=>rfl
 |x::r=>by simp only[cu,iX];rw[IG (l:=r)]
def RO{f:Nat}{args:List Rf}:cG L vars (.vC f args) ae env bg σ K=nL (iX (rv vars env) args) (λas=>oK (cu (view σ ae vd) as) (λvs=>lX L f vs [] (λv dC =>oK (cK dC ad v) (λu=>K (u::env) bg σ) .k) .k) .k) .k:=by unfold nL;dsimp only;rw[<-IG];exact aet
def afc{f:Nat}{args:List Rf}:cG L vars (.vC f args) ad env bg σ K=nL (iX (rv vars env) args) (λas=>oK (cu (view bg ae vd) as) (λvs=>lX L f vs [] (λv dC =>oK (cK dC ad v) (λu=>K (u::env) bg σ) .k) .k) .k) .k:=by unfold nL;dsimp only;rw[<-IG];exact aeu
def RP{f:Nat}{args:List Rf}:cG L vars (.can f args) ae env bg σ K=nL (iX (rv vars env) args) (λas=>cc (aY as=ad) (lX L f as [] (λv dC =>nx (iz (ah σ) v) (λv=>nB (σ++dC.map (gl (ah σ))) (λτ=>K (v::env) σ τ) .k) .k) .k)) .k:=by rw[<-jy];exact aev
def RQ{x:Rf}{k:Option Nat}:cG L vars (.xB x k) ae env bg σ K=nx (rv vars env x) (λx=>cc (ah x.cells=ba k/\bW x=ad) (nB (iC σ [⟨k,x.cells,.live⟩]) (λτ=>K (.ptr (ah σ) (ba k) 0::env) σ τ) .k)) .k:=by unfold nx nB;simp only[<-jt];exact aew
def RR{z:ao}{k:Option Nat}:cG L vars (.oz z k) ae env bg σ K=cc (ah z=ba k) (nB (iC σ [⟨k,z,.live⟩]) (λτ=>K (.ptr (ah σ) (ba k) 0::env) σ τ) .k):=by rw[<-jt];exact aex
def RS{n c:Rf}{z:ao}{k:Option Nat}:cG L vars (.kG n c z k) ae env bg σ K=nx (rv vars env n) (λn=>nx (rv vars env c) (λc=>ii n c λn c=>cc (0<=n/\n<=c/\c<=eE/\ah z=ba k) (nC (fx c.toNat z) (λcs=>nB (iC σ [⟨k,cs,.live⟩]) (λτ=>K (.sl (ah σ) (ah cs) 0 n.toNat::env) σ τ) .k) .k)) .k) .k:=by
 unfold nx nC nB;simp only[<-jt];exact aey
@[reducible] def ts:ao->ao
 | []=>[]
 |x::r=>iC x.cells (ts r)
def uK:∀l:ao,l.flatMap AV.cells=ts l
 | []=>rfl
 |x::r=>by simp only[jD,ts,uK r,jt]
def afd{ps:List Rf}{k:Option Nat}:cG L vars (.oA ps k) ae env bg σ K=nL (iX (rv vars env) ps) (λl=>cc (fitAll (ba k) l=ad) (nC (ts l) (λcs=>nB (iC σ [⟨k,cs,.live⟩]) (λτ=>K (.sl (ah σ) (ah cs) 0 (ah ps)::env) σ τ) .k) .k)) .k:=by
 unfold nL nC nB;simp only[<-jt,<-jy,<-uK];exact aez
def afe{k:Option Nat}:cG L vars (.nl k) ae env bg σ K=nB (iC σ [⟨k,[],.jN⟩]) (λτ=>K (.sl (ah σ) 0 0 0::env) σ τ) .k:=by rw[<-jt];exact aeA
def src (σ:aq) (k:Option Nat) (x:AV) (K:Nat->ao->Prop) (_:Tk K):Prop:=bA (bw σ k x) λp=>K p.1 p.2
def aff{k:Option Nat}{K:Nat->ao->Prop}{t:Tk K}:src σ k .aJ K t=K 0 []:=(rfl)
def afg{k:Option Nat}{q:Bool}{l:ao}{K:Nat->ao->Prop}{t:Tk K}:src σ k (.aX q l) K t=cc (fitAll (ba k) l=ad) (nC (l.flatMap AV.cells) (λcs=>K (ah l) cs) .k):=by
 unfold src bw;by_cases h:fitAll (ba k) l=ad<;>simp[h,bA,cc,nC]
def afh{k:Option Nat}{K:Nat->ao->Prop}{t:Tk K}:src σ k .emp K t=K 0 []:=(rfl)
def afi{k:Option Nat}{l:ao}{K:Nat->ao->Prop}{t:Tk K}:src σ k (.arr l) K t=cc (fitAll (ba k) l=ad) (nL (ts l) (λcs=>K (ah l) cs) .k):=by
 rw[<-uK];unfold src bw;by_cases h:fitAll (ba k) l=ad<;>simp[h,bA,cc,nL]
def afj{k:Option Nat}{b u off len:Nat}{K:Nat->ao->Prop}{t:Tk K}:src σ k (.sl b u off len) K t=bk (aQ σ b) u (λa cs _=>cc (off+len*ba k<=ah cs/\ba a = ba k) (nC ((cs.drop off).take (len*ba k)) (λcs=>K len cs) .k)) .k:=by
 rw[<-wH (K:=λB=>cc (off+len*ba k<=ah B.cells/\ba B.k=ba k) (nC ((B.cells.drop off).take (len*ba k)) (λcs=>K len cs) .k))];unfold src bw;simp only;cases upto σ b u with
 |none=>rfl
 |some B=>by_cases h:off+len*ba k<=ah B.cells/\ba B.k=ba k<;>simp[h,bA,cc,nC]
def ap (σ:aq) (s:AV) (k:Option Nat) (n:Nat) (cs:ao) (K:AV->aq->Prop) (_:Tk K):Prop:=Zx σ s k n cs K
def nz (n:Nat) (A B:Prop) (_:Tk A) (_:Tk B):Prop:=(n=0->A)/\(n ≠ 0->B)
def RT{A B:Prop}{t:Tk A}{u:Tk B}:nz 0 A B t u=A:=by simp[nz]
def RU{A B:Prop}{t:Tk A}{u:Tk B}:nz 1 A B t u=B:=by simp[nz]
def RV{n:Nat}{A B:Prop}{t:Tk A}{u:Tk B}:nz (n+1) A B t u=B:=by simp[nz]
def afk{n:Nat}{A B:Prop}{t:Tk A}{u:Tk B}:nz n A B t u=(im (n=0) A .k/\im (n ≠ 0) B .k):=(rfl)
def RX{b u off len:Nat}{k:Option Nat}{n:Nat}{cs:ao}{K:AV->aq->Prop}{t:Tk K}:ap σ (.sl b u off len) k n cs K t=bk (aQ σ b) u (λd a st=>cc (off=0/\u=len*ba k/\len+n<=eE/\vD d k=ad) (nz n (K (.sl b u off len) σ) (ah cs ≠ 0/\nC (a ++ cs) (λc=>nB (aV σ b ⟨d, c,.live⟩) (λτ=>K (.sl b (ah c) 0 (len+n)) τ) .k) .k) .k .k)) .k:=by
 show Zx σ (.sl b u off len) k n cs K=_;rw[aeB,wH];cases h:aQ σ b with
 |none=>rfl
 |some B=>
  obtain⟨d, a, st⟩:=B;simp only[bk,nz,nC,nB,cc,uD,h,bM];apply propext;constructor
  .rintro⟨⟨rfl,e⟩,g,i,j⟩;exact⟨⟨rfl,e⟩,g,i,j⟩
  .rintro⟨⟨rfl,e⟩,g,i,j⟩;exact⟨⟨rfl,e⟩,g,i,j⟩
def afl{k:Option Nat}{n:Nat}{cs:ao}{K:AV->aq->Prop}{t:Tk K}:ap σ .aJ k n cs K t=nz n (K .aJ σ) (n<=eE/\nB (iC σ [⟨k,cs,.live⟩]) (λτ=>K (.sl (ah σ) (ah cs) 0 n) τ) .k) .k .k:=sW
def afm{k:Option Nat}{n:Nat}{cs:ao}{K:AV->aq->Prop}{t:Tk K}:ap σ .emp k n cs K t=nz n (K .emp σ) (n<=eE/\nB (iC σ [⟨k,cs,.live⟩]) (λτ=>K (.sl (ah σ) (ah cs) 0 n) τ) .k) .k .k:=sW
def afn{l:ao}{k:Option Nat}{n:Nat}{cs:ao}{K:AV->aq->Prop}{t:Tk K}:ap σ (.arr l) k n cs K t=nz n (K (if aY l then .aX ad l else .arr l) σ) ((fitAll (ba k) l=ad/\ah l+n<=eE)/\nC (iC (ts l) cs) (λc=>nB (iC σ [⟨k,c,.live⟩]) (λτ=>K (.sl (ah σ) (ah c) 0 (ah l+n)) τ) .k) .k) .k .k:=by
 unfold nz nC nB;simp only[<-jt,<-uK];rfl
def RY{s x:Rf}{k:Option Nat}:cG L vars (.app s x k) ae env bg σ K=nx (rv vars env x) (λx=>src σ k x (λn cs=>nx (rv vars env s) (λs=>ap σ s k n cs (λv τ=>K (v::env) σ τ) .k) .k) .k) .k:=aeC
def afo{p x:Rf}{n:Nat}:cG L vars (.st p x n) ae env bg σ K=nx (rv vars env p) (λp=>nx (rv vars env x) (λx=>st1 σ p x n λτ=>K (.aW::env) [] τ) .k) .k:=aeD
def aw (σ:aq) (s:AV) (k:Option Nat) (n:Nat) (cs:ao) (K:AV->aq->Prop) (_:Tk K):Prop:=Zy σ s k n cs K
def RZ{b u off len:Nat}{k:Option Nat}{n:Nat}{cs:ao}{K:AV->aq->Prop}{t:Tk K}:aw σ (.sl b u off len) k n cs K t=bk (aQ σ b) u (λe a st=>cc (off=0/\len+n<=eE/\vD e k=ad/\(n ≠ 0->ah cs ≠ 0)) (nz n (K (.sl b u off len) σ) (gT (decide (u=len*ba k)) (nC (a ++ cs) (λc=>nB (aV σ b ⟨e, c,.live⟩) (λτ=>K (.sl b (ah c) 0 (len+n)) τ) .k) .k) ((len+n)*ba k<=u/\nC (putAt a (len*ba k) cs) (λc=>nB (aV σ b ⟨e, c,st⟩) (λτ=>K (.sl b u 0 (len+n)) τ) .k) .k) .k .k) .k .k)) .k:=by
 show Zy σ (.sl b u off len) k n cs K=_;rw[aeE,wH];cases h:aQ σ b with
 |none=>rfl
 |some B=>
  obtain⟨e, a, st⟩:=B;simp only[bk,nz,nC,nB,cc,bM,IA,im];apply propext;constructor
  .rintro⟨⟨rfl,i⟩,j,l,g,m⟩;exact⟨⟨rfl,i⟩,j,l,λd=>⟨g d,m d⟩⟩
  .rintro⟨⟨rfl,i⟩,j,l,g⟩;exact⟨⟨rfl,i⟩,j,l,λd=>(g d).1,λd=>(g d).2⟩
def afp{k:Option Nat}{n:Nat}{cs:ao}{K:AV->aq->Prop}{t:Tk K}:aw σ .aJ k n cs K t=nz n (K .aJ σ) (n<=eE/\nB (iC σ [⟨k,cs,.live⟩]) (λτ=>K (.sl (ah σ) (ah cs) 0 n) τ) .k) .k .k:=sW
def afq{k:Option Nat}{n:Nat}{cs:ao}{K:AV->aq->Prop}{t:Tk K}:aw σ .emp k n cs K t=nz n (K .emp σ) (n<=eE/\nB (iC σ [⟨k,cs,.live⟩]) (λτ=>K (.sl (ah σ) (ah cs) 0 n) τ) .k) .k .k:=sW
def afr{l:ao}{k:Option Nat}{n:Nat}{cs:ao}{K:AV->aq->Prop}{t:Tk K}:aw σ (.arr l) k n cs K t=nz n (K (if aY l then .aX ad l else .arr l) σ) ((fitAll (ba k) l=ad/\ah l+n<=eE)/\nC (iC (ts l) cs) (λc=>nB (iC σ [⟨k,c,.live⟩]) (λτ=>K (.sl (ah σ) (ah c) 0 (ah l+n)) τ) .k) .k) .k .k:=by
 unfold nz nC nB;simp only[<-jt,<-uK];rfl
def afs{s x:Rf}{k:Option Nat}:cG L vars (.dH s x k) ae env bg σ K=nx (rv vars env x) (λx=>src σ k x (λn cs=>nx (rv vars env s) (λs=>aw σ s k n cs (λv τ=>K (v::env) [] τ) .k) .k) .k) .k:=aeF
def c81 (x:AV) (K:AV->Prop):Prop:=match x with
 |.int n=>cc (0<=n/\n<=255) (K (.ik 4 n))
 |_=>False
def pK{n:Int}{K:AV->Prop}:c81 (.int n) K=cc (0<=n/\n<=255) (K (.ik 4 n)):=(rfl)
def R0{x:Rf}:cG L vars (.NM x) ae env bg σ K=nx (rv vars env x) (λx=>c81 x λv=>K (v::env) bg σ) .k:=by
 show bA (ev L σ (ah σ) [] (rv vars env) (.NM x)) _=_;simp only[nx];generalize a:rv vars env x=p;simp only[ev,a];cases p<;>try rfl
 rename_i n;rw[pK];simp only[qI];rfl
def R1{x:Rf}:cG L vars (.DR x) ae env bg σ K=nx (rv vars env x) (λx=>src σ ab x (λ_ cs=>bA (bytesOf cs) λs=>K (.str s::env) bg σ) .k) .k:=by
 show bA (ev L σ (ah σ) [] (rv vars env) (.DR x)) _=_;simp only[nx,src];generalize a:rv vars env x=p;simp only[ev,a];cases bw σ ab p with
 |none=>rfl
 |some q=>
  obtain⟨n,cs⟩:=q;simp only[Bg];cases bytesOf cs<;>rfl
def ik1 (x y:AV) (K:Bool->Prop):Prop:=match x,y with
 |.ik k a,.ik j b=>cc (k=j) (K (a==b))
 |_,_=>False
def R2{k j:Nat}{a b:Int}{K:Bool->Prop}:ik1 (.ik k a) (.ik j b) K=cc (k=j) (K (a==b)):=(rfl)
def R3{g:Bool}{x y:Rf}:cG L vars (.NO g x y) ae env bg σ K=nx (rv vars env x) (λx=>nx (rv vars env y) (λy=>ik1 x y λb=>K (.bool (b != g)::env) bg σ) .k) .k:=by
 show bA (ev L σ (ah σ) [] (rv vars env) (.NO g x y)) _=_;simp only[nx];generalize a:rv vars env x=p;generalize d:rv vars env y=q;simp only[ev,a,d];cases p<;>try rfl
 cases q<;>try rfl
 rw[R2];simp only[qI];rfl
def si2 (x:AV) (a:Int) (b:Option Int) (st:Nat) (K:AV->Prop):Prop:=match x with
 |.aX d l=>cc ((0<=a/\a<=b.getD (ah l)/\b.getD (ah l)<=ah l)/\eL st l=ad) (nC ((l.drop a.toNat).take ((b.getD (ah l)).toNat-a.toNat)) (λe =>K (.aX (d&&decide (0<ah l)) e)) .k)
 |_=>False
def R4{nn:Bool}{l:ao}{a:Int}{b:Option Int}{st:Nat}{K:AV->Prop}:si2 (.aX nn l) a b st K=cc ((0<=a/\a<=b.getD (ah l)/\b.getD (ah l)<=ah l)/\eL st l=ad) (nC ((l.drop a.toNat).take ((b.getD (ah l)).toNat-a.toNat)) (λl' =>K (.aX (nn&&decide (0<ah l)) l')) .k):=(rfl)
def R5{x:Rf}{d e:Option Rf}{st:Nat}:cG L vars (.NK x d e st) ae env bg σ K=oK (RL (Dl (rv vars env) d)) (λa=>oK (RM (Dl (rv vars env) e)) (λb=>nx (rv vars env x) (λx=>si2 x a b st λv=>K (v::env) bg σ) .k) .k) .k:=by
 show bA (ev L σ (ah σ) [] (rv vars env) (.NK x d e st)) _=_;unfold oK;simp only[<-IE,<-IF];simp only[ev];cases uq (rv vars env) d with
 |none=>rfl
 |some a=>
  cases ur (rv vars env) e with
  |none=>rfl
  |some b=>
   simp only[Bg,nx];generalize rv vars env x=p;cases p<;>try rfl
   rename_i i l;rw[R4]
   by_cases g:(0<=a/\a<=b.getD (ah l:Int)/\b.getD (ah l:Int)<=(ah l:Int))/\eL st l=ad
   .show bA (if(0<=a/\a<=b.getD (ah l:Int)/\b.getD (ah l:Int)<=(ah l:Int))/\eL st l=ad then aa (AV.aX (i&&decide (0<ah l)) ((l.drop a.toNat).take ((b.getD (ah l:Int)).toNat-a.toNat)),(ab:Option dd))else ab) _=_
    rw[aD g];exact(propext ⟨λh=>⟨g,h⟩,λh=>h.2⟩)
   .show bA (if(0<=a/\a<=b.getD (ah l:Int)/\b.getD (ah l:Int)<=(ah l:Int))/\eL st l=ad then aa (AV.aX (i&&decide (0<ah l)) ((l.drop a.toNat).take ((b.getD (ah l:Int)).toNat-a.toNat)),(ab:Option dd))else ab) _=_
    rw[aC g];exact(propext ⟨λh=>h.elim,λh=>g h.1⟩)
def afu{st:Nat}:cG L vars (.ue st) ae env bg σ K=K (.emp::env) bg σ:=(rfl)
def bs1 (x:AV) (K:AV->Prop):Prop:=match x with
 |.str s=>nx (.aX ae (s.map λb=>.ik 4 (b.toNat:Int))) K .k
 |_=>False
def afv{s:List UInt8}{K:AV->Prop}:bs1 (.str s) K=nx (.aX ae (s.map λb=>.ik 4 (b.toNat:Int))) K .k:=(rfl)
def R6{x:Rf}:cG L vars (.NH x) ae env bg σ K=nx (rv vars env x) (λx=>bs1 x λv=>K (v::env) bg σ) .k:=by
 show bA (ev L σ (ah σ) [] (rv vars env) (.NH x)) _=_;simp only[nx];generalize a:rv vars env x=p;simp only[ev,a];cases p<;>rfl
def si1 (x i:AV) (K:AV->Prop):Prop:=match x,i with
 |.str s,.int n=>0<=n/\bA (s[n.toNat]?) λb=>K (.ik 4 (b.toNat:Int))
 |_,_=>False
def IH{s:List UInt8}{n:Int}{K:AV->Prop}:si1 (.str s) (.int n) K=(0<=n/\bA (s[n.toNat]?) λb=>K (.ik 4 (b.toNat:Int))):=(rfl)
def R7{x i:Rf}:cG L vars (.NN x i) ae env bg σ K=nx (rv vars env x) (λx=>nx (rv vars env i) (λi=>si1 x i λv=>K (v::env) bg σ) .k) .k:=by
 show bA (ev L σ (ah σ) [] (rv vars env) (.NN x i)) _=_;simp only[nx];generalize a:rv vars env x=p;generalize b:rv vars env i=q;simp only[ev,a,b];cases p<;>try rfl
 cases q<;>try rfl
 rename_i s n;rw[IH]
 by_cases h:0<=n
 .simp only[aD h,h,true_and]
  cases s[n.toNat]?<;>rfl
 .simp only[aC h]
  exact propext ⟨λe=>e.elim,λe=>h e.1⟩
def cw1 (x:AV) (K:AV->Prop):Prop:=match x with
 |.int n=>K (.ik 4 (n%256))
 |_=>False
def afw{n:Int}{K:AV->Prop}:cw1 (.int n) K=K (.ik 4 (n%256)):=(rfl)
def R8{x:Rf}:cG L vars (.DZ x) ae env bg σ K=nx (rv vars env x) (λx=>cw1 x λv=>K (v::env) bg σ) .k:=by
 show bA (ev L σ (ah σ) [] (rv vars env) (.DZ x)) _=_;simp only[nx];generalize a:rv vars env x=p;simp only[ev,a];cases p<;>rfl
def Zz (x y:AV) (K:AV->Prop):Prop:=match x,y with
 |.int a,.int n=>cc (0<=n/\n<64) (K (.int (a.fdiv (2^n.toNat))))
 |.int a,.ik 7 n=>cc (0<=n/\n<64) (K (.int (a.fdiv (2^n.toNat))))
 |_,_=>False
def afx{a n:Int}{K:AV->Prop}:Zz (.int a) (.int n) K=cc (0<=n/\n<64) (K (.int (a.fdiv (2^n.toNat)))):=(rfl)
def afy{a n:Int}{K:AV->Prop}:Zz (.int a) (.ik 7 n) K=cc (0<=n/\n<64) (K (.int (a.fdiv (2^n.toNat)))):=(rfl)
def R9{x y:Rf}:cG L vars (.HU x y) ae env bg σ K=nx (rv vars env x) (λx=>nx (rv vars env y) (λy=>Zz x y λv=>K (v::env) bg σ) .k) .k:=by
 show bA (ev L σ (ah σ) [] (rv vars env) (.HU x y)) _=_;simp only[nx];generalize b:rv vars env x=p;generalize d:rv vars env y=q;simp only[ev,b,d,Zz];split
 .simp only[qI];rfl
 .simp only[qI];rfl
 .rename_i e g
  split
  .rename_i a n;exact absurd rfl (e a n rfl)
  .rename_i a n;exact absurd rfl (g a n rfl)
  .rfl
def ss1 (n:Nat) (x y:AV) (K:Bool->Prop):Prop:=match x,y with
 |.agg xs,.agg a=>ah xs=n/\bA (jI xs a) K
 |_,_=>False
def Sa{n:Nat}{xs ys:ao}{K:Bool->Prop}:ss1 n (.agg xs) (.agg ys) K=(ah xs=n/\bA (jI xs ys) K):=(rfl)
def Sb{g:Bool}{n:Nat}{x y:Rf}:cG L vars (.NR g n x y) ae env bg σ K=nx (rv vars env x) (λx=>nx (rv vars env y) (λy=>ss1 n x y λb=>K (.bool (b != g)::env) bg σ) .k) .k:=by
 show bA (ev L σ (ah σ) [] (rv vars env) (.NR g n x y)) _=_;simp only[nx];generalize d:rv vars env x=p;generalize e:rv vars env y=q;simp only[ev,d,e];cases p<;>try rfl
 cases q<;>try rfl
 rename_i xs i;rw[Sa]
 by_cases a:ah xs=n
 .simp only[aD a,a,true_and]
  cases jI xs i<;>rfl
 .simp only[aC a]
  exact propext ⟨λh=>h.elim,λh=>a h.1⟩
def wJ (es:List (AV×AV)) (k x:AV) (o:Option AV):List (AV×AV):=match o with
 |none=>es ++ [(k,x)]
 |some _=>jU es k x
theorem afz{es:List (AV×AV)}{k x:AV}:wJ es k x ab=es ++ [(k,x)]:=rfl
theorem afA{es:List (AV×AV)}{k x y:AV}:wJ es k x (aa y)=jU es k x:=rfl
def ms1 (σ:aq) (m:AV) (a:Nat) (k x:AV) (K:aq->Prop):Prop:=match m with
 |.cZ b=>mp (aQ σ b) (λd cs es=>cc (bP a k=ad/\bW x=ad) (oK (dg es k) (λo=>nB (aV σ b ⟨d,cs,.map (wJ es k x o)⟩) K .k) .k)) .k
 |_=>False
theorem afB{σ:aq}{b a:Nat}{k x:AV}{K:aq->Prop}:ms1 σ (.cZ b) a k x K=mp (aQ σ b) (λd cs es=>cc (bP a k=ad/\bW x=ad) (oK (dg es k) (λo=>nB (aV σ b ⟨d,cs,.map (wJ es k x o)⟩) K .k) .k)) .k:=rfl
def Sc{m k x:Rf}{a:Nat}:cG L vars (.Af m a k x) ae env bg σ K=nx (rv vars env m) (λm=>nx (rv vars env k) (λk=>nx (rv vars env x) (λx=>ms1 σ m a k x λτ=>K (.aW::env) [] τ) .k) .k) .k:=by
 show bA (gS L σ (rv vars env) (.Af m a k x)) _=_;simp only[nx];generalize g:rv vars env m=p;generalize i:rv vars env k=q;generalize j:rv vars env x=r;simp only[gS,g,i,j];cases p<;>try rfl
 rename_i b;simp only[ms1,mp,fM,qo];cases n:aQ σ b with
 |none=>rfl
 |some B=>
  obtain⟨s,cs,st⟩:=B;cases st<;>try rfl
  rename_i es
  by_cases e:ah cs=0
  .by_cases d:bP a q=ad/\bW r=ad
   .simp only[e,d.1,d.2,cc,true_and,mF,dM,Bool.and_self]
    cases dg es q with
    |none=>exact propext ⟨λh=>h.elim,λh=>h.elim⟩
    |some o=>cases o<;>rfl
   .have l : ¬(bP a q&&bW r)=ad:=λh=>d du
    simp only[e,mF,dM,aC l, cc];exact propext ⟨λh=>h.elim,λh=>d h.2.1⟩
  .simp only[e,dA,fv,false_and]
   rfl
def Sd{f:Nat}{args:List Rf}:cG L vars (.gm f args) ae env bg σ K=nL (iX (rv vars env) args) (λas=>lX L f as σ (λv τ=>nx v (λv=>nB τ (λτ=>K (v::env) [] τ) .k) .k) .k) .k:=by rw[<-jy];exact aeG
def afC{x:Rf}{args:List Rf}:cG L vars (.mB x args) ae env bg σ K=nx (rv vars env x) (λx=>Q3 x λf a=>nL (iC (iX (rv vars env) args) a) (λas=>lX L f as σ (λv τ=>nx v (λv=>nB τ (λτ=>K (v::env) [] τ) .k) .k) .k) .k) .k:=by unfold nx nL lX;simp only[<-jy,<-jt];exact aeH
end
section
variable{L:CE}{vars env:ao}{bg σ:aq}{K:ao->aq->Prop}{ls:List Ln}{op:dN}{prev:Bool}
def afD:LK L vars [] env bg σ K=K env σ:=by unfold LK;rfl
def afE:LK L vars (⟨op,ab,prev⟩::ls) env bg σ K=cG L vars op prev env bg σ λenv bg σ=>LK L vars ls env bg σ K:=by conv=>lhs;unfold LK
def Bn (x:AV) (w:Bool) (go skip go' a : Prop) (_:Tk go) (_:Tk skip) (_:Tk go') (_:Tk a):Prop:=match x with
 |.bool b=>match w with
  |true=>gK b go' a
  |false=>gK b a go'
 |.bY []=>skip
 |_=>False
def afF{w:Bool}{A B C D:Prop}{s:Tk A}{t:Tk B}{u:Tk C}{v:Tk D}:Bn (.bY []) w A B C D s t u v=B:=(rfl)
def afG{b:Bool}{A B C D:Prop}{s:Tk A}{t:Tk B}{u:Tk C}{v:Tk D}:Bn (.bool b) ad A B C D s t u v=gT b C D .k .k:=(rfl)
def afH{b:Bool}{A B C D:Prop}{s:Tk A}{t:Tk B}{u:Tk C}{v:Tk D}:Bn (.bool b) ae A B C D s t u v=gT b D C .k .k:=(rfl)
def afI{A B C D:Prop}{s:Tk A}{t:Tk B}{u:Tk C}{v:Tk D}:Bn (.bool ad) ad A B C D s t u v=C:=Iv
def afJ{A B C D:Prop}{s:Tk A}{t:Tk B}{u:Tk C}{v:Tk D}:Bn (.bool ad) ae A B C D s t u v=D:=Iv
def afK{A B C D:Prop}{s:Tk A}{t:Tk B}{u:Tk C}{v:Tk D}:Bn (.bool ae) ad A B C D s t u v=D:=Iw
def afL{A B C D:Prop}{s:Tk A}{t:Tk B}{u:Tk C}{v:Tk D}:Bn (.bool ae) ae A B C D s t u v=C:=Iw
theorem afM{d:Nat}{w:Bool}:LK L vars (⟨op,aa (.t d,w),prev⟩::ls) env bg σ K=nx (nth env d) (λx=>Bn x w
   (cG L vars op prev env bg σ λenv bg σ=>LK L vars ls env bg σ K)
   (LK L vars ls (.bY []::env) bg σ K)
   (nL (eY env d (.bool w)) (λenv=>cG L vars op prev env bg σ λenv bg σ=>LK L vars ls env bg σ K) .k)
   (nL (eY env d (.bool (!w))) (λenv=>LK L vars ls (.bY []::env) bg σ K) .k) .k .k .k .k) .k:=by
 conv=>lhs;unfold LK
 simp only[Bn,nx,nL];cases nth env d with
 |bool b=>cases w<;>rfl
 |bY l=>cases l<;>rfl
 |_=>rfl
def afN{d:Nat}{w:Bool}:LK L vars (⟨op,aa (.v d,w),prev⟩::ls) env bg σ K=nx (nth vars d) (λx=>Bn x w
   (cG L vars op prev env bg σ λenv bg σ=>LK L vars ls env bg σ K)
   (LK L vars ls (.bY []::env) bg σ K)
   (cG L vars op prev env bg σ λenv bg σ=>LK L vars ls env bg σ K)
   (LK L vars ls (.bY []::env) bg σ K) .k .k .k .k) .k:=by
 conv=>lhs;unfold LK
 simp only[Bn,nx]
 all_goals (cases nth vars d with
  |bool b=>cases w<;>rfl
  |bY l=>cases l<;>rfl
  |_=>rfl)
end
def nF (a:Option (Nat×AV)) (K:Option (Nat×AV)->Prop) (_:Tk K):Prop:=K a
def afO{K:Option (Nat×AV)->Prop}{t:Tk K}:nF ab K t=K ab:=(rfl)
def afP{n:Nat}{x:AV}{K:Option (Nat×AV)->Prop}{t:Tk K}:nF (aa (n,x)) K t=nx x (λx=>K (aa (n,x))) .k:=(rfl)
section
variable{L:CE}{vars:ao}{fl:Option (Nat×AV)}{σ:aq}{Q:Ex->St->Prop}
def afQ{ls:List Ln}{os:List (Nat×Nat)}{a:List Nat}{f:Option (Nat×Nat)}:WK L (.cM ⟨ls,os,a,f⟩) vars fl σ Q=LK L vars ls [] σ σ λenv σ=>nL (eI a (outs env os vars)) (λvs=>nF (Bm env f) (λf=>Q .fe ⟨vs,f,σ⟩) .k) .k:=acT
def afR{t:Nat}{a b:IC}{c:Bool}:WK L (.cond t a b) vars (aa (t,.bool c)) σ Q=gT c (WK L a vars ab σ Q) (WK L b vars ab σ Q) .k .k:=acU
def afS{k:Nat}{a b:IC}:WK L (.me k a b) vars fl σ Q=nx (nth vars k) (λx=>b1 x λc=>gT c (WK L a vars fl σ Q) (WK L b vars fl σ Q) .k .k) .k:=by
 rw[acV];unfold nx b1;cases nth vars k<;>rfl
end
attribute [simp ↓] R2 R4 adt     afm afq afh afv IH afw afx afy Sa afB afz afA       ae1 ae6 ae8 afa adp adq adr adV GL   RB aeZ RA ads adu adv adw adx ady adz adA adB adC adD adE adF adG adH adI adJ adK adL adM adN adO aeU aeV aeX aeY adP adQ adR adS adT adU adW
attribute [simp ↓] Qu GI Qv Qw Qx Qy Qz QA QB GJ QC QD QE QF QG QH QI QJ QK QL QM QN QO QP QQ QR QS QT QU QV IA QW QX Q0 ado
attribute [simp] QN QO QP QQ QR QS QT QU QV IA adl adm QW QX
attribute [simp] Qu GI Qv Qw Qx Qy Qz QA QB GJ QC QD QE QF QG QH QI QJ QK QL QM
attribute [simp low] adg adh adi adj adk adn aeN afk
attribute [simp ↓] Q7 Q8 Q9 Ra Rp aff afg afi afj RT RU RV RX afl afn RZ afp afr
attribute [simp] ae2 ae3 ae4 ae5 Q7 Q8 Q9 Ra RT RU RV aeJ aeK
attribute [simp ↓] R3 R5 afu  R6 R7 R8 R9 Sb Sc  R0 R1    RJ RF ae7 RI ae9 RK aeI Q4 Q5 RD  Q6 aeO Rb Rc Re Rg Rh aeP Ri Rj aea Rk Rl  Rm Rn Ro aeQ aeR Rq aeS Rr Rs aeT Rt aeW Rw Rx RN afb  RO afc RP RQ RR RS afd afe RY afo afs Sd afC  afD afE afM afN afF afI afJ afK afL
attribute [simp ↓ low] afG afH
attribute [simp ↓] afO afP afQ afR afS
def afT{a b:Type}{f:a->b}:iX f []=[]:=(rfl)
def afU{a b:Type}{f:a->b}{x:a}{l:List a}:iX f (x::l)=f x::iX f l:=(rfl)
def afV{a b:Type}{f:a->b}{l:List a}:iX f l=l.map f:=(jy f l).symm
def afW{a:Type}{l:List a}:iC [] l=l:=(rfl)
def afX{a:Type}{x:a}{l m:List a}:iC (x::l) m=x::iC l m:=(rfl)
def afY{a:Type}{l m:List a}:iC l m=l++m:=(jt l m).symm
attribute [simp] afT afU afW afX Bg
attribute [simp low] afV afY
def ix{a:Type} [Inhabited a] (l:List a) (n:Int):a:=l.getD n.toNat default
abbrev iL (l:ak):AV:=.aX ae (l.map .int)
abbrev bL (l:List Bool):AV:=.aX ae (l.map .bool)
abbrev bU (l:al):AV:=.aX ae (l.map iL)
abbrev dw (l:List al):AV:=.aX ae (l.map bU)
def qJ:∀(l:ao) (i:Nat),lU l i=l[i]?
 | [],i=>by simp[lU]
 |x::r,0=>rfl
 |x::r,i+1=>by simp[lU,qJ r i]
section
variable{α:Type} [Inhabited α]
variable{n:Int}
theorem bh{l:List α}(a:0<=n) (b:n<ah l):ix l n∈l:=by
 unfold ix;rw[fI,dG ax]
 simp
theorem mf{l:List α}(a:0<=n) (b:n<ah l):l[n.toNat]? = aa (ix l n):=by
 unfold ix;rw[fI,dG ax]
 simp
theorem bt{l:List α}{n:Nat}(a:n<ah l):ix l (n:Int)=l[n]:=by
 unfold ix;rw[fI,jT,dG ax]
 simp
theorem afZ{f:α->AV}{xs:List α}{K:AV->Prop}:Ei (xs.map f) n K=((0<=n/\n<ah xs)/\K (f (ix xs n))):=by
 apply propext;unfold Ei;constructor
 .rintro⟨b,y,a,d⟩
  rw[qJ,gP]at a
  by_cases e:n<ah xs
  .rw[mf b e]at a
   simp at a;subst a;exact⟨⟨b,e⟩,d⟩
  .rw[il ax]at a;simp at a
 .rintro⟨⟨b,a⟩,d⟩
  exact⟨b,_,by rw[qJ,gP,mf b a];rfl,d⟩
end
def af0{fn:Fn}{K:AV->aq->Prop}{s:St}:iq fn K .ret s=oK (results fn s) (λv=>K v s.σ) .k:=(rfl)
def af1{fn:Fn}{K:AV->aq->Prop}{s:St}:iq fn K .fe s=oK (results fn s) (λv=>K v s.σ) .k:=(rfl)
def af2{a:Type} [Inhabited a]{f:a->AV}{xs:List a}{n:Int}{K:AV->Prop}{t:Tk K}:xK (xs.map f) n K t=((0<=n/\n<ah xs)/\K (f (ix xs n))):=afZ
variable{i:Int}
def Ej{a:Type} [Inhabited a]{l:List a}(b:0<=i) (d:i<ah l):l.drop i.toNat=ix l i::l.drop (i+1).toNat:=by
 have e:(i+1).toNat=i.toNat+1:=ax
 rw[e,rH ax,ix,fI,dG ax]
 simp
def II{a:Type}{l:List a}(b:ah l<=i):l.drop i.toNat=[]:=kf ax
def fj:List (Nat×AV)->ao->ao
 | [],vs=>vs
 |(k,x)::r,vs=>fj r (eY vs k x)
def More{b:Type}(f:b->List (Nat×AV)) (g:b->aq) (I:b->Prop) (d:b->Nat) (m:Nat) (vs:ao) (Q:Ex->St->Prop):Ex->St->Prop:=λe s=>match e with
 |.fe=>∃a,s=⟨fj (f a) vs,ab,g a⟩/\I a/\d a<m
 |e=>Q e s
section
variable{L:CE}{α:Type}{f:α->List (Nat×AV)}{g:α->aq}{I:α->Prop}{μ:α->Nat}{m:Nat}{vs:ao}{Q:Ex->St->Prop}
def aK{s:St}:More f g I μ m vs Q .fe s=∃a,s=⟨fj (f a) vs,ab,g a⟩/\I a/\μ a<m:=(rfl)
def af3{s:St}:More f g I μ m vs Q .ret s=Q .ret s:=(rfl)
def af4{s:St}{j:Nat}:More f g I μ m vs Q (.exit j) s=Q (.exit j) s:=(rfl)
def bB{c:IC}{p:Option (Nat×AV)}{σ:aq}(f:α->List (Nat×AV)) (g:α->aq) (I:α->Prop) (μ:α->Nat) (d:α) (u:(⟨vs,p,σ⟩:St)=⟨fj (f d) vs,ab,g d⟩) (i:I d)
  (w:∀a,I a->WK L c (fj (f a) vs) ab (g a) (More f g I μ (μ a) vs Q)):W L (.loop c) ⟨vs,p,σ⟩ Q:=by
 have go:∀(k:Nat) (a:α),μ a<k->I a->W L (.loop c) ⟨fj (f a) vs,ab,g a⟩ Q:=by
  intro k
  induction k with
  |zero=>intro a h;omega
  |succ k y=>
   intro a D i;obtain⟨n,e,q, l,m⟩:=qH (w a i);cases e with
   |fe=>
    obtain⟨z, rfl,A,E⟩:=m;obtain⟨b, B, o, r,C⟩:=y z ax A
    refine⟨max n b + 1,B, o, ?_,C⟩;simp only[exec]at r ⊢;simp only[iter];rw[tn (yY L) (show n<=max n b + 1 by omega) _ _ _ l]
    exact Bc (λs x h=>tn (yY L) (show b <=max n b + 1 by omega) _ _ _ h) (show b <=max n b by omega) r
   |exit j=>exact⟨n+1,.exit j,q, by simp only[exec,iter];rw[tn (yY L) (Nat.le_succ n) _ _ _ l],m⟩
   |ret=>exact⟨n+1,.ret,q, by simp only[exec,iter];rw[tn (yY L) (Nat.le_succ n) _ _ _ l],m⟩
 rw[u];exact go _ d (Nat.lt_succ_self _) i
end
section
variable{σ:aq}{fr:Bool}{k:Nat}
def af5{n:Int}:view σ fr (k+1) (.int n)=aa (.int n):=(rfl)
def af6{n:Bool}:view σ fr (k+1) (.bool n)=aa (.bool n):=(rfl)
def af7{n:List UInt8}:view σ fr (k+1) (.str n)=aa (.str n):=(rfl)
def af8:view σ fr (k+1) .aJ=aa (.aX ae []):=(rfl)
def af9:view σ fr (k+1) .iR=aa .iR:=(rfl)
def aga{b:Bool}{l:ao}:view σ ae (k+1) (.aX b l)=aa (.aX ae l):=(rfl)
def agb{l:ao}:view σ fr (k+1) (.agg l)=match cu (view σ fr k) l with
 |none=>ab
 |some l=>aa (.agg l):=(rfl)
def agc{n:Int}:view σ fr vd (.int n)=aa (.int n):=(rfl)
def agd{n:Bool}:view σ fr vd (.bool n)=aa (.bool n):=(rfl)
def age{n:List UInt8}:view σ fr vd (.str n)=aa (.str n):=(rfl)
def agf:view σ fr vd .aJ=aa (.aX ae []):=(rfl)
def agh:view σ fr vd .iR=aa .iR:=(rfl)
def agi{b:Bool}{l:ao}:view σ ae vd (.aX b l)=aa (.aX ae l):=(rfl)
def agj{l:ao}:view σ fr vd (.agg l)=match cu (view σ fr 11) l with
 |none=>ab
 |some l=>aa (.agg l):=(rfl)
end
section
variable{σ:aq}{fr:Bool}
def agk{n:Int}:cK σ fr (.int n)=aa (.int n):=(rfl)
def agl{n:Bool}:cK σ fr (.bool n)=aa (.bool n):=(rfl)
def agm{n:List UInt8}:cK σ fr (.str n)=aa (.str n):=(rfl)
def agn:cK σ fr .aJ=aa (.aX ae []):=(rfl)
def ago:cK σ fr .iR=aa .iR:=(rfl)
def agp{b:Bool}{l:ao}:cK σ ae (.aX b l)=aa (.aX ae l):=(rfl)
def agq{b u off len:Nat}:cK σ fr (.sl b u off len)=view σ fr vd (.sl b u off len):=(rfl)
def agr{b u off:Nat}:cK σ fr (.ptr b u off)=view σ fr vd (.ptr b u off):=(rfl)
def Bo{l:ao}:cK σ fr (.agg l)=view σ fr vd (.agg l):=(rfl)
def ags{t:Nat}{l:AV}:cK σ fr (.iface t l)=view σ fr vd (.iface t l):=(rfl)
def agt{l:ao}:cK σ fr (.bY l)=match cu (view σ fr vd) l with
  |none=>ab
  |some l=>aa (.bY l):=(rfl)
end
attribute [simp] agk agl agm agn ago agp agq agr Bo ags agt
attribute [simp] af5 af6 af7 af8 af9 aga agb agc agd age agf agh agi agj fj
attribute [simp ↓] aK af3 af4 ac2 ac3 ac4 acS Iy acW acX acY acZ ac0 ac1 Iz ac5 ac6 ac7 ac8 ac9 ada adb ade af0 af1 af2
def agu (n:Int):AV.cells (.int n)=[(.int n)]:=(rfl)
def agv (n:Int):bW (.int n)=ad:=(rfl)
def agw (n:Int):wk (.int n)=(.int n):=(rfl)
def agx (n:Int):gJ (.int n)=(.int n):=(rfl)
def agy (k:Nat) (n:Int):AV.cells (.ik k n)=[(.ik k n)]:=(rfl)
def agz (k:Nat) (n:Int):bW (.ik k n)=ad:=(rfl)
def Se (k:Nat) (n:Int):wk (.ik k n)=(.ik k n):=(rfl)
def agA (k:Nat) (n:Int):gJ (.ik k n)=(.ik k n):=(rfl)
def agB (b:Bool):AV.cells (.bool b)=[(.bool b)]:=(rfl)
def agC (b:Bool):bW (.bool b)=ad:=(rfl)
def agD (b:Bool):wk (.bool b)=(.bool b):=(rfl)
def agE (b:Bool):gJ (.bool b)=(.bool b):=(rfl)
def agF (l:List UInt8):AV.cells (.str l)=[(.str l)]:=(rfl)
def agG (l:List UInt8):bW (.str l)=ad:=(rfl)
def agH (l:List UInt8):wk (.str l)=(.str l):=(rfl)
def agI (l:List UInt8):gJ (.str l)=(.str l):=(rfl)
def agJ  : AV.cells .aJ=[.aJ]:=(rfl)
def agK  : bW .aJ=ad:=(rfl)
def agL  : wk .aJ=(.aX ae []):=(rfl)
def agM  : gJ .aJ=(.aX ae []):=(rfl)
def agN (b:Bool) (l:ao):AV.cells (.aX b l)=[(.aX b l)]:=(rfl)
def agO (b:Bool) (l:ao):bW (.aX b l)=ad:=(rfl)
def agP (b:Bool) (l:ao):wk (.aX b l)=(.aX ae l):=(rfl)
def agQ (b:Bool) (l:ao):gJ (.aX b l)=(.aX ae l):=(rfl)
def agR (l:ao):AV.cells (.arr l)=[(.arr l)]:=(rfl)
def agS (l:ao):bW (.arr l)=ad:=(rfl)
def agT (l:ao):wk (.arr l)=(.arr l):=(rfl)
def agU (l:ao):gJ (.arr l)=(.arr l):=(rfl)
def agV (b u o n:Nat):AV.cells (.sl b u o n)=[(.sl b u o n)]:=(rfl)
def agW (b u o n:Nat):bW (.sl b u o n)=ad:=(rfl)
def Sf (b u o n:Nat):wk (.sl b u o n)=(.sl b u o n):=(rfl)
def agX (b u o n:Nat):gJ (.sl b u o n)=(.sl b u o n):=(rfl)
def agY  : AV.cells .jj=[.jj]:=(rfl)
def agZ  : bW .jj=ad:=(rfl)
def ag0  : wk .jj = .jj:=(rfl)
def ag1  : gJ .jj = .jj:=(rfl)
def ag2 (v:AV):AV.cells (.bN v)=[(.bN v)]:=(rfl)
def ag3 (v:AV):bW (.bN v)=ad:=(rfl)
def ag4 (v:AV):wk (.bN v)=(.bN v):=(rfl)
def ag5 (v:AV):gJ (.bN v)=(.bN v):=(rfl)
def ag6 (b:Nat):AV.cells (.cZ b)=[(.cZ b)]:=(rfl)
def ag7 (b:Nat):bW (.cZ b)=ad:=(rfl)
def ag8 (b:Nat):wk (.cZ b)=(.cZ b):=(rfl)
def ag9 (b:Nat):gJ (.cZ b)=(.cZ b):=(rfl)
def aha (b u o:Nat):AV.cells (.ptr b u o)=[(.ptr b u o)]:=(rfl)
def ahb (b u o:Nat):bW (.ptr b u o)=ad:=(rfl)
def ahc (b u o:Nat):wk (.ptr b u o)=(.ptr b u o):=(rfl)
def ahd (b u o:Nat):gJ (.ptr b u o)=(.ptr b u o):=(rfl)
def ahe  : AV.cells .lS=[.lS]:=(rfl)
def ahf  : bW .lS=ad:=(rfl)
def ahg  : wk .lS = .lS:=(rfl)
def ahh  : gJ .lS = .lS:=(rfl)
def ahi (f:Nat) (l:ao):AV.cells (.func f l)=[(.func f l)]:=(rfl)
def ahj (f:Nat) (l:ao):bW (.func f l)=ad:=(rfl)
def ahk (f:Nat) (l:ao):wk (.func f l)=(.func f l):=(rfl)
def ahl (f:Nat) (l:ao):gJ (.func f l)=(.func f l):=(rfl)
def ahm  : AV.cells .iR=[.iR]:=(rfl)
def ahn  : bW .iR=ad:=(rfl)
def aho  : wk .iR = .iR:=(rfl)
def ahp  : gJ .iR = .iR:=(rfl)
def ahq (t:Nat) (v:AV):AV.cells (.iface t v)=[(.iface t v)]:=(rfl)
def ahr (t:Nat) (v:AV):bW (.iface t v)=ad:=(rfl)
def ahs (t:Nat) (v:AV):wk (.iface t v)=(.iface t v):=(rfl)
def aht (t:Nat) (v:AV):gJ (.iface t v)=(.iface t v):=(rfl)
def ahu (l:ao):AV.cells (.agg l)=l:=(rfl)
def ahv (l:ao):wk (.agg l) = .agg (l.map gJ):=(rfl)
def ahw (l:ao):gJ (.agg l) = .agg l:=(rfl)
def eA:AV->Bool
 |.aW | .bY _ | .agg _=>ae
 |_=>ad
def ahx (l:ao):bW (.agg l)=l.all eA:=by
 rfl
def ahy (n:Int):eA (.int n)=ad:=(rfl)
def ahz (k:Nat) (n:Int):eA (.ik k n)=ad:=(rfl)
def ahA (b:Bool):eA (.bool b)=ad:=(rfl)
def ahB (l:List UInt8):eA (.str l)=ad:=(rfl)
def ahC  : eA .aJ=ad:=(rfl)
def ahD (b:Bool) (l:ao):eA (.aX b l)=ad:=(rfl)
def ahE (l:ao):eA (.arr l)=ad:=(rfl)
def ahF (b u o n:Nat):eA (.sl b u o n)=ad:=(rfl)
def ahG  : eA .jj=ad:=(rfl)
def ahH (v:AV):eA (.bN v)=ad:=(rfl)
def ahI (b u o:Nat):eA (.ptr b u o)=ad:=(rfl)
def ahJ  : eA .lS=ad:=(rfl)
def ahK (f:Nat) (l:ao):eA (.func f l)=ad:=(rfl)
def ahL  : eA .iR=ad:=(rfl)
def ahM (t:Nat) (v:AV):eA (.iface t v)=ad:=(rfl)
attribute [simp] ag6 ag7 ag8 ag9 agu agv agw agx agy agz Se agA agB agC agD agE agF agG agH agI agJ agK agL agM agN agO agP agQ agR agS agT agU agV agW Sf agX agY agZ ag0 ag1 ag2 ag3 ag4 ag5 aha ahb ahc ahd ahe ahf ahg ahh ahi ahj ahk ahl ahm ahn aho ahp ahq ahr ahs aht ahu ahv ahw ahx ahy ahz ahA ahB ahC ahD ahE ahF ahG ahH ahI ahJ ahK ahL ahM
attribute [simp] results cu mc rv nth eY eI outs Bm part lU aY bC
def ahN{st:Nat}:fitAll st []=ad:=(rfl)
def Sg{st:Nat}{x:AV}{l:ao}:fitAll st (x::l)=(ah x.cells==st&&bW x&&fitAll st l):=(rfl)
def Ek{a:Type}{f:a->AV}{st:Nat}(h:∀x,ah (f x).cells=st/\bW (f x)=ad):∀{l:List a},fitAll st (l.map f)=ad
 | []=>rfl
 |x::l=>by simp only[da,Sg,h x,Ek h (l:=l),mF,Bool.and_self]
def ahO{l:ak}:fitAll 1 (l.map .int)=ad:=Ek (f:=AV.int) λ_=>⟨rfl,rfl⟩
def ahP{l:List Bool}:fitAll 1 (l.map .bool)=ad:=Ek (f:=AV.bool) λ_=>⟨rfl,rfl⟩
def ahQ{a:Type}{b:Bool}{f:a->ao}{l:List a}:fitAll 1 (l.map λx=>.aX b (f x))=ad:=Ek (f:=λx=>AV.aX b (f x)) λ_=>⟨rfl,rfl⟩
def Bp{a:Type}{f:a->AV}(h:∀x,(f x).cells=[f x]):∀{l:List a},(l.map f).flatMap AV.cells=l.map f
 | []=>rfl
 |x::l=>by simp only[da,jD,h x,Bp h (l:=l)];rfl
theorem ahR{l:ak}:(l.map AV.int).flatMap AV.cells=l.map .int:=Bp (f:=AV.int) λ_=>rfl
theorem ahS{l:List Bool}:(l.map AV.bool).flatMap AV.cells=l.map .bool:=Bp (f:=AV.bool) λ_=>rfl
theorem ahT{a:Type}{b:Bool}{f:a->ao}{l:List a}:(l.map λx=>AV.aX b (f x)).flatMap AV.cells=l.map λx=>.aX b (f x):=Bp (f:=λx=>AV.aX b (f x)) λ_=>rfl
attribute [simp] ahN Sg ahO ahP ahQ ahR ahS ahT
def ahU:fR.isLive .live=ad:=(rfl)
def ahV:fR.isLive .jN=ae:=(rfl)
def ahW:ba ab=1:=(rfl)
def ahX{n:Nat}:ba (aa n)=n:=(rfl)
def ahY:vD ab ab=ad:=(rfl)
def ahZ{a b:Nat}:vD (aa a) (aa b)=(a==b):=(rfl)
attribute [simp] ahU ahV ahW ahX ahY ahZ
@[reducible] def sr:ao->ao->ao
 |cs,[]=>cs
 | [],_=>[]
 |_::cs,y::new=>y::sr cs new
@[reducible] def mI:ao->Nat->ao->ao
 |cs,0,new=>sr cs new
 | [],_,_=>[]
 |x::cs,n+1,new=>x::mI cs n new
def Sh:∀{cs new:ao},ah new<=ah cs->sr cs new=new++cs.drop (ah new)
 |cs,[],_=>by cases cs<;>simp[sr]
 | [],y::new,h=>by simp at h
 |c::cs,y::new,h=>by simp[sr,Sh (cs:=cs) (new:=new) du]
def xU:∀{cs:ao}{o:Nat}{new:ao},o+ah new<=ah cs->putAt cs o new=mI cs o new
 |cs,0,new,h=>by
  have e:mI cs 0 new=sr cs new:=by cases cs<;>rfl
  rw[e,Sh du];simp[putAt]
 | [],o+1,new,h=>by simp at h
 |c::cs,o+1,new,h=>by
  have e:=xU (cs:=cs) (o:=o) (new:=new) (by simp at h;omega)
  simp only[mI];rw[<-e];simp only[putAt,List.take_succ_cons,kK]
  congr 2
  rw[show o+1+ah new=(o+ah new)+1 by omega,List.drop_succ_cons]
section
variable{K:ao->Prop}{t:Tk K}
def El{cs:ao}{o:Nat}{new:ao}:pU cs o new K t=(o+ah new<=ah cs/\nL (mI cs o new) K .k):=by
 unfold pU Bk nL
 by_cases h:o+ah new<=ah cs
 .simp only[h,true_and];rw[xU h]
 .simp[h]
variable{o:Nat}
def Si{a:Type}{f:a->AV}{xs:List a}{y:a}(h:o<ah xs):putAt (xs.map f) o [f y]=(xs.set o y).map f:=by
 unfold putAt;rw[List.set_eq_take_append_cons_drop,aD h];simp[List.map_take,List.map_drop]
def uL{a:Type}{f:a->AV}{xs:List a}{y:a}:pU (xs.map f) o [f y] K t=(o<ah xs/\K ((xs.set o y).map f)):=by
 unfold pU Bk
 by_cases h:o<ah xs
 .simp only[db,List.length_singleton,Si h]
  simp[h];omega
 .simp[h]
  intro b; omega
def ah0{xs:ak}{o:Nat}{y:Int}:pU (xs.map .int) o [AV.int y] K t=(o<ah xs/\K ((xs.set o y).map .int)):=uL
def ah1{xs:List Bool}{o:Nat}{y:Bool}:pU (xs.map .bool) o [AV.bool y] K t=(o<ah xs/\K ((xs.set o y).map .bool)):=uL
def Sj{xs:al}{o:Nat}{y:ak}:pU (xs.map iL) o [AV.aX ae (y.map .int)] K t=(o<ah xs/\K ((xs.set o y).map iL)):=uL
def Sl{xs:List (List Bool)}{o:Nat}{y:List Bool}:pU (xs.map bL) o [AV.aX ae (y.map .bool)] K t=(o<ah xs/\K ((xs.set o y).map bL)):=uL
def ah2{xs:ak}{n:Int}{y:Int}:pU (xs.map .int) (0+n.toNat*1) [AV.int y] K t=(n.toNat<ah xs/\K ((xs.set n.toNat y).map .int)):=by
 rw[show 0+n.toNat*1=n.toNat by omega];exact uL
def ah3{xs:List Bool}{n:Int}{y:Bool}:pU (xs.map .bool) (0+n.toNat*1) [AV.bool y] K t=(n.toNat<ah xs/\K ((xs.set n.toNat y).map .bool)):=by
 rw[show 0+n.toNat*1=n.toNat by omega];exact uL
def ah4{xs:ak}:nC (xs.map .int) K t=K (xs.map .int):=(rfl)
def ah5{xs:List Bool}:nC (xs.map .bool) K t=K (xs.map .bool):=(rfl)
def Sp{xs:al}:nC (xs.map iL) K t=K (xs.map iL):=(rfl)
def Em{a:Type}{f:a->AV}{xs:List a}{y:a}:nC (xs.map f ++ [f y]) K t=K ((xs ++ [y]).map f):=by simp[nC]
def ah6{xs:ak}{y:Int}:nC (xs.map .int ++ [.int y]) K t=K ((xs ++ [y]).map .int):=Em
def ah7{xs:List Bool}{y:Bool}:nC (xs.map .bool ++ [.bool y]) K t=K ((xs ++ [y]).map .bool):=Em
def ah8{xs:al}{y:ak}:nC (xs.map iL ++ [.aX ae (y.map .int)]) K t=K ((xs ++ [y]).map iL):=Em
def ah9{xs:List (List Bool)}{y:List Bool}:nC (xs.map bL ++ [.aX ae (y.map .bool)]) K t=K ((xs ++ [y]).map bL):=Em
def aia{a:Type}{f:a->AV}{xs ys:List a}:nC (xs.map f++ys.map f) K t=K ((xs++ys).map f):=by simp[nC]
def aib{y:AV}:nC ([] ++ [y]) K t=K [y]:=(rfl)
def aic{ys:ao}:nC ([]++ys) K t=K ys:=(rfl)
def aid:nC [] K t=K []:=(rfl)
def aie{x:AV}:nC [x] K t=K [x]:=(rfl)
def aif{xs:ak}{o:Nat}{y:Int}(h:o<ah xs):nC (putAt (xs.map .int) o [.int y]) K t=K ((xs.set o y).map .int):=by
 unfold nC;rw[Si h]
def IJ{n:Nat}{x:AV}:nC (fx n [x]) K t=K (ag n x):=by
 unfold nC fx;congr 1;simp
def aih{n:Nat}{b:Bool}:nC (fx n [.bool b]) K t=K ((ag n b).map .bool):=by rw[IJ];simp
def aii{n:Nat}{b:Int}:nC (fx n [.int b]) K t=K ((ag n b).map .int):=by rw[IJ];simp
def IK{a:Type}{f:a->AV}(h:∀x,(f x).cells=[f x]){xs:List a}:nC ((xs.map f).flatMap AV.cells) K t=K (xs.map f):=by rw[Bp h];rfl
theorem aij{xs:ak}:nC ((xs.map AV.int).flatMap AV.cells) K t=K (xs.map .int):=IK λ_=>rfl
theorem aik{xs:List Bool}:nC ((xs.map AV.bool).flatMap AV.cells) K t=K (xs.map .bool):=IK λ_=>rfl
theorem ail{xs:al}:nC ((xs.map iL).flatMap AV.cells) K t=K (xs.map iL):=IK λ_=>rfl
end
section
variable{K:AV->Prop}{t:Tk K}
def GN{a:Type} [Inhabited a]{f:a->AV}{xs:List a}{n:Int}:pT (xs.map f) (0+n.toNat*1) ab K t=(n.toNat<ah xs/\K (f (ix xs n))):=by
 unfold pT part;rw[show 0+n.toNat*1=n.toNat by omega]
 simp only[qJ,gP,ix,fI]
 by_cases h:n.toNat<ah xs
 .rw[dG h];simp[bA,h]
 .rw[il ax];simp[bA,h]
def aim{a:Type} [Inhabited a]{f:a->AV}{xs:List a}{n:Nat}:pT (xs.map f) n ab K t=(n<ah xs/\K (f (ix xs n))):=by
 have:=GN (K:=K) (t:=t) (f:=f) (xs:=xs) (n:=n);simpa using this
end
section
variable{K:AV->Prop}{t:Tk K}
end
def Ss{L:CE}{f:Nat}{l:ao}{σ:aq}{K:AV->aq->Prop}{t:Tk K}:lX L f l σ K t=oK (L f l σ) (λp=>K p.1 p.2) .k:=(rfl)
attribute [simp ↓ 20000] ah0 ah1 Sj Sl ah2 ah3 GN ah4 ah5 Sp ah6 ah7 ah8 ah9 aia aib aic aid aie aif aih aii aij aik ail
attribute [simp ↓] El IJ Ss
attribute [simp ↓ 10500] aim
def ain:eE=1073741824:=(rfl)
attribute [simp] ain
def rP{a:Type}:List a->fR
 | []=>.jN
 |_::_=>.live
def aio{a:Type}:rP ([]:List a) = .jN:=(rfl)
def aip{a:Type}{x:a}{l:List a}:rP (x::l) = .live:=(rfl)
def aiq{a:Type}{l:List a}:(rP l).gx=ad:=by cases l<;>rfl
theorem air:fR.gx .live=ad:=rfl
theorem ais:fR.gx .jN=ad:=rfl
theorem ait:fR.gx .dead=ae:=rfl
theorem aiu{es:List (AV×AV)}:fR.gx (.map es)=ae:=rfl
def aiv{a:Type}{x:a}{l:List a}:rP (l ++ [x]) = .live:=by cases l<;>rfl
def aiw{a:Type}{k:Nat}{x:a}{l:List a}:rP (l.set k x)=rP l:=by cases l<;>cases k<;>rfl
def aix{a:Type}{l:List a}:((rP l).isLive=ad)=(l ≠ []):=by cases l<;>simp[rP,fR.isLive]
def aiy{a b:Type}{f:a->b}{l:List a}:rP (l.map f)=rP l:=by cases l<;>rfl
attribute [simp] aio aip aiq air ais ait aiu aiv aiw aix aiy
def a8{b:Type}{f:b->List (Nat×AV)}{g:b->aq}{I:b->Prop}{e:b->Nat}{m:Nat}{vs d : ao}{σ:aq}{Q:Ex->St->Prop}(a:b) (h:d = fj (f a) vs) (i:σ=g a) (j:I a) (l:e a<m):More f g I e m vs Q .fe ⟨d, ab,σ⟩:=⟨a,by rw[h,i],j,l⟩
def aiz{cs:ao}{K:ao->Prop}{t:Tk K}:oK (iV cs []) K t=K cs:=(rfl)
def aiA{cs:ao}{o n:Nat}{x:AV}{r:List (Nat×Nat×AV)}{K:ao->Prop}{t:Tk K}:oK (iV cs ((o,n,x)::r)) K t=nx x (λx=>(ah x.cells=n/\o+n<=ah cs/\bW x=ad)/\nL (mI cs o x.cells) (λcs=>oK (iV cs r) K .k) .k) .k:=by
 unfold nx nL oK
 by_cases h:ah x.cells=n/\o+n<=ah cs/\bW x=ad
 .have e:=xU (cs:=cs) (o:=o) (new:=x.cells) (by rw[h.1];exact h.2.1)
  simp only[h,and_self,true_and,iV,<-e];simp[h]
 .have e:iV cs ((o,n,x)::r)=ab:=by
   unfold iV;rw[aC];simp only[bd,dA,fy,and_assoc];exact h
  rw[e];simp only[h,false_and,bA]
attribute [simp ↓] aiz aiA
end Ab
