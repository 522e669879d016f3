/- wsuite.Suite by the interpreter with as much fuel as is wanted. Condition: none. -/
import Derived.Test.YtcdccenbhiddcaaGreatIr
set_option linter.all false
set_option maxRecDepth 100000
set_option maxHeartbeats 4000000
namespace Ab
def tq:IC->Bool
 |.seq a b=>tq a&&tq b
 |.cond _ a b=>tq a&&tq b
 |.bM _=>true
 |.skip=>true
 |.ret=>true
 |.exit _=>true
 |_=>false
def ql{n m:Nat}{ce:CE}:∀{c:IC}{s:St},tq c=true->exec n ce c s=exec m ce c s
 |.seq a b,s,h=>by
  simp only[tq,aD]at h;simp only[exec];rw[ql (n:=n) (m:=m) h.1];cases exec m ce a s with
  |none=>rfl
  |some p=>
   obtain⟨e,d⟩:=p;cases e with
   |c5=>exact ql h.2
   |exit i=>rfl
   |ret=>rfl
 |.cond t a b,s,h=>by
  simp only[tq,aD]at h;simp only[exec];rw[ql (n:=n) (m:=m) (c:=a) h.1,ql (n:=n) (m:=m) (c:=b) h.2]
 |.bM r,s,_=>rfl
 |.skip,s,_=>rfl
 |.ret,s,_=>rfl
 |.exit _,s,_=>rfl
 |.fh ..,_,h | .block ..,_,h | .loop _,_,h | .mW _,_,h | .lex _,_,h | .bad,_,h | .cut ..,_,h | .rq _,_,h=>by simp[tq]at h
def AF{c:IC}{s:St}{x:Ex×St}(a:tq c=true) (h:exec 0 L c s=some x):∃N,∀M,N<=M->exec 0 (cN G Q M) c s=some x:=by
 obtain⟨N,b⟩:=D6 jB _ _ _ h;refine⟨N,λM d=>?_⟩;rw[ql (m:=M) a];exact p6 jB d b
def Ht{r:dt}{s s' : St}(h:aT L r s=some s'):∃N,∀M,N<=M->aT (cN G Q M) r s=some s' :=by
 obtain⟨N,a⟩:=AF (c:=.bM r) (s:=s) (x:=(.c5,s')) rfl (by simp only[exec,h])
 refine⟨N,λM b=>?_⟩;have:=a M b;simp only[exec]at this;split at this
 .simp at this;rw[<-this];assumption
 .simp at this
def uV{e:Type}{p:Nat->e->Prop}:∀{l:List e},(∀a∈l,∃N,∀M,N<=M->p M a)->∃N,∀M,N<=M->∀a∈l,p M a
 | [],_=>⟨0,λ_ _ a h=>cy⟩
 |a::r,h=>by
  obtain⟨f,g⟩:=h a ab
  obtain⟨i,j⟩:=uV (l:=r) λb d=>h b cW
  refine⟨f+i,λM m b d=>?_⟩;rcases bR.1 d with rfl|d
  .exact g M aa
  .exact j M aa b d
def Hu{s1:St}:∀{xs:List AV}{σ σ' : List aj},iT L s1 xs σ=some σ' ->∃N,∀M,N<=M->iT (cN G Q M) s1 xs σ=some σ'
 | [],σ,σ', h=>⟨0,λ_ _=>h⟩
 |x::r,σ,σ', h=>by
  simp only[iT,dX]at h;obtain⟨s,a,b⟩:=h;obtain⟨d,a⟩:=Ht a;obtain⟨e,b⟩:=Hu b;refine⟨d+e,λM f=>?_⟩;simp only[iT,dX];exact⟨s,a M aa,b M aa⟩
def Xd{A B C:List (List Int)}(h:sv L A B C=true):∃N,∀M,N<=M->sv (cN G Q M) A B C=true:=by
 simp only[sv,eS,bJ]at h ⊢;refine uV (p:=λM u=>∀v∈B,∀x∈C,_) λu b=>uV (p:=λM v=>∀x∈C,_) λv d=>uV (p:=λM x=>_) λx e=>?_;have:=h u b v d x e;cases a:L fB [.aA false [.aA false (u.map .int),.aA false (v.map .int),.aA false (x.map .int)]] []with
 |none=>rw[a]at this;simp at this
 |some p=>
  obtain⟨N,f⟩:=nh a;refine⟨N,λM g=>?_⟩;rw[mQ jB g _ _ _ _ f];rw[a]at this;exact this
variable{x:AV×List aj}
def Xe{s1:St}{t:List (List Int)×List (List Int)×List (List Int)}(h:lf L s1 t=some x):∃N,∀M,N<=M->lf (cN G Q M) s1 t=some x:=by
 unfold lf at h;split at h
 case isFalse=>simp at h
 rename_i hj;simp only[dX]at h;obtain⟨σ,h2,s2,h5,p,h3,h4⟩:=h;obtain⟨N1,a1⟩:=Xd hj;obtain⟨N2,a2⟩:=Hu h2;obtain⟨N3,a3⟩:=AF (c:=su) rfl h3;refine⟨N1+N2+N3,λM hM=>?_⟩;unfold lf;rw[ah (a1 M aa)]
 simp only[dX];exact⟨σ,a2 M aa,s2,h5,p,a3 M aa,h4⟩
def Xf{args:List AV}{σ:List aj}(h:de L args σ=some x):L qg args σ=some x:=by
 unfold de at h;split at h
 case isFalse=>simp at h
 rename_i hl;simp only[dX]at h;obtain⟨p,h1,h2⟩:=h;obtain⟨N1,a1⟩:=AF (c:=qj) rfl h1;split at h2
 .rename_i j hj
  simp only[dX]at h2;obtain⟨s1,h3,t,h4,h5⟩:=h2;obtain⟨N2,a2⟩:=Ht h3;obtain⟨N3,a3⟩:=Xe h5;refine Hc (N:=N1+N2+N3) ?_;unfold de;rw[ah hl];simp only[dX];refine⟨p,a1 _ aa,?_⟩
  rw[hj];simp only[dX];exact⟨s1,a2 _ aa,t,h4,a3 _ aa⟩
 .rename_i hj
  refine Hc (N:=N1) ?_;unfold de;rw[ah hl];simp only[dX];refine⟨p,a1 _ (aY _),?_⟩;split
  .rename_i j oX; exact absurd oX (hj j)
  .exact h2
end Ab
