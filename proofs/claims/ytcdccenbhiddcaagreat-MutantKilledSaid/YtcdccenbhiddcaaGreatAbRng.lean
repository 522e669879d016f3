/- A range over a function: the statement, where the function yields a list of values and each round turns the blocks. Condition: the function yields that list. -/
import Derived.Test.YtcdccenbhiddcaaGreatAbC
import Derived.RangeFuncIn
import Derived.RangeFuncSeq
set_option linter.all false
set_option maxHeartbeats 4000000
namespace Ab
open Go
variable{P:Program}
variable{C:Ctx}{w:World}{l:Nat}{r:Obj}
def Good.put(hg:Good C w) (h:w.heap[l]? = some r) (qT : ∀c el,r ≠ .cells c el (0,0)) (hI:¬C.I l) (hO:¬owned C l) (o:Obj):Good C (w.putObj l o)/\cF C w.heap C (w.putObj l o).heap:=by
 have ev:cF C w.heap C (w.putObj l o).heap:=by
  refine⟨λ_ h=>h,λk hk=>World.putObj_heap_other λe=>hI (e▸hk),λ_ _ h=>h,λb u B' id _ Y=>⟨B', Y,rfl,rfl,λc el hc=>⟨c,?_,rfl⟩⟩⟩;rw[World.putObj_heap_other λe=>by rw[e,h]at hc;simp at hc;exact qT _ _ hc];exact hc
 have fm:∀{b u B id},C.own b u=some (B,id)->B.st.fo=true->id ≠ l:=λY hl e=>hO (e▸⟨_,_,_,Y,hl⟩);refine⟨⟨λk hk=>by rw[World.putObj_size];exact hg.I k hk,hg.ij,λb u B id Y hl=>?_,hg.apart,λb u B id es Y hl=>hg.bG ev Y hl (World.putObj_heap_other (fm Y (gN hl))) (hg.maps b u B id es Y hl).1⟩,ev⟩
 obtain⟨h1,c,el,h2,h3,h4⟩:=hg.live b u B id Y hl;refine⟨h1,c,el,by rw[World.putObj_heap_other (fm Y (gS hl))];exact h2,h3,λi x hi=>?_⟩
 obtain⟨y,g1,g2,g3⟩:=h4 i x hi;exact⟨y,g1,VR.mono ev _ _ g2,g3⟩
variable{C0:Ctx}{w0:World}
def Step.put(Y:Step C0 w0 C w) (hg:Good C w) (h:w.heap[l]? = some r) (qT : ∀c el,r ≠ .cells c el (0,0)) (hI:¬C.I l) (hO:¬owned C l) (hl:w0.heap.size<=l) (o:Obj):Step C0 w0 C (w.putObj l o):=
 ⟨Y.ev.trans (hg.put h qT hI hO o).2,by rw[World.putObj_size];exact Y.size,λk hk ho=>(World.putObj_heap_other aa).trans (Y.frame k hk ho),Y.cm,Y.cv,Y.os,Y.tape,Y.output⟩
structure vY (C0:Ctx) (w0:World) (l D:Nat) (r:Loop) (C:Ctx) (w:World):Prop where
 good:Good C w
 step:Step C0 w0 C w
 hl:w.heap[l]? = some (.loop r)
 hD:w.heap[D]? = some (.deferred (some []))
 nl:¬C.I l/\¬owned C l
 nD:¬C.I D/\¬owned C D
variable{D:Nat}
def vY.go{C0 C C' : Ctx}{w0 w w' : World}{r:Loop}(h:vY C0 w0 l D r C w) (hg:Good C' w') (Y:Step C w C' w'):vY C0 w0 l D r C' w' :=by
 have h1:=(eK.1 h.hl).1;have h2:=(eK.1 h.hD).1;refine⟨hg,h.step.trans Y,(Y.frame _ h1 h.nl.2).trans h.hl,(Y.frame _ h2 h.nD.2).trans h.hD,⟨λq=>?_,λq=>?_⟩,⟨λq=>?_,λq=>?_⟩⟩
 .rcases Y.cv _ q with a|a|a
  .exact h.nl.1 a
  .exact h.nl.2 a
  .omega
 .rcases Y.cm _ q with a|a
  .exact h.nl.2 a
  .omega
 .rcases Y.cv _ q with a|a|a
  .exact h.nD.1 a
  .exact h.nD.2 a
  .omega
 .rcases Y.cm _ q with a|a
  .exact h.nD.2 a
  .omega
def vY.put{r:Loop}(h:vY C0 w0 l D r C w) (hl:w0.heap.size<=l) (Y:D ≠ l) (r' : Loop):vY C0 w0 l D r' C (w.putObj l (.loop r'))/\cF C w.heap C (w.putObj l (.loop r')).heap:=
 ⟨⟨(h.good.put h.hl ab h.nl.1 h.nl.2 _).1,h.step.put h.good h.hl ab h.nl.1 h.nl.2 hl _,World.putObj_heap_same (eK.1 h.hl).1,(World.putObj_heap_other Y).trans h.hD,h.nl,h.nD⟩,(h.good.put h.hl ab h.nl.1 h.nl.2 _).2⟩
def sa (P:Program) (f:Nat) (g xs:List AV):Prop:=
 ∀(l:Nat) (σs:Nat->List aj) (K:Nat->(Nat->Nat)->(Nat->Prop)->World->Prop),
  (∀k ids I w,K k ids I w->Good (ad (σs k) ids I) w)->
  (∀k ids I w a b d, K k ids I w->Good (ad (σs k) a b) d ->Step (ad (σs k) ids I) w (ad (σs k) a b) d ->K k a b d)->
  (∀k ids I w v,K k ids I w->k<xs.length->VR (ad (σs k) ids I) w.heap (nth xs k) v->YieldAt Fence.wide 0 P l #[v] w λe d =>e = .returned (.bool true)/\∃a b, K (k+1) a b d /\cF (ad (σs k) ids I) w.heap (ad (σs (k+1)) a b) d.heap)->
  ∀ids I w h,K 0 ids I w->bm (ad (σs 0) ids I) w.heap g h->CallsIn Fence.wide 0 P f (#[.func (.yield l) #[] #[]]++h.toArray) w λe d =>(∃v,e = .returned v)/\∃a b, K xs.length a b d
variable{a:Act}
def Uv{g:Operand}{p:Tmp}{assign body:Code}{Q:Exit->Act->World->Prop}{f:Nat}{m xs:List AV}{vs:List Value}{σs:Nat->List aj}{ids:Nat->Nat}{I:Nat->Prop}{A1:Value->Act}
  (K:sa P f m xs) (L:∀args w,(callFunc f args).run P w = .ok (.enter f args) w) (M:a.eval g = .func (.func f) #[] vs.toArray) (C:bm (ad (σs 0) ids I) w.heap m vs) (A:Good (ad (σs 0) ids I) w)
  (hA:∀l W v,assign.wpIn (Fence.wide.inRound l) 0 P (λe a1 i=>e = .normal/\a1=A1 v/\i=W) {tmps:=a.tmps.setIfInBounds p v,defers:=[]} W)
  (hB:∀l k b j W v,k<xs.length->Good (ad (σs k) b j) W->cF (ad (σs 0) ids I) w.heap (ad (σs k) b j) W.heap->VR (ad (σs k) b j) W.heap (nth xs k) v->
   body.wpIn (Fence.wide.inRound l) 0 P (λe _ N =>e = .normal/\∃o E, Good (ad (σs (k+1)) o E) N /\Step (ad (σs k) b j) W (ad (σs (k+1)) o E) N) (A1 v) W)
  (hQ:∀b j W D,Good (ad (σs xs.length) b j) W->Step (ad (σs 0) ids I) w (ad (σs xs.length) b j) W->W.heap[D]? = some (.deferred (some []))->w.heap.size<=D->¬j D->¬owned (ad (σs xs.length) b j) D->
   Q .normal {a with defers:={target:=.collected D,args:=#[]}::a.defers} W) :
  (Code.rangeFunc g #[p] assign body).wp P Q a w:=by
 refine(wpIn_wide (n:=0)).1 (wpIn_rangeFunc λfn O=>?_);obtain⟨r,s⟩:∃r:Loop,r={state:=.ready,pending:=none,fn,tmps:=a.tmps,params:=#[p],assign,body,defers:=w.heap.size}:=⟨_,rfl⟩;obtain⟨i,d⟩:∃i,(w.alloc (.deferred (some []))).alloc (.loop r)=i:=⟨_,rfl⟩;have R:(w.alloc (.deferred (some []))).heap.size=w.heap.size+1:=World.size_alloc _ _;have S:i.heap[w.heap.size+1]? = some (.loop r):=by
  rw[<-d,<-R];exact World.alloc_heap_new _ _
 have hold:∀k,k<w.heap.size->i.heap[k]? = w.heap[k]?:=λk B=>by
  rw[<-d];show((w.heap.push _).push _)[k]? = _;rw[Array.getElem?_push,ae ai,Array.getElem?_push,ae aa]
 have T:i.heap[w.heap.size]? = some (.deferred (some [])):=by
  rw[<-d];show((w.heap.push _).push _)[w.heap.size]? = _;rw[Array.getElem?_push,ae ab,Array.getElem?_push,ah rfl]
 have F:w.heap.size<=i.heap.size:=by rw[<-d,World.size_alloc,World.size_alloc];omega
 have U:=A.lD F hold I (λ_ h=>h) (λk B=>Nat.lt_of_lt_of_le (A.I k B) F) (λk B=>.inl B) (by rw[<-d];rfl) (by rw[<-d];exact⟨rfl,aY _⟩) (by rw[<-d];rfl)
 have V:vY (ad (σs 0) ids I) w (w.heap.size+1) w.heap.size r (ad (σs 0) ids I) i:=
  ⟨U.1,U.2,S,T,⟨λq=>by have:=A.I _ q;omega,λq=>by have:=A.lt q;omega⟩,⟨λq=>by have:=A.I _ q;omega,λq=>by have:=A.lt q;omega⟩⟩
 have y:bm (ad (σs 0) ids I) i.heap m vs:=bm.mono U.2.ev _ _ C;refine⟨w.heap.size+1,[{target:=.collected w.heap.size,args:=#[]}],i,{target:=.fn (.func f) vs.toArray,args:=#[.func (.yield (w.heap.size+1)) #[] #[]]},i,f,
  #[.func (.yield (w.heap.size+1)) #[] #[]]++vs.toArray,i,?_,?_,λ_ _=>trivial,?_,λh=>by simp[Fence.wide]at h,?_⟩
 .rw[<-d,s];exact run_enterLoop_outer _ _ _ _ _
 .simp only[resolve,M]
  simp[go_sem]
 .simp[invoke,go_sem,L]
 .refine(K (w.heap.size+1) σs (λk b j W=>vY (ad (σs 0) ids I) w (w.heap.size+1) w.heap.size r (ad (σs k) b j) W)
   (λk b j W h=>h.good) (λk i1 I1 W X Y N h M hs=>h.go M hs) ?_ ids I i vs V y).mono ?_
  .intro k i1 I1 W v z B hv
   have hy:=run_yield (P:=P) (args:=#[v]) z.hl (by rw[s];rfl)
   refine⟨_,_,_,_,hy,roundIn_of_wpIn O ?_⟩;have ht:(r.params.zip #[v]).foldl (λtmps (t,a)=>tmps.setIfInBounds t a) r.tmps=a.tmps.setIfInBounds p v:=by rw[s];simp
   rw[ht,show r.assign=assign by rw[s],show r.body=body by rw[s]]
   refine wpIn_mono (hA _ W v) ?_;rintro e a1 W2 ⟨rfl,rfl,rfl⟩;obtain⟨x,u⟩:=z.put aa aa {r with state:=.busy}
   refine⟨_,run_beginRound z.hl (by rw[s]),?_⟩
   refine wpIn_mono (hB _ k i1 I1 _ v B x.good (z.step.ev.trans u) (VR.mono u _ _ hv)) ?_;rintro e a2 W3 ⟨rfl,X,Y,Z,G⟩;have H:=x.go Z G;obtain⟨hp4,J⟩:=H.put aa aa r
   have he:=run_endRound (P:=P) none H.hl;have Uw:({({r with state:=.busy}:Loop)with state:=(if(none:Option Code).isNone then .ready else .done),pending:=none}:Loop)=r:=by rw[s];rfl
   rw[Uw]at he;exact⟨_,_,he,rfl,X,Y,hp4,(u.trans G.ev).trans J⟩
  .rintro e W2 ⟨⟨v,rfl⟩,X,Y,z⟩
   obtain⟨x,u⟩:=z.put aa aa {r with state:=.exhausted}
   exact⟨none,_,by rw[run_endLoop (P:=P) z.hl (by rw[s];simp),show r.pending=none by rw[s]],hQ _ _ _ _ x.good x.step x.hD (aY _) x.nD.1 x.nD.2⟩
variable{d:Option Tmp}{v:Value}
def x8{t:Nat}(h:d ≠ some t):(a.put d v).tmps.getD t undef=a.tmps.getD t undef:=by
 cases d with
 |none=>rfl
 |some d=>
  simp only[Act.put,mR];rw[Array.getElem?_setIfInBounds_ne (λe=>h (by rw[e]))]
def Fix (T:List (Nat×Value)) (a:Act):Prop:=∀p,p∈T->a.tmps.getD p.1 undef=p.2
def Fix.put{T:List (Nat×Value)}(h:Fix T a) (hd:∀p,p∈T->d ≠ some p.1):Fix T (a.put d v):=λp Y=>(x8 (hd p Y)).trans (h p Y)
def uu (T:List (Nat×Value)) (Q:Exit->Act->World->Prop):Exit->Act->World->Prop:=λe a w=>Q e a w/\(e = .normal->Fix T a)
section
variable{F:Fence}{n:Nat}{Q:Exit->Act->World->Prop}{T:List (Nat×Value)}
def ME (h:LetsOut Q):LetsOut (uu T Q):=let ⟨a,w,h⟩:=h;⟨a,w,h,ab⟩
def Ux{o:Oper}{a:Act}{w:World}{K j : Act->World->Prop}(f:∀p,p∈T->o.dst ≠ some p.1) (g:Fix T a) (h:∀a w,K a w->Fix T a->j a w)
  (b:o.wpIn F n P a w K Q):o.wpIn F n P a w j (uu T Q):=by
 unfold Oper.wpIn at *;refine⟨b.1,?_⟩;have b:=b.2;generalize (o.semAt F.round a.eval).run P w=r at *;cases r with
 |ok x l =>
  cases x<;>simp only[Oper.uponIn]at b ⊢ <;>
   first
    |exact h _ _ b (g.put f)
    |exact h _ _ b (Fix.put (a:={a with defers:=_}) g f)
    |exact⟨b.1,CallsIn.mono b.2 (λe i d=>rj)⟩
    |exact⟨b.1,RowsIn.mono b.2 (λ_ _ d=>h _ _ d (g.put f))⟩
    |exact⟨b.1,RoundIn.mono b.2 (λe i d=>rj)⟩
 |halt x l =>cases x<;>simp only[Oper.uponIn]at b ⊢<;>first|exact b.elim|exact⟨b,ab⟩
def sb{ops:Array Oper}(b:∀(i:Nat) (o:Oper),ops[i]? = some o->∀p,p∈T->o.dst ≠ some p.1):∀(l:List Nat) (a:Act) (w:World),Fix T a->wpOpsIn F n P ops Q l a w->wpOpsIn F n P ops (uu T Q) l a w
 | [],a,w,d,h=>⟨h,λ_=>d⟩
 |i::r,a,w,d,h=>by
  unfold wpOpsIn at h ⊢;cases e:ops[i]? with
  |none=>rw[e]at h;exact sb b r a w d h
  |some o=>
   rw[e]at h;dsimp only at h ⊢;cases f:Region.wanted o (yielded ops a.tmps)with
   |true=>
    rw[f]at h;simp only[cn]at h ⊢;exact Ux (b i o e) d (λa w h g=>sb b r a w g h) h
   |false=>
    rw[f]at h;simp only[cZ,dg]at h ⊢;exact⟨h.1,sb b r _ w (d.put (b i o e)) h.2⟩
def Gb{ops b : Array Oper}{p : Exit->Act->World->Prop}{rest:List Nat}{d:Nat}(l:∀(i:Nat) (o:Oper),b[i]? = some o->o.guard=none) (m:∀e a w,e ≠ .normal->p e a w->Q e a w) (y:∀a w,p .normal a w->wpOpsIn F n P ops Q rest a w) :
  ∀(k j:Nat) (a:Act) (w:World),(∀i,j<=i->i<j+k->ops[d+i]? = b[i]?/\i<b.size)->wpOpsIn F n P b p (List.range' j k) a w->wpOpsIn F n P ops Q (List.range' (d+j) k++rest) a w
 |0,j,a,w,_,h=>y a w h
 |k+1,j,a,w,z,h=>by
  rw[List.range'_succ]at h ⊢;rw[kU];obtain⟨e,s⟩:=z j aa aa
  have A:b[j]? = some b[j]:=iv s;have B:=l j _ A;have C:∀x,Region.wanted b[j] x=true:=λx=>by simp[Region.wanted,B]
  unfold wpOpsIn at h ⊢;rw[e];rw[A]at h ⊢;dsimp only at h ⊢;rw[C]at h ⊢;simp only[if_true]at h ⊢;have q:=λa w h=>Gb (d:=d) l m y k (j+1) a w (λi E G=>z i aa aa) h
  unfold Oper.wpIn at h ⊢;refine⟨h.1,?_⟩;have f:=h.2;generalize (b[j].semAt F.round a.eval).run P w=r at *;have lets:LetsOut p ->LetsOut Q:=λ⟨a,w,h⟩=>⟨a,w,m _ _ _ ab h⟩
  cases r with
  |ok x D =>
   cases x<;>simp only[Oper.uponIn]at f ⊢ <;>
    first
     |exact q _ _ f
     |exact⟨f.1,CallsIn.mono f.2 (λe u g=>by cases e<;>first|exact q _ _ g|exact m _ _ _ ab g|exact lets g)⟩
     |exact⟨f.1,RowsIn.mono f.2 (λ_ _ g=>q _ _ g)⟩
     |exact⟨f.1,RoundIn.mono f.2 (λe u g=>by cases e<;>first|exact q _ _ g|exact m _ _ _ ab g|exact lets g)⟩
  |halt x D =>cases x<;>simp only[Oper.uponIn]at f ⊢<;>first|exact f.elim|exact m _ _ _ ab f
end
variable{sl:List Nat}{nt:Nat}{ce:CE}{ds:List Deferred}{ids:Nat->Nat}{I:Nat->Prop}{a:Act}{w:World}
def Gc{rd:Option Nat}{ops:List Oper}{r:dt}{s s' : St}{Q:Exit->Act->World->Prop}
  (d:jM P false ops sl nt r=true) (l:bn P ce) (m:bQ P ce) (g:aT ce r s=some s') (h:Rel sl nt ds s (ad s.σ ids I) a w)
  (p:∀b I' i w', Rel sl nt ds s' (ad s'.σ b I') i w' ->Step (ad s.σ ids I) w (ad s'.σ b I') w' ->Q .normal i w'):wpOpsIn (fw rd) 0 P ops.toArray Q (List.range ops.length) a w:=by
 simp only[jM,aD,bJ,eS,gw]at d;obtain⟨⟨⟨u,z⟩,A⟩,_⟩:=d;unfold aT at g;cases n:lines ce s.vars r.ls ⟨[],s.σ,s.σ⟩with
 |none=>simp[n]at g
 |some q=>
  simp only[n,aS]at g;obtain⟨st,B,E,o⟩:=xm n
  let X:RC P:=⟨false,xn ops,ops,r.ls,sl,nt,ce,s.vars,s.σ,st,u,z,B,o,l,m⟩
  have fin:∀D C f a w', Inv X (ad s.σ ids I) w ds D C f a w' ->(∀j,j<X.ls.length->D j)->Q .normal a w' :=by
   intro D C f i w' F G;obtain⟨b, I', x,y⟩:=F.full G (r:=r) rfl A (vs:=s.vars) rfl _ rfl;have e:(X.st X.ls.length)=q:=E;rw[e]at x y;rw[<-g]at p;exact p b I' i w' x y
  have:=xA (rd:=rd) (X:=X) (Q:=Q) rfl fin X.ls.length (λ_=>False) _ 0 a w (aY _) (λj=>ab) (Inv.M7 rfl rfl h)
  rw[Nat.sub_self]at this;rw[u,List.range_eq_range'];exact this
def Gd{m:Nat}{args:List AV}{vs:List Value}{σ:List aj}(i:Good (ad σ ids I) w) (h:bm (ad σ ids I) w.heap args vs) (s:args.length<=nt)
  (j:∀k,k<sl.length->args.length<=k\/sl[k]? = some k):Rel sl nt [] ⟨args++List.replicate m .au,none,σ⟩ (ad σ ids I) {tmps:=vs.toArray++Array.replicate (nt-vs.toArray.size) undef,defers:=[]} w:=by
 have l:vs.length=args.length:=bm.length h;refine⟨i,ai,rfl,λk t e=>?_,λ_ _ q=>by simp at q⟩
 have f:k<sl.length:=(cM.1 e).1;have b:args.length<=k->nth (args++List.replicate m .au) k = .au:=λg=>by
  rw[jV,fk g,List.getElem?_replicate];split<;>rfl
 by_cases d:args.length<=k
 .rw[b d];unfold VR;trivial
 .have heq:=(j k f).resolve_left d
  rw[heq]at e;simp at e;subst e;have a:k<args.length:=aa
  obtain⟨v,n,o⟩:=h.get k _ (cG a);have p:nth (args++List.replicate m .au) k=args[k]:=by
   rw[jV,dG a,cG a];rfl
  have r:(vs.toArray++Array.replicate (nt-vs.toArray.size) undef).getD k undef=v:=by
   rw[mR,kL ai,oa,n];rfl
  rw[p];show VR _ _ _ ((vs.toArray++Array.replicate (nt-vs.toArray.size) undef).getD k undef);rw[r];exact o
variable{o:Oper}
def Uy{f g:Operand}{b:Array TypeId}{l:Nat}{v:Value}{x:Next}(d:o.op = .call {callee:=.value f,args:=#[g],argTypes:=b}) (e:a.eval f = .func (.yield l) #[] #[]) (h:a.eval g=v) (i:(Instr.yield l #[v]).run P w = .ok x w) :
  (execOp a.eval o).run P w = .ok x w:=by
 generalize a.eval=j at *;subst h;simp only[execOp,d,aN,resolve,e];simp[go_sem,invoke,i]
def Uz{x:Operand}{t:TypeId}{b:Bool}(d:o.op = .unOp .not t x) (e:a.eval x = .bool b):(execOp a.eval o).run P w = .ok (.value (.bool !b)) w:=by
 generalize a.eval=f at *;simp[execOp,d,Op.unary,e,go_sem]
def Ge{s:St}{b : Nat->Nat}{I' : Nat->Prop}{fn:Fn}{pf:Func}{r:AV}(m : Rel sl nt ds s (ad s.σ b I') a w) (n:fJ P sl pf.results.toList fn.res=true) (d:results fn s=some r) :
  ∃v,(Go.results pf a.tmps).run P w = .ok v w/\VR (ad s.σ b I') w.heap r v:=by
 unfold results at d;cases e:aM (gf s) fn.res with
 |none=>simp[e]at d
 |some xs=>
  obtain⟨f,o,h⟩:=tZ m pf.results.toList fn.res xs n e;refine⟨if p:f.toArray.size=1 then f.toArray[0]else .tuple f.toArray,?_,?_⟩
  .rw[DT,aN,Array.mapM_eq_mapM_toList,Sem.run_map,o]
   rfl
  .simp only[e]at d
   have q:=bm.length h;have many:∀l,xs=l->l.length ≠ 1->r = .bz l->VR (ad s.σ b I') w.heap r (if p:f.toArray.size=1 then f.toArray[0]else .tuple f.toArray):=λl i j g=>by
    subst i;subst g;rw[dif_neg ai]
    unfold VR;exact⟨f,rfl,h⟩
   cases xs with
   |nil=>exact many [] rfl ab (by simpa using d.symm)
   |cons x t=>
    cases t with
    |nil=>
     simp at d;subst d;obtain⟨v,t,i,j,g⟩:=h;have g:t=[]:=g;subst g;subst i;simpa using j
    |cons y t=>exact many (x::y::t) rfl ab (by simpa using d.symm)
def uv:IC->Bool
 |.seq a b=>uv a&&uv b
 |.cond _ a b=>uv a&&uv b
 |.bM _=>true
 |.skip=>true
 |.ret=>true
 |_=>false
def sc{n:Nat}{ce:CE}:∀{c:IC}{s:St}{e:Ex}{s' : St},uv c=true->exec n ce c s=some (e,s')->∀j,e ≠ .exit j
 |.seq a b,s,e,s', d,h,j=>by
  simp only[uv,aD]at d;simp only[exec]at h;cases f:exec n ce a s with
  |none=>simp[f]at h
  |some p=>
   obtain⟨g,l⟩:=p;have:=sc d.1 f;cases g with
   |c5=>simp only[f]at h;exact sc d.2 h j
   |exit i=>exact absurd rfl (this i)
   |ret=>simp only[f,aS,Prod.mk.injEq]at h;rw[<-h.1];simp
 |.cond t a b,s,e,s', d,h,j=>by
  simp only[uv,aD]at d;simp only[exec]at h;split at h
  .split at h
   .split at h
    .exact sc d.1 h j
    .exact sc d.2 h j
   .simp at h
  .simp at h
 |.bM r,s,e,s', _,h,j=>by
  simp only[exec]at h;split at h<;>simp at h
  rw[<-h.1];simp
 |.skip,s,e,s', _,h,j=>by simp only[exec,aS,Prod.mk.injEq]at h;rw[<-h.1];simp
 |.ret,s,e,s', _,h,j=>by simp only[exec,aS,Prod.mk.injEq]at h;rw[<-h.1];simp
 |.fh ..,_,_,_,d,_,_ | .block ..,_,_,_,d,_,_ | .loop _,_,_,_,d,_,_ | .exit _,_,_,_,d,_,_ | .mW _,_,_,_,d,_,_ | .lex _,_,_,_,d,_,_ | .bad,_,_,_,d,_,_ | .cut ..,_,_,_,d,_,_ | .rq _,_,_,_,d,_,_=>by simp[uv]at d
def x9 (P:Program) (sl:List Nat) (nt:Nat):IC->Code->Option Code
 |.seq a b,.seq x y=>if eW P sl nt a x&&uv a then x9 P sl nt b y else none
 |.exit _,c=>some c
 |_,_=>none
def Gg{sl:List Nat}{nt:Nat}{ds:List Deferred}{n:Nat}{ce:CE}(A:P.follows .mixedOrders=true) (i:bn P ce) (l:bQ P ce){rest:Code} :
  ∀(B:IC) (c:Code) (s:St) (e:Ex) (s' : St) (ids:Nat->Nat) (I:Nat->Prop) (a:Act) (w:World) (Q:Exit->Act->World->Prop),x9 P sl nt B c=some rest->exec n ce B s=some (e,s')->Rel sl nt ds s (ad s.σ ids I) a w->
   (∀f I' r w', Rel sl nt ds s' (ad s'.σ f I') r w' ->Step (ad s.σ ids I) w (ad s'.σ f I') w' ->(∀j,e = .exit j->rest.wp P Q r w')/\((∀j,e ≠ .exit j)->Q (rG e) r w'))->c.wp P Q a w
 |.exit j,c,s,e,s', ids,I,a,w,Q,b,d,h,q=>by
  simp only[x9,aS]at b;simp only[exec,aS,Prod.mk.injEq]at d;obtain⟨rfl,rfl⟩:=d;subst b;exact(q ids I a w h (Step.refl _ _)).1 j rfl
 |.seq x y,c,s,e,s', ids,I,a,w,Q,b,d,h,q=>by
  cases c<;>try(simp[x9]at b;done)
  rename_i J K;simp only[x9]at b;split at b
  .rename_i u
   simp only[aD]at u;simp only[exec]at d;cases m:exec n ce x s with
   |none=>simp[m]at d
   |some p=>
    obtain⟨C,D⟩:=p;have z:=sc u.2 m;refine wp_seq (xE A i l x J s C D ids I a w _ u.1 m h λg E F G H st1=>?_);cases C with
    |exit j=>exact absurd rfl (z j)
    |c5=>
     simp only[m]at d;exact Gg A i l y K D e s' g E F G Q b d H λo L M N O st2=>q o L M N O (st1.trans st2)
    |ret=>
     simp only[m,aS,Prod.mk.injEq]at d;obtain⟨rfl,rfl⟩:=d;exact(q g E F G H st1).2 ab
  .simp at b
 |.skip,_,_,_,_,_,_,_,_,_,b,_,_,_ | .bM _,_,_,_,_,_,_,_,_,_,b,_,_,_ | .cond ..,_,_,_,_,_,_,_,_,_,b,_,_,_ | .fh ..,_,_,_,_,_,_,_,_,_,b,_,_,_ | .block ..,_,_,_,_,_,_,_,_,_,b,_,_,_ | .loop _,_,_,_,_,_,_,_,_,_,b,_,_,_ | .ret,_,_,_,_,_,_,_,_,_,b,_,_,_ | .mW _,_,_,_,_,_,_,_,_,_,b,_,_,_ | .lex _,_,_,_,_,_,_,_,_,_,b,_,_,_ | .bad,_,_,_,_,_,_,_,_,_,b,_,_,_ | .cut ..,_,_,_,_,_,_,_,_,_,b,_,_,_ | .rq _,_,_,_,_,_,_,_,_,_,b,_,_,_=>by simp[x9]at b
def UA{n k:Nat}{s1 s2:St}{di:Nat->Nat}{I1:Nat->Prop}{a1:Act}{w1:World}(hk:k<sl.length) (he:(exec n ce (.mW k) s1).map (·.2)=some s2) (h1:Rel sl nt ds s1 (ad s1.σ di I1) a1 w1) :
  ∃I2,Rel sl nt ds s2 (ad s2.σ di I2) a1 w1/\Step (ad s1.σ di I1) w1 (ad s2.σ di I2) w1:=by
 simp only[exec]at he;split at he
 case h_2=>simp at he
 rename_i v hv;simp only[Option.map_some,aS]at he;subst he;obtain⟨t,ht⟩:∃t,sl[k]? = some t:=⟨_,cG hk⟩;obtain⟨I2,g1,g2,g3⟩:=DM (λb=>(reach s1.σ vd (nth s1.vars k) []).contains b) h1.good hv (h1.vars k t ht);refine⟨I2,⟨g1,h1.size,h1.defers,λj t' hj=>?_,λt' v' Nb =>VR.mono g2.ev _ _ (h1.fl t' v' Nb)⟩,g2⟩;simp only;rw[pZ]
 by_cases e:j=k/\k<s1.vars.length
 .rw[ah e]
  have:t' = t:=by rw[e.1,ht]at hj;simp at hj;exact hj.symm
  subst this
  by_cases hs:gg s1.σ (nth s1.vars k)=true
  .rw[ah hs];exact DO hs (h1.vars k t' ht) g3
  .rw[ae hs];exact g3
 .rw[ae e]
  exact VR.mono g2.ev _ _ (h1.vars j t' hj)
end Ab
