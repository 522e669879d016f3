/- Memory, and each operation that makes, lengthens or turns blocks, is what the small language says. Condition: the callees answer as the interpreter says. Two more operations of Go's: the capacity of a nil slice, and clear. One operation of a phase, whatever it is. Condition: the callees answer as the interpreter says. Condition: none. -/
import Derived.Test.YtcdccenbhiddcaaGreatAbM
import Derived.Great.BuildSlice
import Derived.Laws.CopyRow
import Derived.Laws.BytesString
import Derived.Lib.ConvBytes
import Derived.Laws.AppendOwn
import Derived.OrdersIn
import Derived.RangeFuncCalls
set_option linter.all false
namespace Ab
open Go
variable{P:Program}
def fw (r:Option Nat):Fence:={Fence.wide with round:=r}
def aX (P:Program) (o:Oper) (a:Act) (w:World) (Post:Value->World->Prop):Prop:=
 ∀(r:Option Nat) (K:Act->World->Prop) (Q:Exit->Act->World->Prop),(∀v b, Post v b ->K (a.put o.dst v) b)->o.wpIn (fw r) 0 P a w K Q
variable{o:Oper}{w': World}
def wD{r:Option Nat}{a:Act}{w: World}{x:Next}(h:(execOp a.eval o).run P w = .ok x w') (e:∀d,x ≠ .defer d):(o.semAt (fw r).round a.eval).run P w = .ok x w' :=by
 rw[Oper.semAt_eq]
 .exact h
 .intro c f
  simp only[execOp,f,aN]at h;cases b:(resolve a.eval c o.type).run P w with
  |ok d g=>rw[b]at h;simp only[Result.andThen,aZ,Result.ok.injEq]at h;exact e _ h.1.symm
  |halt _ _=>rw[b]at h;simp[Result.andThen]at h
variable{Post:Value->World->Prop}
def aX.val{a:Act}{w: World}{v:Value}(h:(execOp a.eval o).run P w = .ok (.value v) w') (Y:Post v w'):aX P o a w Post:=λr K Q hk=>
 ⟨λ_ _=>trivial,by rw[wD h ab];exact hk _ _ Y⟩
def aX.skip{a:Act}{w: World}(h:(execOp a.eval o).run P w = .ok .skip w') (Y:Post undef w'):aX P o a w Post:=λr K Q hk=>
 ⟨λ_ _=>trivial,by rw[wD h ab];exact hk _ _ Y⟩
variable{f:FuncId}{args:Array Value}
def Le{r:Option Nat}{n:Nat}{w:World}{R:Ending->World->Prop}(h:Calls P f args w R):CallsIn (fw r) n P f args w R:=by
 cases r with
 |none=>exact callsIn_wide.2 h
 |some l=>exact CallsIn.inRound l (callsIn_wide.2 h)
def aX.call{a:Act}{w:World}(h:(execOp a.eval o).run P w = .ok (.enter f args) w)
  (Y:Calls P f args w λe w' =>∃v,e = .returned v/\Post v w'):aX P o a w Post:=λr K Q hk=>
 ⟨λ_ _=>trivial,by
  rw[wD h ab,Oper.uponIn_enter]
  refine⟨λh=>by simp[fw,Fence.wide]at h,Le (Y.mono ?_)⟩
  rintro e w' ⟨v,rfl,hp⟩;exact hk _ _ hp⟩
def aX.mono{a:Act}{w:World}{Post Y : Value->World->Prop}(h:aX P o a w Post) (hp:∀v w', Post v w' ->Y v w'):aX P o a w Y :=
 λr K Q hk=>h r K Q λv w' h' =>hk v w' (hp v w' h')
def bj (w:World) (o:Obj):World:={w with heap:=w.heap.push o}
def jc (w:World) (o:Obj){k:Nat}(h:k<w.heap.size):(bj w o).heap[k]? = w.heap[k]?:=by
 show(w.heap.push o)[k]? = _;rw[Array.getElem?_push,ae aa]
def kI (w:World) (o:Obj):(bj w o).heap[w.heap.size]? = some o:=by
 show(w.heap.push o)[w.heap.size]? = _;simp
theorem qQ (w:World) (el:TypeId) (cs:Array Value):(newRow el cs).run P w = .ok ⟨w.heap.size,0,none⟩ (bj w (.cells cs el)):=rfl
theorem tu (w:World) (t:TypeId) (v:Value):(newVar t v).run P w = .ok ⟨w.heap.size,0,none⟩ (bj w (.cells v.cells t)):=rfl
def Good.grow{C:Ctx}{w: World}(hg:Good C w) (hs:w.heap.size<=w'.heap.size) (Y:∀k,k<w.heap.size->w'.heap[k]? = w.heap[k]?):Good C w' /\cF C w.heap C w'.heap:=by
 have ev:cF C w.heap C w'.heap:=by
  refine⟨λ_ h=>h,λk hk=>Y k (hg.I k hk),λ_ _ h=>h,λb u B' id _ ho=>⟨B', ho,rfl,rfl,λc el hc=>⟨c,?_,rfl⟩⟩⟩;rw[Y id (eK.1 hc).1];exact hc
 refine⟨⟨λk hk=>Nat.lt_of_lt_of_le (hg.I k hk) hs,hg.ij,λb u B id ho hl=>?_,hg.apart,λb u B id es ho hl=>hg.bG ev ho hl (Y id (hg.lt ⟨b,u,B,ho,gN hl⟩)) (hg.maps b u B id es ho hl).1⟩,ev⟩;obtain⟨h1,c,el,h2,h3,h4⟩:=hg.live b u B id ho hl;refine⟨h1,c,el,by rw[Y id (eK.1 h2).1];exact h2,h3,λi x hi=>?_⟩
 obtain⟨y,g1,g2,g3⟩:=h4 i x hi;exact⟨y,g1,VR.mono ev _ _ g2,g3⟩
def Good.lD{C:Ctx}{w: World}(hg:Good C w) (hs:w.heap.size<=w'.heap.size) (Y:∀k,k<w.heap.size->w'.heap[k]? = w.heap[k]?) (I' : Nat->Prop) (h1:∀k,C.I k->I' k) (h2:∀k,I' k->k<w'.heap.size)
  (h3:∀k,I' k->C.I k\/w.heap.size<=k) (ho:w'.os=w.os) (ht:w'.tape=w.tape/\w.drawn<=w'.drawn) (Lf:w'.output=w.output):Good {C with I:=I'} w' /\Step C w {C with I:=I'} w' :=by
 have ev:cF C w.heap {C with I:=I'} w'.heap:=by
  refine⟨h1,λk hk=>Y k (hg.I k hk),λ_ _ h=>h,λb u B' id _ ho=>⟨B', ho,rfl,rfl,λc el hc=>⟨c,?_,rfl⟩⟩⟩;rw[Y id (eK.1 hc).1];exact hc
 refine⟨⟨h2,hg.ij,λb u B id ho hl=>?_,hg.apart,λb u B id es ho hl=>hg.bG ev ho hl (Y id (hg.lt ⟨b,u,B,ho,gN hl⟩)) (λhi=>(h3 id hi).elim (hg.maps b u B id es ho hl).1 (λh=>by have:=hg.lt ⟨b,u,B,ho,gN hl⟩;omega))⟩,⟨ev,hs,λk hk _=>Y k hk,λk hk=>.inl hk,λk hk=>(h3 k hk).elim .inl (λh=>.inr (.inr h)),ho,ht,Lf⟩⟩
 obtain⟨g1,c,el,g2,g3,g4⟩:=hg.live b u B id ho hl;have bP:=(eK.1 g2).1;refine⟨λhi=>(h3 id hi).elim g1 (λh=>aa),c,el,by rw[Y id bP];exact g2,g3,λi x hi=>?_⟩
 obtain⟨y,k1,k2,k3⟩:=g4 i x hi;exact⟨y,k1,VR.mono ev _ _ k2,k3⟩
def wE{C:Ctx}{w:World}(b:Good C w) (c:Array Value) (el:TypeId):Good {C with I:=λk=>C.I k\/k=w.heap.size} (bj w (.cells c el))/\Step C w {C with I:=λk=>C.I k\/k=w.heap.size} (bj w (.cells c el)):=
 b.lD (by simp[bj]) (λk a=>jc w _ a) _ (λk a=>.inl a) (λk a=>a.elim (λh=>by have:=b.I k h;simp[bj];omega) (λh=>by simp[bj];omega))
  (λk a=>a.elim .inl (λh=>.inr aa)) rfl ⟨rfl,aY _⟩ rfl
def al (C:Ctx) (b u:Nat) (e:aj×Nat):Ctx where
 I:=C.I
 own:=λa d =>if a = b/\d = u then some e else C.own a d
 lim:=λa d =>(a = b/\d = u)\/C.lim a d
variable{b:Nat}
def wF{C:Ctx}{w:World}(m:Good C w)(B:aj) (S:¬C.lim b B.cells.length) (c:Array Value) (el:TypeId) (o:B.st = .live) (hle:B.cells.length<=c.size)
  (T:∀(i:Nat) x,B.cells[i]? = some x->∃y,c[i]? = some y/\VR C w.heap x y/\y.oneCell' = true) :
  Good (al C b B.cells.length (B,w.heap.size)) (bj w (.cells c el))/\Step C w (al C b B.cells.length (B,w.heap.size)) (bj w (.cells c el)):=by
 have ev:cF C w.heap (al C b B.cells.length (B,w.heap.size)) (bj w (.cells c el)).heap:=by
  refine⟨λ_ h=>h,λk g=>jc w _ (m.I k g),λ_ _ h=>.inr h,λd e l id j a=>?_⟩;have n:¬(d = b/\e = B.cells.length):=λ⟨s,u⟩=>S (s▸u▸j);simp only[al,ae n]at a;refine⟨l, a,rfl,rfl,λH A D =>⟨H, ?_,rfl⟩⟩;rw[jc w _ (eK.1 D).1];exact D
 have p:∀k,owned C k->k<w.heap.size:=λk g=>m.lt g;refine⟨⟨λk g=>by have:=m.I k g;simp[bj];omega,λd e l id a=>?_,λd e l id a j=>?_,λb1 J N i1 K L O P q Q r R n=>?_,λd e l id es a j=>?_⟩,
  ⟨ev,by simp[bj],λk g _=>jc w _ g,λk g=>?_,λk g=>.inl g,rfl,⟨rfl,aY _⟩,rfl⟩⟩
 .by_cases f:d = b/\e = B.cells.length
  .simp only[al,ah f]at a
   simp at a;obtain⟨rfl,rfl⟩:=a;exact⟨.inl f,f.2,λh=>by rw[o]at h;simp at h,by rw[o];simp⟩
  .simp only[al,ae f]at a
   obtain⟨E,z,F,M⟩:=m.ij d e l id a;exact⟨.inr E,z,F,M⟩
 .by_cases f:d = b/\e = B.cells.length
  .simp only[al,ah f]at a
   simp at a;obtain⟨rfl,rfl⟩:=a;refine⟨λG=>Nat.lt_irrefl _ (m.I _ G),c,el,kI w _,hle,λi x G=>?_⟩;obtain⟨y,E,z,F⟩:=T i x G;exact⟨y,E,VR.mono ev _ _ z,F⟩
  .simp only[al,ae f]at a
   obtain⟨E,H, A, z,F,M⟩:=m.live d e l id a j;refine⟨E,H, A, by rw[jc w _ (eK.1 z).1];exact z,F,λi x G=>?_⟩
   obtain⟨y,U,V,W⟩:=M i x G;exact⟨y,U,VR.mono ev _ _ V,W⟩
 .by_cases s:b1=b/\J=B.cells.length<;>by_cases u:K=b/\L=B.cells.length
  .exact absurd (s.1.trans u.1.symm) n
  .simp only[al,ah s]at q;simp only[al,ae u]at r
   simp at q;obtain⟨rfl,rfl⟩:=q;have:=p P ⟨K,L,O,r,R⟩;omega
  .simp only[al,ae s]at q;simp only[al,ah u]at r
   simp at r;obtain⟨rfl,rfl⟩:=r;have:=p i1 ⟨b1,J,N,q,Q⟩;omega
  .simp only[al,ae s]at q;simp only[al,ae u]at r
   exact m.apart b1 J N i1 K L O P q Q r R n
 .by_cases f:d = b/\e = B.cells.length
  .simp only[al,ah f]at a
   simp at a;obtain⟨rfl,rfl⟩:=a;rw[o]at j;simp at j
  .simp only[al,ae f]at a
   exact m.bG (C' :=al C b B.cells.length (B,w.heap.size)) (w' :=bj w (.cells c el)) ev a j (jc w _ (p id ⟨d, e, l, a,gN j⟩)) (m.maps d e l id es a j).1
 .obtain⟨d, e, l, a,j⟩:=g
  by_cases f:d = b/\e = B.cells.length
  .simp only[al,ah f]at a
   simp at a;right;omega
  .simp only[al,ae f]at a
   exact .inl ⟨d, e, l, a,j⟩
def Lg{C:Ctx}{w:World}(m:Good C w)(Q:¬C.lim b 0) :
  Good (al C b 0 (⟨some 0,[],.map []⟩,w.heap.size)) (bj w (.map #[] 0))/\Step C w (al C b 0 (⟨some 0,[],.map []⟩,w.heap.size)) (bj w (.map #[] 0)):=by
 have ev:cF C w.heap (al C b 0 (⟨some 0,[],.map []⟩,w.heap.size)) (bj w (.map #[] 0)).heap:=by
  refine⟨λ_ h=>h,λk j=>jc w _ (m.I k j),λ_ _ h=>.inr h,λd e l id g a=>?_⟩;have n:¬(d = b/\e = 0):=λ⟨r,s⟩=>Q (r▸s▸g);simp only[al,ae n]at a;refine⟨l, a,rfl,rfl,λB u z =>⟨B, ?_,rfl⟩⟩;rw[jc w _ (eK.1 z).1];exact z
 have o:∀k,owned C k->k<w.heap.size:=λk j=>m.lt j;refine⟨⟨λk j=>by have:=m.I k j;simp[bj];omega,λd e l id a=>?_,λd e l id a g=>?_,λb1 D L i1 E F M N p O q P n=>?_,λd e l id es a g=>?_⟩,
  ⟨ev,by simp[bj],λk j _=>jc w _ j,λk j=>?_,λk j=>.inl j,rfl,⟨rfl,aY _⟩,rfl⟩⟩
 .by_cases f:d = b/\e = 0
  .simp only[al,ah f]at a
   simp at a;obtain⟨rfl,rfl⟩:=a;exact⟨.inl f,f.2,λh=>cy,ab⟩
  .simp only[al,ae f]at a
   obtain⟨G,A,H,J⟩:=m.ij d e l id a;exact⟨.inr G,A,H,J⟩
 .by_cases f:d = b/\e = 0
  .simp only[al,ah f]at a
   simp at a;obtain⟨rfl,rfl⟩:=a;simp at g
  .simp only[al,ae f]at a
   obtain⟨G,B, u, A,H,J⟩:=m.live d e l id a g;refine⟨G,B, u, by rw[jc w _ (eK.1 A).1];exact A,H,λi x K=>?_⟩
   obtain⟨y,R,S,T⟩:=J i x K;exact⟨y,R,VR.mono ev _ _ S,T⟩
 .by_cases r:b1=b/\D=0<;>by_cases s:E=b/\F=0
  .exact absurd (r.1.trans s.1.symm) n
  .simp only[al,ah r]at p;simp only[al,ae s]at q
   simp at p;obtain⟨rfl,rfl⟩:=p;have:=o N ⟨E,F,M,q,P⟩;omega
  .simp only[al,ae r]at p;simp only[al,ah s]at q
   simp at q;obtain⟨rfl,rfl⟩:=q;have:=o i1 ⟨b1,D,L,p,O⟩;omega
  .simp only[al,ae r]at p;simp only[al,ae s]at q
   exact m.apart b1 D L i1 E F M N p O q P n
 .by_cases f:d = b/\e = 0
  .simp only[al,ah f]at a
   simp at a;obtain⟨rfl,rfl⟩:=a;simp at g;subst g;exact⟨λK=>Nat.lt_irrefl _ (m.I _ K),#[],0,kI w _,rfl⟩
  .simp only[al,ae f]at a
   exact m.bG (C' :=al C b 0 (⟨some 0,[],.map []⟩,w.heap.size)) (w' :=bj w (.map #[] 0)) ev a g (jc w _ (o id ⟨d, e, l, a,gN g⟩)) (m.maps d e l id es a g).1
 .obtain⟨d, e, l, a,g⟩:=j
  by_cases f:d = b/\e = 0
  .simp only[al,ah f]at a
   simp at a;right;omega
  .simp only[al,ae f]at a
   exact .inl ⟨d, e, l, a,g⟩
end Ab
set_option linter.all false
namespace Ab
open Go
variable{P:Program}
def bn (P:Program) (ce:CE):Prop:=
 ∀f args d r b, ce f args d=some (r,b)->∀(ids:Nat->Nat) (I:Nat->Prop) (w:World) (i:List Value),Good (ad d ids I) w->bm (ad d ids I) w.heap args i->
  Calls P f i.toArray w λe g =>∃v a h, e = .returned v/\Good (ad b a h) g /\VR (ad b a h) g.heap r v/\Step (ad d ids I) w (ad b a h) g
def b7 (C:Ctx) (w:World) (x:AV) (v:Value) (w' : World):Prop:=
 ∃a, Good {C with I:=a} w' /\Step C w {C with I:=a} w' /\VR {C with I:=a} w'.heap x v
variable{x:AV}
def b7.same{C:Ctx}{w:World}{v:Value}(Y:Good C w) (h:VR C w.heap x v):b7 C w x v w:=⟨C.I,Y,Step.refl _ _,h⟩
def Cw{C:Ctx}{w:World}(a:Good C w) (ids:Nat->Nat):Good (ad [] ids C.I) w:=
 ⟨a.I,λb u B id h=>c7,λb u B id h=>c7,λb u B id e f g d h=>c7,λb u B id es h=>c7⟩
def kb{ids:Nat->Nat}{I:Nat->Prop}{k:Nat}:¬owned (ad [] ids I) k:=λ⟨b,u,B,h,_⟩=>c7
variable{f:Nat}{vs:List Value}
def wG{ce:CE}(l:bn P ce){args:List AV}(h:iu ce f args=some x){C:Ctx}{w:World}(r:Good C w)(s:bm C w.heap args vs) :
  Calls P f vs.toArray w λe w' =>∃v,e = .returned v/\b7 C w x v w' :=by
 unfold iu at h;split at h<;>try(simp at h;done)
 rename_i y;cases m:ce f (args.map wk) []with
 |none=>simp[m]at h
 |some rs=>
  obtain⟨z,j⟩:=rs;simp only[m]at h;have n:bm (ad [] (λ_=>0) C.I) w.heap (args.map wk) vs:=(bm.free (show kJ C w.heap (ad [] (λ_=>0) C.I) w.heap from⟨λ_ h=>h,λ_ _=>rfl⟩) _ _ y s).wk;refine(l f _ [] z j m (λ_=>0) C.I w vs (Cw r _) n).mono ?_;rintro e w' ⟨v,d, o, rfl,i,A,g⟩;refine⟨v,rfl,?_⟩
  let p:Nat->Prop:=λk=>o k\/owned (ad j d o) k
  have q:=Cx (C2:={C with I:=p}) (λb u B _ D=>⟨_,kc d o D⟩) i (fr:=false) ⟨λ_ k a=>.inl a,λk a=>.inr a⟩ h A
  obtain⟨E,F⟩:=r.lD g.size (λk a=>g.frame k a kb) p (λk a=>.inl (g.ev.aA k a)) (λk a=>a.elim (i.I k) i.lt)
   (λk a=>a.elim (λh=>(g.cv k h).elim .inl (λh=>h.elim (λh=>absurd h kb) .inr)) (λh=>(g.cm k h).elim (λh=>absurd h kb) .inr)) g.os g.tape g.output
  exact⟨p,E,F,q⟩
def Lh{ce:CE}(n:bn P ce){σ:List aj}{args d : List AV}{o:AV}{σ' : List aj}(E:aM (view σ false vd) args=some d) (F:ce f d []=some (o,σ')) (G:bu σ' true o=some x)
  {C:Ctx} {w:World} (j:Good C w) (p:∀b u B,C.lim b u->upto σ b u=some B->∃id,C.own b u=some (B,id))  (q:bm C w.heap args vs) :
  Calls P f vs.toArray w λe w' =>∃v,e = .returned v/\b7 C w x v w' :=by
 let m:Nat->Prop:=λk=>C.I k\/owned C k
 have r:Good (ad [] (λ_=>0) m) w:=
  ⟨λk a=>a.elim (j.I k) j.lt,λb u B id h=>c7,λb u B id h=>c7,λb u B id O Q R H h=>c7,λb u B id es h=>c7⟩
 have s:bm (ad [] (λ_=>0) m) w.heap d vs:=
  (qR (λx y v J q=>tw (C2:=ad [] (λ_=>0) m) p j (fr:=false) ⟨λ_ k a=>.inl a,λk a=>.inr a⟩ vd x y v J q) E q).2
 refine(n f d [] o σ' F (λ_=>0) m w vs r s).mono ?_;rintro e w' ⟨v,g, D, rfl,l,K,i⟩;refine⟨v,rfl,?_⟩
 let z:Nat->Prop:=λk=>C.I k\/owned (ad σ' g D) k
 have A:=Cx (C2:={C with I:=z}) (λb u B _ L=>⟨_,kc g D L⟩) l (fr:=true) ⟨λh=>cy,λk a=>.inr a⟩ G K
 obtain⟨M,N⟩:=j.lD i.size (λk a=>i.frame k a kb) z (λk a=>.inl a) (λk a=>a.elim (λh=>Nat.lt_of_lt_of_le (j.I k h) i.size) l.lt)
  (λk a=>a.elim .inl (λh=>(i.cm k h).elim (λh=>absurd h kb) .inr)) i.os i.tape i.output
 exact⟨z,M,N,A⟩
section
variable{a:Act}{r:Rf->AV}{w:World}{C:Ctx}{R:Operand->Rf->Bool}{ce:CE}{σ:List aj}{nl:Nat}{ps:List bI}
variable{o:Oper}{x:AV}
def Plain.does(Y:Good C w) (h:Plain P a.eval o w C w.heap x):aX P o a w (b7 C w x):=by
 obtain⟨v,h1,h2⟩:=h;exact aX.val h1 (b7.same Y h2)
variable{f:Nat}
def tx(h:bU P f=true) (args:Array Value) (w:World):(callFunc f args).run P w = .ok (.enter f args) w:=by
 unfold bU at h;cases a:P.funcs[f]? with
 |none=>simp[a]at h
 |some fn=>
  simp[a]at h;simp only[callFunc,aN,program,Sem.run,aU,a];rw[ae (by simpa using h.2)]
  cases d:fn.body with
  |none=>simp[d]at h
  |some b=>simp
variable{ca:Call}
def tz(b:o.op = .call ca) (d:ca.callee = .value (.func f)) (e:bU P f=true) (w:World) :
  (execOp a.eval o).run P w = .ok (.enter f (ca.args.toList.map a.eval).toArray) w:=by
 have:ca.args.map a.eval=(ca.args.toList.map a.eval).toArray:=by rw[<-Array.toList_inj];simp
 simp only[execOp,b,resolve,d,aN,Act.eval,Deferred.ofValue,aZ,aU,invoke];simp only[Array.append_empty,Array.empty_append];rw[show Array.map a.eval ca.args=(ca.args.toList.map a.eval).toArray from this];exact tx e _ w
variable{ys:List Rf}{p:Option bI}
def Li(d:bn P ce) (g:o.op = .call ca) (h:ca.callee = .value (.func f)) (i:bU P f=true) (j:Good C w)
  (l:bm C w.heap (ys.map r) (ca.args.toList.map a.eval)) (b:ev ce σ nl ps r (.kG f ys)=some (x,p)):aX P o a w (b7 C w x)/\p=none:=by
 simp only[ev]at b;cases e:iu ce f (ys.map r)with
 |none=>simp[e]at b
 |some m =>
  simp[e]at b;obtain⟨rfl,rfl⟩:=b;exact⟨aX.call (tz g h i w) (wG d e j l),rfl⟩
def Cy(i:bn P ce) (z:o.op = .call ca) (A:ca.callee = .value (.func f)) (D:bU P f=true) (E:Good C w)
  (j:∀b u B,C.lim b u->upto σ b u=some B->∃id,C.own b u=some (B,id))
  (s:bm C w.heap (ys.map r) (ca.args.toList.map a.eval)) (d:ev ce σ nl ps r (.nY f ys)=some (x,p)):aX P o a w (b7 C w x)/\p=none:=by
 simp only[ev]at d;cases g:aM (λx=>view σ false vd (r x)) ys with
 |none=>simp[g]at d
 |some e =>
  simp only[g]at d;cases h:ce f e []with
  |none=>simp[h]at d
  |some q=>
   obtain⟨F,l⟩:=q;simp only[h]at d;cases m:bu l true F with
   |none=>simp[m]at d
   |some H =>
    simp[m]at d;obtain⟨rfl,rfl⟩:=d;have n : aM (view σ false vd) (ys.map r)=some e :=by
     rw[<-g];clear g h s
     induction ys with
     |nil=>rfl
     |cons y ys G=>simp only[bC,aM,G]
    exact⟨aX.call (tz z A D w) (Lh i n h m E j s),rfl⟩
def bQ (P:Program) (ce:CE):Prop:=∀f args σ r,ce f args σ=some r->bU P f=true
def Lj{x:Operand}{vs:List Value}(b:o.op = .call ca) (d:ca.callee = .value x) (e:a.eval x = .func (.func f) #[] vs.toArray) (g:bU P f=true) (w:World) :
  (execOp a.eval o).run P w = .ok (.enter f (ca.args.toList.map a.eval++vs).toArray) w:=by
 have:Array.map a.eval ca.args++vs.toArray=(ca.args.toList.map a.eval++vs).toArray:=by rw[<-Array.toList_inj];simp
 simp only[execOp,b,resolve,d,aN,e,Deferred.ofValue,aZ,aU,invoke];simp only[Array.empty_append];rw[this];exact tx g _ w
variable{x0:Operand}{y:Rf}
def Lk(i:bn P ce) (j:bQ P ce) (n:o.op = .call ca) (s:ca.callee = .value x0) (u:Good C w)
  (l:VR C w.heap (r y) (a.eval x0)) (z:bm C w.heap (ys.map r) (ca.args.toList.map a.eval)) (g:ev ce σ nl ps r (.gP y ys)=some (x,p)):aX P o a w (b7 C w x)/\p=none:=by
 simp only[ev]at g;cases m:r y<;>simp only[m]at g<;>try(simp at g;done)
 rename_i f b;cases d:iu ce f (ys.map r++b)with
 |none=>simp[d]at g
 |some D =>
  simp[d]at g;obtain⟨rfl,rfl⟩:=g;rw[m]at l;unfold VR at l;obtain⟨vs,e,A⟩:=l;have B:bU P f=true:=by
   unfold iu at d;split at d<;>try(simp at d;done)
   cases h : ce f ((ys.map r++b).map wk) []with
   |none=>simp only[h]at d;simp at d
   |some q=>exact j _ _ _ _ h
  exact⟨aX.call (Lj n s e B w) (wG i d u (z.append A)),rfl⟩
def Ll{v:Value}(b:Good C w) (d:aB x=true) (e:VR C w.heap x v) (t:TypeId):b7 C w (.ar x) (.pointer (some ⟨w.heap.size,0,none⟩)) (bj w (.cells v.cells t)):=by
 obtain⟨f,a⟩:=wE b v.cells t;refine⟨_,f,a,?_⟩;unfold VR;exact⟨d,w.heap.size,0,v.cells,t,(0,0),v,rfl,.inr rfl,kI w _,VR.mono a.ev _ _ e,λj g=>ab⟩
def Lm{t:TypeId}(d:o.op = .box t x0) (e:Good C w) (f:VR C w.heap (r y) (a.eval x0)) (b:ev ce σ nl ps r (.cz y)=some (x,p)) :
  aX P o a w (b7 C w x)/\p=none:=by
 simp only[ev]at b;split at b<;>simp at b
 rename_i g;obtain⟨rfl,rfl⟩:=b;refine⟨aX.val (v:=.pointer (some ⟨w.heap.size,0,none⟩)) (w' :=bj w (.cells (a.eval x0).cells t)) ?_ (Ll e g f t),rfl⟩;simp only[execOp,d,Instr.box,aN,tu,aU,aZ]
end
end Ab
set_option linter.all false
namespace Ab
open Go
variable{P:Program}
section
variable{a:Act}{ρ:Operand->Value}{r:Rf->AV}{w:World}{C:Ctx}{R:Operand->Rf->Bool}{ce:CE}{σ:List aj}{nl:Nat}{ps:List bI}
def Cz (a:Nat):∀(vs:List Value) (k:Nat) (c:Array Value),(∀v,v∈vs->v.cells.size=a)->(k+vs.length)*a<=c.size->
  ∃c', Instr.fill (λi=>some (i*a,a)) c ((vs.zipIdx k).map λp=>(p.2,p.1))=some c' /\c'.size=c.size/\(∀i,i<k*a->c'[i]? = c[i]?)/\
   ∀(i:Nat) v,vs[i]? = some v->∀j,j<a->c'[(k+i)*a+j]? = v.cells[j]?
 | [],k,c,_,_=>⟨c,rfl,rfl,λ_ _=>rfl,λi v h=>cy⟩
 |v::vs,k,c,e,g=>by
  have l:=e v ab
  have r:k*a+a<=c.size:=by
   have:(k+1)*a<=(k+(v::vs).length)*a:=nZ _ ab
   rw[fa]at this;omega
  simp only[List.zipIdx_cons,bC,Instr.fill];rw[ae (by rw[l];simp;omega)]
  have d:∀i,(v.cells.zipIdx.foldl (λcs (c,j)=>cs.setIfInBounds (k*a+j) c) c).size=c.size/\(v.cells.zipIdx.foldl (λcs (c,j)=>cs.setIfInBounds (k*a+j) c) c)[i]? = if k*a<=i/\i<k*a+v.cells.size then v.cells[i-k*a]? else c[i]?:=λi=>by
   have:=wH (k*a) v.cells.toList 0 c i ai
   rw[<-Array.foldl_toList];simp only[Array.toList_zipIdx];simpa using this
  obtain⟨c', m,n,f,o⟩:=Cz a vs (k+1) (v.cells.zipIdx.foldl (λcs (c,j)=>cs.setIfInBounds (k*a+j) c) c) (λu b=>e u dS) (by
   rw[(d 0).1];have:(k+(v::vs).length)=k+1+vs.length:=ai
   rwa [this]at g)
  refine⟨c', m,by rw[n,(d 0).1],λi s=>?_,λi u b j q=>?_⟩
  .rw[f i (by rw[fa];omega),(d i).2,ae aa]
  .cases i with
   |zero=>
    simp at b;subst b;simp only[Nat.add_zero];rw[f _ (by rw[fa];omega),(d _).2,ah aa]
    congr 1;omega
   |succ i=>
    have:=o i u (by simpa using b) j q
    rw[show k+(i+1)=k+1+i by omega]
    exact this
def py{st:Nat}:∀{l:List AV},fitAll st l=true->∀x∈l,x.cells.length=st/\eG x
 | [],_,x,a=>by simp at a
 |y::l,h,x,a=>by
  simp only[fitAll,aD,bJ]at h;rcases bR.1 a with rfl|a
  .exact⟨h.1.1,tA h.1.2⟩
  .exact py h.2 x a
def CA:∀{k:Nat}{ps:List (Nat×Operand)},dx k ps=true->∀(f:Operand->Value),ps.map (λp=>(p.1,f p.2))=((ps.map λp=>f p.2).zipIdx k).map λp=>(p.2,p.1)
 |_,[],_,_=>rfl
 |k,(i,x)::r,h,f=>by
  simp only[dx,aD,bJ]at h;simp only[bC,List.zipIdx_cons,h.1];rw[CA h.2 f]
def bm.get'{H:Array Obj}:∀{l:List AV}{vs:List Value},bm C H l vs->∀(i:Nat) v,vs[i]? = some v->∃x,l[i]? = some x/\VR C H x v
 | [],vs,h,i,v,hi=>by rw[show vs=[]from h]at hi;simp at hi
 |x::l,_,⟨v0,s,e,Y,hr⟩,0,v,hi=>by rw[e]at hi;simp at hi;subst hi;exact⟨x,rfl,Y⟩
 |x::l,_,⟨v0,s,e,Y,hr⟩,i+1,v,hi=>by rw[e]at hi;exact bm.get' hr i v (by simpa using hi)
variable{t:TypeId}{st:Nat}{xs:Array (Nat×Operand)}{ys:List Rf}
def wI{e:TypeId}{n:Nat}(K:aG P t=some e) (u:bw P e st=true) (o:bK P e=true) (U:n*st<=2^24) (L:(n==xs.size)=true) (M:dx 0 xs.toList=true)
  (s:bm C w.heap (ys.map r) ((xs.toList.map (·.2)).map ρ)) (G:fitAll st (ys.map r)=true) :
  ∃c:Array Value,(Instr.buildSlice t n (xs.map λ(i,x)=>(i,ρ x))).run P w = .ok (.slice (some ⟨w.heap.size,0,none⟩) ys.length ys.length) (bj w (.cells c e))/\c.size=ys.length*st/\
   ∀(i:Nat) x,(ys.map r)[i]? = some x->∃v,VR C w.heap x v/\v.cells.size=st/\eG x/\∀j,j<st->c[i*st+j]? = v.cells[j]?:=by
 have hlen:ys.length=n:=by
  have a:=bm.length s;simp at a L;omega
 have y:(xs.map λ(i,x)=>(i,ρ x)).toList=(((xs.toList.map (·.2)).map ρ).zipIdx 0).map λp=>(p.2,p.1):=by
  have:=CA M ρ;simp only[Array.toList_map,List.map_map]at this ⊢;exact this
 have A:∀v,v∈(xs.toList.map (·.2)).map ρ->v.cells.size=st:=λv N=>by
  obtain⟨i,b⟩:=List.getElem?_of_mem N;obtain⟨x,a,d⟩:=bm.get' s i v b;obtain⟨g,B⟩:=py G x (ke a);rw[VR.size B d,g]
 obtain⟨z,D⟩:∃z,(zeroValue e).run P w = .ok z w:=by
  unfold bK at o;cases b:P.info? e with
  |none=>simp[b]at o
  |some i=>
   simp only[b]at o;cases h:i.zero with
   |none=>simp[h]at o
   |some z=>exact⟨z,by simp only[zeroValue,aN,run_typeInfo w b,aU,h,aZ]⟩
 have H:=jd K w;have l:=gp u w;have E:((xs.toList.map (·.2)).map ρ).length=n:=by have:=bm.length s;simp at this;simp;omega
 -- f O zero cells Q
 have key:∀m:Array Value,∃c,Instr.fill (λi=>some (i*st,st)) ((Array.range (n*st)).map λq=>m[q%m.size]!) (xs.map λ(i,x)=>(i,ρ x)).toList=some c/\c.size=ys.length*st/\
   ∀(i:Nat) x,(ys.map r)[i]? = some x->∃v,VR C w.heap x v/\v.cells.size=st/\eG x/\∀j,j<st->c[i*st+j]? = v.cells[j]?:=λm=>by
  obtain⟨c,a,d,_,B⟩:=Cz st ((xs.toList.map (·.2)).map ρ) 0 ((Array.range (n*st)).map λq=>m[q%m.size]!) A (by rw[E];simp)
  refine⟨c,by rw[y];exact a,by rw[d,hlen];simp,λi x b=>?_⟩
  obtain⟨v,R,I⟩:=s.get i x b;obtain⟨S,J⟩:=py G x (ke b);exact⟨v,I,by rw[VR.size J I,S],J,λj T=>by have:=B i v R j T;simpa using this⟩
 by_cases F:n*st=0
 .obtain⟨c,a,d,g⟩:=key #[]
  refine⟨c,?_,d,g⟩;simp only[Instr.buildSlice,aN,H,l,aU];rw[ae aa]
  simp only[F,cn,aN,aZ,aU];simp only[F]at a;simp only[a,qQ,aN,aZ,aU,hlen]
 .obtain⟨c,a,d,g⟩:=key z.cells
  refine⟨c,?_,d,g⟩;simp only[Instr.buildSlice,aN,H,l,aU];rw[ae aa]
  simp only[F,dg,aN,D, aZ,aU];simp only[a,qQ,aN,aZ,aU,hlen]
variable{o:Oper}{x:AV}{p:Option bI}
def Lo{e:TypeId}{n:Nat}(l:o.op = .buildSlice t n xs) (m:aG P t=some e) (d:bw P e st=true) (q:bK P e=true) (s:n*st<=2^24) (u:(n==xs.size)=true) (f:dx 0 xs.toList=true)
  (y:Good C w) (z:bm C w.heap (ys.map r) ((xs.toList.map (·.2)).map a.eval)) (b:ev ce σ nl ps r (.cA ys st)=some (x,p)):aX P o a w (b7 C w x)/\p=none:=by
 simp only[ev]at b;split at b<;>simp at b
 rename_i g;obtain⟨rfl,rfl⟩:=b;simp only[aD]at g;obtain⟨c,A,J,B⟩:=wI m d q s u f z g.2;refine⟨aX.val (v:=.slice (some ⟨w.heap.size,0,none⟩) ys.length ys.length) (w' :=bj w (.cells c e)) ?_ ?_,rfl⟩
 .simp only[execOp,l,aN,A,aU,aZ]
 .obtain⟨D,h⟩:=wE y c e
  refine⟨_,D,h,?_⟩;unfold VR;refine⟨g.1,.inr ⟨w.heap.size,0,ys.length,st,c,e,(0,0),ab,ab,.inr rfl,kI w _,fF.of λi x E=>?_⟩⟩
  obtain⟨v,F,G,_,H⟩:=B i x E;exact⟨v,VR.mono h.ev _ _ F,G,λj I=>by rw[eL];exact H j I⟩
def CB{e:TypeId}{n:Nat}(h:o.op = .buildSlice t n xs) (l:aG P t=some e) (d:bw P e st=true) (m:bK P e=true) (q:n*st<=2^24) (s:(n==xs.size)=true) (f:dx 0 xs.toList=true)
  (u:Good C w) (y:bm C w.heap (ys.map r) ((xs.toList.map (·.2)).map a.eval)) (b:ev ce σ nl ps r (.bY ys st)=some (x,p)):aX P o a w (b7 C w x)/\p=none:=by
 simp only[ev]at b;split at b<;>simp at b
 rename_i z;obtain⟨rfl,rfl⟩:=b;obtain⟨c,A,J,B⟩:=wI l d m q s f y z;refine⟨aX.val (v:=.slice (some ⟨w.heap.size,0,none⟩) ys.length ys.length) (w' :=bj w (.cells c e)) ?_ ?_,rfl⟩
 .simp only[execOp,h,aN,A,aU,aZ]
 .obtain⟨D,g⟩:=wE u c e
  refine⟨_,D,g,?_⟩;unfold VR;refine⟨w.heap.size,0,st,c,e,(0,0),ab,.inr rfl,kI w _,fF.of λi x E=>?_⟩
  obtain⟨v,F,G,_,H⟩:=B i x E;exact⟨v,VR.mono g.ev _ _ F,G,λj I=>by rw[eL];exact H j I⟩
def Ext (nl:Nat):Option bI->Ctx->Ctx->Prop
 |none,C,C' =>C'.own=C.own/\C'.lim=C.lim
 |some (.new B),C,C' =>∃id,C'.own=(al C nl B.cells.length (B,id)).own/\C'.lim=(al C nl B.cells.length (B,id)).lim
 |some (.news l),C,C' =>∃ids:Nat->Nat,C'.own=(λb u=>if nl<=b/\b<nl+l.length then(ad l ids C.I).own (b-nl) u else C.own b u)/\C'.lim=(λb u=>(nl<=b/\(ad l ids C.I).lim (b-nl) u)\/C.lim b u)
 |some (.grow b cs),C,C' =>∃a d id,cs ≠ []/\C.own b a.cells.length=some (a,d)/\C'.own=(al C b (a.cells++cs).length (⟨a.k,a.cells++cs,.live⟩,id)).own/\C'.lim=(al C b (a.cells++cs).length (⟨a.k,a.cells++cs,.live⟩,id)).lim
def fb (nl:Nat) (C:Ctx) (w:World) (x:AV) (p:Option bI) (v:Value) (w' : World):Prop:=
 ∃a, Good a w' /\Step C w a w' /\VR a w'.heap x v/\Ext nl p C a
def Lp{e:TypeId}{n:Nat}(i:o.op = .buildSlice t n xs) (j:aG P t=some e) (d:bw P e st=true) (l:bK P e=true) (f:n=0) (b:xs.size=0)
  (m:Good C w) (g:ev ce σ nl ps r (.mG st)=some (x,p)):aX P o a w (b7 C w x)/\p=none:=by
 simp only[ev,aS,Prod.mk.injEq]at g;obtain⟨rfl,rfl⟩:=g;obtain⟨q,_⟩:=CB (P:=P) (a:=a) (r:=r) (ce:=ce) (σ:=σ) (nl:=nl) (ps:=ps) (ys:=[]) (x:=.arr []) (p:=none) i j d l (by subst f;simp) (by rw[b,f];rfl) (by
  have:xs.toList=[]:=by rw[<-List.length_eq_zero_iff];simpa using b
  rw[this];rfl) m (by
  have:xs.toList=[]:=by rw[<-List.length_eq_zero_iff];simpa using b
  rw[this];rfl) (by simp[ev,fitAll])
 refine⟨q.mono λv B ⟨s, u,y,h⟩=>⟨s, u,y,?_⟩,rfl⟩;unfold VR at h ⊢;obtain⟨ay,off,z, c,el,D,A,_⟩:=h;exact⟨_,A⟩
variable{v:Value}
def b7.e{nl:Nat}{w' : World}(h:b7 C w x v w'):fb nl C w x none v w' :=by
 obtain⟨I', Y,h2,h3⟩:=h;exact⟨_,Y,h2,h3,rfl,rfl⟩
variable{B:aj}{c:Array Value}{el:TypeId}
def tB(b:Good C w) (d:∀u,¬C.lim nl u) (a:B.st = .live) (hle:B.cells.length<=c.size)
  (e:∀(i:Nat) x,B.cells[i]? = some x->∃y,c[i]? = some y/\VR C w.heap x y/\y.oneCell' = true)
  (f:∀C', C'.own nl B.cells.length=some (B,w.heap.size)->C'.lim nl B.cells.length->VR C' (bj w (.cells c el)).heap x v):fb nl C w x (some (.new B)) v (bj w (.cells c el)):=by
 obtain⟨g,h⟩:=wF b B (d _) c el a hle e;exact⟨_,g,h,f _ (by simp[al]) (.inl ⟨rfl,rfl⟩),w.heap.size,rfl,rfl⟩
def wJ{H:Array Obj}(b:eG x) (h:VR C H x v):∀(i:Nat) q,x.cells[i]? = some q->∃y,v.cells[i]? = some y/\VR C H q y/\y.oneCell' = true:=λi q d=>by
 obtain⟨e,f⟩:=VR.cells b h;obtain⟨y,a,g⟩:=e.get i q d;rw[gQ]at a;exact⟨y,a,g,f y (by rw[n5];exact Array.mem_of_getElem? a)⟩
variable{id b u:Nat}
def CC{C' : Ctx}{H:Array Obj}(a:C'.own b u=some (B,id)) (d:C'.lim b u):VR C' H (.ptr b u 0) (.pointer (some ⟨id,0,none⟩)):=by
 unfold VR;exact⟨⟨id,rfl⟩,d,λf e h _=>by rw[a]at h;simp at h;rw[h.2]⟩
def qS{C' : Ctx}{H:Array Obj}{len cap:Nat}(d:C'.own b u=some (B,id)) (e:C'.lim b u) (f:B.st = .live) (g:H[id]? = some (.cells c el (0,0))) (a:len<=cap)
  (j:cap*aC B.k=c.size):VR C' H (.sl b u 0 len) (.slice (some ⟨id,0,none⟩) len cap):=by
 unfold VR;refine⟨⟨_,_,rfl,a,λ_=>⟨id,rfl⟩⟩,e,λl i h=>?_⟩;rw[d]at h;simp at h;obtain⟨rfl,rfl⟩:=h;simp only[f];exact⟨c,el,0,cap,g,rfl,λ_=>rfl,a,aa⟩
variable{k:Option Nat}
def Lq{d:Operand}{y:Rf}(j:o.op = .box t d) (l:Good C w) (m:∀u,¬C.lim nl u) (f:VR C w.heap (r y) (a.eval d))
  (b:ev ce σ nl ps r (.ti y k)=some (x,p)):aX P o a w (fb nl C w x p):=by
 simp only[ev]at b;split at b<;>simp at b
 rename_i e;simp only[aD,bJ]at e;obtain⟨rfl,rfl⟩:=b;have g:=tA e.2;refine aX.val (v:=.pointer (some ⟨w.heap.size,0,none⟩)) (w' :=bj w (.cells (a.eval d).cells t)) ?_ (tB l m rfl ?_ ?_ ?_)
 .simp only[execOp,j,Instr.box,aN,tu,aU,aZ]
 .rw[VR.size g f];exact aY _
 .exact wJ g f
 .intro n h i
  simp only[e.1]at h i;exact CC h i
def Lr{z:List AV}(j:o.op = .alloc t) (l:eN P t z=true) (m:Good C w) (n:∀u,¬C.lim nl u)
  (b:ev ce σ nl ps r (.j8 z k)=some (x,p)):aX P o a w (fb nl C w x p):=by
 simp only[ev]at b;split at b<;>simp at b
 rename_i e;simp only[bJ]at e;obtain⟨rfl,rfl⟩:=b;obtain⟨v,s,f,A⟩:=tC (C:=C) l w;refine aX.val (v:=.pointer (some ⟨w.heap.size,0,none⟩)) (w' :=bj w (.cells v.cells t)) ?_ (tB m n rfl ?_ ?_ ?_)
 .simp only[execOp,j,Instr.alloc,aN,s,tu,aU,aZ]
 .have:=bm.length f;simp at this;simp[this]
 .intro i q B
  obtain⟨y,d,D⟩:=f.get i q B;rw[gQ]at d;exact⟨y,d,D,A y (by rw[n5];exact Array.mem_of_getElem? d)⟩
 .intro E g h
  simp only[e]at g h;exact CC g h
def tD{st:Nat}:∀{l:List AV},(∀x∈l,x.cells.length=st)->(l.flatMap AV.cells).length=l.length*st/\∀(i:Nat) x j,l[i]? = some x->j<st->(l.flatMap AV.cells)[i*st+j]? = x.cells[j]?
 | [],_=>⟨ab,λi x j h=>cy⟩
 |y::l,h=>by
  obtain⟨d,e⟩:=tD (l:=l) λx f=>h x (by simp[f])
  have a:=h y ab
  refine⟨by simp only[gR,ez,d,a,eO];rw[fa];omega,λi x j b g=>?_⟩
  simp only[gR];cases i with
  |zero=>
   simp at b;subst b;rw[dG aa];simp
  |succ i=>
   rw[fk (by rw[a,fa];omega),a,<-e i x j (by simpa using b) g]
   congr 1
   rw[fa];omega
def CD{H:Array Obj}{l:List AV}{off:Nat}(f:∀x∈l,x.cells.length=st)
  (h:∀(i:Nat) x,l[i]? = some x->∃v,VR C H x v/\v.cells.size=st/\eG x/\∀j,j<st->c[off+(i*st+j)]? = v.cells[j]?) :
  ∀(i:Nat) q,(l.flatMap AV.cells)[i]? = some q->∃y,c[off+i]? = some y/\VR C H q y/\y.oneCell' = true:=λi q d=>by
 obtain⟨o,p⟩:=tD f;have b:=(cM.1 d).1;rw[o]at b;have a:0<st:=by
  rcases Nat.eq_zero_or_pos st with g|g
  .subst g;simp at b
  .exact g
 have m:i/st<l.length:=(Nat.div_lt_iff_lt_mul a).2 b;have n:=Nat.mod_lt i a;have e:i=i/st*st+i%st:=by rw[Nat.mul_comm];exact(Nat.div_add_mod i st).symm
 obtain⟨v,r,w,s,u⟩:=h (i/st) l[i/st] (by simp[m])
 rw[e]at d ⊢;rw[p (i/st) l[i/st] (i%st) (by simp[m]) n]at d
 rw[u _ n];exact wJ s r _ q d
def Ls{e:TypeId}{n:Nat}(ho:o.op = .buildSlice t n xs) (ht:aG P t=some e) (eA:aR P e k=true) (hz:bK P e=true) (KC : n*aC k<=2^24) (hn:(n==xs.size)=true) (hio:dx 0 xs.toList=true)
  (hg:Good C w) (hb:∀u,¬C.lim nl u) (hx:bm C w.heap (ys.map r) ((xs.toList.map (·.2)).map a.eval)) (he:ev ce σ nl ps r (.je ys k)=some (x,p)):aX P o a w (fb nl C w x p):=by
 simp only[ev]at he;split at he
 case isFalse=>simp at he
 rename_i hc;simp only[aS,Prod.mk.injEq]at he;obtain⟨rfl,rfl⟩:=he;obtain⟨c,h1,h2,h3⟩:=wI ht (jf eA) hz KC hn hio hx hc;have pz:∀x∈ys.map r,x.cells.length=aC k:=λx hx=>(py hc x hx).1;obtain⟨f1,f2⟩:=tD pz;refine aX.val (v:=.slice (some ⟨w.heap.size,0,none⟩) ys.length ys.length) (w' :=bj w (.cells c e)) ?_ (tB hg hb rfl ?_ ?_ ?_)
 .simp only[execOp,ho,aN,h1,aU,aZ]
 .simp only[f1,h2];simp
 .intro i q hi
  have:=CD (off:=0) pz (λi x hi=>by obtain⟨v,g1,g2,g3,g4⟩:=h3 i x hi;exact⟨v,g1,g2,g3,λj hj=>by rw[eL];exact g4 j hj⟩) i q hi
  simpa using this
 .intro C' k1 k2
  exact qS k1 k2 rfl (kI w _) (aY _) h2.symm
end
end Ab
set_option linter.all false
namespace Ab
open Go
variable{P:Program}
variable{w': World}
def Good.heap{C:Ctx}{w: World}(Y:Good C w) (h:w'.heap=w.heap):Good C w' :=
 ⟨by rw[h];exact Y.I,Y.ij,by rw[h];exact Y.live,Y.apart,by rw[h];exact Y.maps⟩
def Step.heap{C:Ctx}{w: World}(h:w'.heap=w.heap) (ho:w'.os=w.os) (ht:w'.tape=w.tape/\w.drawn<=w'.drawn) (Y:w'.output=w.output):Step C w C w' :=
 ⟨by rw[h];exact cF.refl _ _,by rw[h];exact aY _,λ_ _ _=>by rw[h],λ_ h=>.inl h,λ_ h=>.inl h,ho,ht,Y⟩
section
variable{a:Act}{ρ:Operand->Value}{r:Rf->AV}{w:World}{C:Ctx}{R:Operand->Rf->Bool}{ce:CE}{σ:List aj}{nl:Nat}{ps:List bI}
def wK (z:List AV):∀(n:Nat),(cS n z).length=n*z.length/\∀i,i<n*z.length->(cS n z)[i]? = z[i%z.length]?
 |0=>⟨by simp[cS],λi b=>by simp at b⟩
 |n+1=>by
  obtain⟨d,f⟩:=wK z n;have e:cS (n+1) z=z++cS n z:=by simp[cS,mH]
  refine⟨by rw[e,ez,d,fa];omega,λi b=>?_⟩
  rw[e]
  by_cases a:i<z.length
  .rw[dG a,Nat.mod_eq_of_lt a]
  .rw[fk aa,f _ (by rw[fa]at b;omega)]
   congr 1
   rw[Nat.mod_eq_sub_mod (by omega:z.length<=i)]
def CF{n:Int}(a:0<=n) (h:n<=cE):IntKind.i64.wrap n=n:=by
 unfold cE at h;exact IntWalk.i64_in n ⟨aa,aa⟩
def CG{e:TypeId}(h:c8 P e=true):∃i,P.info? e=some i/\i.bytes<=4096:=by
 unfold c8 at h;cases a:P.info? e with
 |none=>simp[a]at h
 |some i=>simp[a]at h;exact⟨i,rfl,h⟩
set_option maxRecDepth 100000 in
def Lt{o:Oper}{t e:TypeId}{l c:Operand}{l' c' : Rf}{z:List AV}{k:Option Nat}{x:AV}{p:Option bI}(ho:o.op = .makeSlice t l c) (ht:aG P t=some e) (hk:aR P e k=true) (hz:eN P e z=true) (oW:c8 P e=true)
  (hg:Good C w) (hb:∀u,¬C.lim nl u) (hl:VR C w.heap (r l') (a.eval l)) (hc:VR C w.heap (r c') (a.eval c)) (he:ev ce σ nl ps r (.kf l' c' z k)=some (x,p)):aX P o a w (fb nl C w x p):=by
 simp only[ev]at he;cases gF : r l' <;>simp only[gF]at he<;>try(simp at he;done)
 cases qT : r c' <;>simp only[qT]at he<;>try(simp at he;done)
 rename_i n m;split at he
 case isFalse=>simp at he
 rename_i dT;simp only[aS,Prod.mk.injEq]at he;obtain⟨rfl,rfl⟩:=he;rw[gF]at hl;rw[qT]at hc;have hl:=hl.bo;have hc:=hc.bo;obtain⟨h1,h2,h3,hzl⟩:=dT;obtain⟨M,rfl⟩:=dz (by omega:0<=m)
 obtain⟨N,rfl⟩:=dz h1;obtain⟨i,hi,oW⟩:=CG oW;have tE:=gp (jf hk) w;obtain⟨zv,z1,z2,z3⟩:=tC (C:=C) hz w;have CH:zv.cells.size=aC k:=by have:=bm.length z2;simp at this;omega
 have hM:(M:Int)<=1073741824:=h3;have CI:∀q:Nat,q<=1073741824->(i.bytes:Int)*(q:Int)<=4398046511104:=λq hq=>by
  have h1:i.bytes*q<=4096*1073741824:=jg oW hq;have h2:((i.bytes*q:Nat):Int)<=((4398046511104:Nat):Int):=Int.ofNat_le.2 aa
  rw[Int.natCast_mul]at h2;omega
 have hbm:=CI M aa
 let zc:Array Value:=if M*aC k=0 then #[]else zv.cells
 have cY:(Instr.makeSlice t (a.eval l) (a.eval c)).run P w = .ok (.slice (some ⟨w.heap.size,0,none⟩) N M) (bj w (.cells ((Array.range (M*aC k)).map λq=>zc[q%zc.size]!) e)):=by
  rw[hl,hc];have ha:(askRoom (M*i.bytes)).run P w = .ok () w:=by
   unfold askRoom roomBytes;have:M*i.bytes<=1073741824*4096:=jg aa oW
   rw[ae aa];rfl
  simp only[Instr.makeSlice,aN,jd ht,aU,asInt,asIntOf,aZ,run_typeInfo w hi];rw[CF (by omega:(0:Int)<=N) aa,CF (by omega:(0:Int)<=M) h3]
  have Lu : ¬((i.bytes:Int)*M>2^48):=by
   have:(2:Int)^48=281474976710656:=by decide
   omega
  have abc : ¬((i.bytes:Int)*N>2^48):=by
   have h48:(2:Int)^48=281474976710656:=by decide
   have:=CI N aa
   omega
  have c1:¬((M:Int)<0):=aa
  have c2:¬((N:Int)<0):=aa
  have c3:¬((N:Int)>(M:Int)):=aa
  simp only[c1,c2,c3,Lu, decide_false,Bool.or_self,cZ,dg,or_self,kg];simp only[aN,ha,tE,aU]
  by_cases h0:M*aC k=0
  .simp only[h0,cn,aN,aZ,aU,qQ]
   simp[zc,h0]
  .simp only[h0,dg,aN,z1,aZ,aU,qQ]
   simp[zc,h0]
 simp only[kg];obtain⟨d1,d2⟩:=wK z M;rw[hzl]at d1 d2;refine aX.val (v:=.slice (some ⟨w.heap.size,0,none⟩) N M) ?_ (tB (c:=(Array.range (M*aC k)).map λq=>zc[q%zc.size]!) (el:=e) hg hb rfl ?_ ?_ ?_)
 .simp only[execOp,ho,aN,cY,aU,aZ]
 .simp[d1]
 .intro j q hj
  have bP:=(cM.1 hj).1;simp only[d1]at bP;have oX : (cS M z)[j]? = some q:=hj;rw[d2 j bP]at oX;have fm:M*aC k ≠ 0:=aa
  have wL:0<aC k:=Nat.pos_of_ne_zero λh=>fm (by rw[h];simp)
  obtain⟨y,g1,g2⟩:=z2.get (j%aC k) q oX;rw[gQ]at g1;refine⟨y,?_,g2,z3 y (by rw[n5];exact Array.mem_of_getElem? g1)⟩
  have:zc=zv.cells:=by simp[zc,fm]
  rw[this,CH];have hm:=Nat.mod_lt j wL;rw[iv (by omega:j%aC k<zv.cells.size)]at g1
  simp at g1;simp[bP,getElem!_def,iv (by omega:j%aC k<zv.cells.size),g1]
 .intro C' k1 k2
  exact qS k1 k2 rfl (kI w _) aa ab
variable{o:Oper}{x:AV}{p:Option bI}
def Lv{t:TypeId}(d:o.op = .makeMap t none) (e:Good C w) (f:∀u,¬C.lim nl u)
  (b:ev ce σ nl ps r .vG=some (x,p)):aX P o a w (fb nl C w x p):=by
 simp only[ev,aS,Prod.mk.injEq]at b;obtain⟨rfl,rfl⟩:=b;obtain⟨g,i⟩:=Lg e (f 0);refine aX.val (v:=.map (some w.heap.size)) (w' :=bj w (.map #[] 0)) ?_ ⟨_,g,i,?_,w.heap.size,rfl,rfl⟩
 .simp only[execOp,d,Instr.makeMap,aN]
  rfl
 .unfold VR
  refine⟨⟨_,rfl⟩,.inl ⟨rfl,rfl⟩,λB id h _=>?_⟩;simp[al]at h;rw[<-h.2]
def CJ{z:Operand}{k:Option Nat}(O:o.op = .assign z) (Q:fW z=true) (m:Good C w) (R:∀u,¬C.lim nl u)
  (A:ev ce σ nl ps r (.nl k)=some (x,p)):aX P o a w (fb nl C w x p):=by
 simp only[ev]at A;simp only[aS,Prod.mk.injEq]at A;obtain⟨rfl,rfl⟩:=A;have S:a.eval z = .slice none 0 0:=wM (ρ:=a.eval) Q rfl;refine aX.val (v:=.slice none 0 0) (w' :=w) (by simp only[execOp,O,S,aZ]) ?_
 have j : cF C w.heap (al C nl 0 (⟨k,[],.fN⟩,0)) w.heap:=by
  refine⟨λ_ h=>h,λ_ _=>rfl,λ_ _ h=>.inr h,λe d g id f b =>?_⟩;have l:¬(e = nl/\d = 0):=λ⟨s,_⟩=>R d (s▸f);simp only[al,ae l]at b;exact⟨g, b, rfl,rfl,λc el T=>⟨c,T,rfl⟩⟩
 refine⟨al C nl 0 (⟨k,[],.fN⟩,0),⟨m.I,λe d g id b =>?_,λe d g id b f=>?_,λb1 H U i1 J K V W n L q M l=>?_,λe d g id es b f=>?_⟩,
  ⟨j, aY _,λ_ _ _=>rfl,λk' X=>?_,λ_ h=>.inl h,rfl,⟨rfl,aY _⟩,rfl⟩,?_,0,rfl,rfl⟩
 .by_cases h:e = nl/\d = 0
  .simp only[al,ah h]at b
   simp at b; obtain⟨rfl,rfl⟩:=b;exact⟨.inl h,h.2,λ_=>rfl,ab⟩
  .simp only[al,ae h]at b
   obtain⟨D,E,F,G⟩:=m.ij e d g id b;exact⟨.inr D,E,F,G⟩
 .by_cases h:e = nl/\d = 0
  .simp only[al,ah h]at b
   simp at b; obtain⟨rfl,rfl⟩:=b;simp at f
  .simp only[al,ae h]at b
   obtain⟨D,c,el,E,F,G⟩:=m.live e d g id b f;refine⟨D,c,el,E,F,λi x Y=>?_⟩;obtain⟨y,Z,m2,m3⟩:=G i x Y;exact⟨y,Z,VR.mono j _ _ m2,m3⟩
 .by_cases s:b1=nl/\H=0
  .simp only[al,ah s]at n;simp at n;obtain⟨rfl,rfl⟩:=n;simp[c6.fo]at L
  .by_cases N:J=nl/\K=0
   .simp only[al,ah N]at q;simp at q;obtain⟨rfl,rfl⟩:=q;simp[c6.fo]at M
   .simp only[al,ae s]at n;simp only[al,ae N]at q
    exact m.apart b1 H U i1 J K V W n L q M l
 .by_cases h:e = nl/\d = 0
  .simp only[al,ah h]at b
   simp at b; obtain⟨rfl,rfl⟩:=b; simp at f
  .simp only[al,ae h]at b
   exact m.bG (C' :=al C nl 0 (⟨k,[],.fN⟩,0)) j b f rfl (m.maps e d g id es b f).1
 .obtain⟨e, d, g, b, f⟩:=X
  by_cases h:e = nl/\d = 0
  .simp only[al,ah h]at b
   simp at b; obtain⟨rfl,rfl⟩:=b; simp[c6.fo]at f
  .simp only[al,ae h]at b
   exact .inl ⟨e, d, g, b, f⟩
 .unfold VR
  refine⟨⟨none,0,rfl,aY _,λh=>absurd h (Nat.lt_irrefl 0)⟩,.inl ⟨rfl,rfl⟩,λB id h=>?_⟩;simp[al]at h;obtain⟨rfl,rfl⟩:=h;exact⟨rfl,rfl,rfl⟩
end
end Ab
set_option linter.all false
namespace Ab
open Go
variable{P:Program}
section
variable{w:World}{C:Ctx}
variable{cs:List AV}
def wN{ay off:Nat}{c:Array Value}{el:TypeId}{l:Nat×Nat}(h:w.heap[ay]? = some (.cells c el l))
  (f:∀(i:Nat) q,cs[i]? = some q->∃y,c[off+i]? = some y/\VR C w.heap q y/\y.oneCell' = true) :
  ∃vals:List Value,(∀a:World,a.heap=w.heap->(loadCells ⟨ay,off,none⟩ cs.length).run P a = .ok vals.toArray a)/\vals.length=cs.length/\∀(i:Nat) q,cs[i]? = some q->∃y,vals[i]? = some y/\VR C w.heap q y/\y.oneCell' = true:=by
 refine⟨(List.range cs.length).map λj=>(c[off+j]?).getD undef,λa b=>run_loadCells a _ _ _ λj m=>?_,ab,λi q g=>?_⟩
 .obtain⟨y,d,_⟩:=f j cs[j] (by simp[m])
  rw[lR];simp[World.cell?,b,h,d]
 .obtain⟨y,b,d⟩:=f i q g
  have e:=(cM.1 g).1;exact⟨y,by simp[e,b],d⟩
def CK{st:Nat}{l:List AV}(h:fitAll st l=true):∀x∈l,x.cells.length=st:=λx a=>(py h x a).1
variable{k:Option Nat}
def mI{σ:List aj}{X:AV}{v:Value}{n:Nat}(h:aE σ k X=some (n,cs)) (hg:Good C w) (gk:∀b u B,C.lim b u->upto σ b u=some B->∃id,C.own b u=some (B,id)) (hv:VR C w.heap X v) :
  ∃vals:List Value,(∃q m,v = .slice q n m)/\(∀w1:World,w1.heap=w.heap->(Builtin.firstCells (aC k) n v).run P w1 = .ok vals.toArray w1)/\cs.length=n*aC k/\vals.length=cs.length/\∀(i:Nat) q,cs[i]? = some q->∃y,vals[i]? = some y/\VR C w.heap q y/\y.oneCell' = true:=by
 have qU:∀(a:Option Addr) m (w1:World),w1.heap=w.heap->(Builtin.firstCells (aC k) 0 (.slice a 0 m)).run P w1 = .ok ([]:List Value).toArray w1:=λa m w1 _=>by
  cases a<;>simp[Builtin.firstCells,loadCells,loadCellsFrom]
 have pB:=qU none
 -- elements of an B7 slice
 have CL:∀(l:List AV) (ay off qF cap:Nat) (c:Array Value) (el:TypeId) (fz:Nat×Nat),fitAll (aC k) l=true->v = .slice (some ⟨ay,off,none⟩) l.length cap->w.heap[ay]? = some (.cells c el fz)->fF C w.heap c qF l off->
   ∃vals:List Value,(∃q m,v = .slice q l.length m)/\(∀w1:World,w1.heap=w.heap->(Builtin.firstCells (aC k) l.length v).run P w1 = .ok vals.toArray w1)/\(l.flatMap AV.cells).length=l.length*aC k/\vals.length=(l.flatMap AV.cells).length/\∀(i:Nat) q,(l.flatMap AV.cells)[i]? = some q->∃y,vals[i]? = some y/\VR C w.heap q y/\y.oneCell' = true:=by
  intro l ay off qF cap c el fz hf e hH hl;obtain⟨f1,f2⟩:=tD (CK hf);have hc:=CD (C:=C) (H:=w.heap) (c:=c) (off:=off) (CK hf) (λi x hi=>by
   obtain⟨val,g1,g2,g3⟩:=hl.get i x hi;obtain⟨h1,h2⟩:=py hf x (ke hi);have eA:qF = aC k:=by rw[<-g2,VR.size h2 g1,h1]
   subst eA;exact⟨val,g1,g2,h2,λj hj=>by rw[<-g3 j hj,Nat.add_assoc]⟩)
  obtain⟨vals,k1,k2,k3⟩:=wN (P:=P) hH hc;exact⟨vals,⟨_,_,e⟩,λw1 h1=>by rw[e];simp only[Builtin.firstCells];rw[<-f1];exact k1 w1 h1,f1,k2,k3⟩
 cases X<;>simp only[aE]at h<;>try(simp at h;done)
 .simp at h;obtain⟨rfl,rfl⟩:=h
  have hv:v = .slice none 0 0:=hv;subst hv;exact⟨[],⟨_,_,rfl⟩,pB 0,ab,rfl,λi q h=>cy⟩
 .simp at h;obtain⟨rfl,rfl⟩:=h
  unfold VR at hv;obtain⟨a0,hv⟩:=hv;subst hv;exact⟨[],⟨_,_,rfl⟩,qU a0 0,ab,rfl,λi q h=>cy⟩
 .rename_i nn l
  split at h
  case isFalse=>simp at h
  rename_i hf;simp only[aS,Prod.mk.injEq]at h;obtain⟨rfl,rfl⟩:=h;unfold VR at hv;rcases hv.2 with⟨rfl,_,rfl,_⟩|⟨ay,off,cap,st,c,el,fz,e,_,_,hH,hl⟩
  .exact⟨[],⟨_,_,rfl⟩,qU _ 0,ab,rfl,λi q h=>cy⟩
  .exact CL l ay off st cap c el fz hf e hH hl
 .rename_i l
  split at h
  case isFalse=>simp at h
  rename_i hf;simp only[aS,Prod.mk.injEq]at h;obtain⟨rfl,rfl⟩:=h;unfold VR at hv;obtain⟨ay,off,st,c,el,fz,e,_,hH,hl⟩:=hv;exact CL l ay off st l.length c el fz hf e hH hl
 .rename_i b u off len
  cases hu:upto σ b u with
  |none=>simp[hu]at h
  |some B=>
   simp only[hu]at h;split at h
   case isFalse=>simp at h
   rename_i hle;simp only[aS,Prod.mk.injEq]at h;obtain⟨rfl,rfl⟩:=h;obtain⟨id,ho⟩:=gk b u B (tF hv) hu;obtain⟨_,e1,e3,e4⟩:=hg.ij b u B id ho;unfold VR at hv;have hv:=hv.2.2 B id ho;have hlen:((B.cells.drop off).take (len*aC k)).length=len*aC k:=ai
   cases hs:B.st with
   |dead=>exact absurd hs e4
   |map es=>have:=qV hu;rw[hs]at this;simp[c6.isMap]at this
   |fN=>
    simp only[hs]at hv;obtain⟨rfl,rfl,rfl⟩:=hv;exact⟨[],⟨_,_,rfl⟩,pB 0,ab,ab,λi q h=>cy⟩
   |live=>
    simp only[hs]at hv;obtain⟨c,el,o,cap,g1,rfl,g3,g4,g5⟩:=hv;obtain⟨_,c', wO, n2,n3,n4⟩:=hg.live b u B id ho hs;rw[g1]at n2;simp only[aS,jh]at n2;obtain⟨rfl,rfl,_⟩:=n2
    by_cases h0:len=0
    .subst h0
     refine⟨[],⟨_,_,rfl⟩,?_,ab,ab,λi q h=>cy⟩
     intro w1 _;have:=run_loadCells (P:=P) w1 ⟨id,o,none⟩ 0 (λ_=>undef) (λj hj=>absurd hj (Nat.not_lt_zero j));simpa[Builtin.firstCells]using this
    .obtain rfl:=g3 aa
     obtain⟨vals,k1,k2,k3⟩:=wN (P:=P) (cs:=(B.cells.drop o).take (len*aC k)) (off:=o) g1 (λi q hi=>by
      have bP:=(cM.1 hi).1;rw[hlen]at bP;rw[List.getElem?_take_of_lt bP,jO]at hi;exact n4 (o+i) q hi)
     exact⟨vals,⟨_,_,rfl⟩,λw1 h1=>by simp only[Builtin.firstCells];rw[<-hlen];exact k1 w1 h1,hlen,k2,k3⟩
def CM (n:Nat):∀(m c:Nat),Builtin.growBy n m c<=2^m*(c+768)
 |0,c=>by simp[Builtin.growBy]
 |m+1,c=>by
  unfold Builtin.growBy;split
  .have:1*(c+768)<=2^(m+1)*(c+768):=nZ _ (Nat.one_le_two_pow)
   omega
  .refine Nat.le_trans (CM n m _) ?_
   rw[Nat.pow_succ,Nat.mul_assoc];refine Nat.mul_le_mul_left _ ?_;omega
variable{cap:Nat}
def Lw{a:Nat}(h:a<=1073741824) (d:cap<a):Builtin.nextslicecap a cap<=17179881472:=by
 unfold Builtin.nextslicecap;split
 .omega
 .split
  .omega
  .have b:Builtin.growBy a 4 cap<=16*(cap+768):=CM a 4 cap
   exact Nat.le_trans b (Nat.le_trans (Nat.mul_le_mul_left 16 (show cap+768<=1073742592 by omega)) (by decide))
variable{T T' ty:TypeId}{x:Value}{len m:Nat}{q base:Option Addr}{vals:List Value}
def wP{e:TypeId}(i:aG P T=some e) (g : (aG P T').isSome=true) (j:aR P e k=true){n:Nat}{w' : World}
  (o:x = .slice q n m) (l:(Builtin.firstCells (aC k) n x).run P w = .ok vals.toArray w) (a:len+n<=cap)
  (d:∀b,base=some b->(storeCells (b.add (len*aC k)) vals).run P w = .ok () w') (h:base=none->w' = w) :
  (Builtin.append_ #[T,T'] ty #[.slice base len cap,x]).run P w = .ok (.slice base (len+n) cap) w' :=by
 obtain⟨p, f⟩:=n9.1 g;subst o;cases base with
 |none=>simp[Builtin.append_,jd i,jd f, gp (jf j),Builtin.lenOf,a,l,h rfl]
 |some b=>
  have d:=d b rfl;simp[Builtin.append_,jd i,jd f, gp (jf j),Builtin.lenOf,a,l,d]
def Lx{e:TypeId}(J:aG P T=some e) (p : (aG P T').isSome=true) (I:aR P e k=true) (h:c8 P e=true) (o:bK P e=true){n:Nat}
  {olds:List Value} (K:x = .slice q n m) (L:∀a:World,a.heap=w.heap->(Builtin.firstCells (aC k) n x).run P a = .ok vals.toArray a) (M:∀a:World,a.heap=w.heap->(Builtin.firstCells (aC k) len (.slice base len cap)).run P a = .ok olds.toArray a)
  (r:cap<len+n) (N:len+n<=1073741824) :
  ∃(f:Nat) (rest:Array Value),len+n<=f/\rest.size=(f-(len+n))*aC k/\
   (Builtin.append_ #[T,T'] ty #[.slice base len cap,x]).run P w = .ok (.slice (some ⟨w.heap.size,0,none⟩) (len+n) f) (bj w.drew (.cells (olds.toArray++vals.toArray++rest) e)):=by
 obtain⟨U, s⟩:=n9.1 p;obtain⟨i,j,h⟩:=CG h;subst K;have u : ∃z,i.zero=some z/\z.cells.size=aC k:=by
  unfold bK at o;simp only[j]at o;cases d:i.zero with
  |none=>simp[d]at o
  |some z=>
   simp[d]at o;have:=jf I;simp[bw,j]at this;exact⟨z,rfl,aa⟩
 obtain⟨z,d,y⟩:=u;have A:∀a:World,(zeroValue e).run P a = .ok z a:=λa=>by
  simp only[zeroValue,aN,run_typeInfo a j,aU,d,aZ]
 have O:¬(len+n<=cap):=aa
 have V:¬(((len+n:Nat):Int)>IntKind.i64.max):=by
  have:IntKind.i64.max=9223372036854775807:=by decide
  rw[this];omega
 have W:¬(Builtin.nextslicecap (len+n) cap*i.bytes>2^48):=by
  have Q:=Lw N r;have R:Builtin.nextslicecap (len+n) cap*i.bytes<=17179881472*4096:=jg Q h;have S:17179881472*4096<=2^48:=by decide
  exact Nat.not_lt.2 (Nat.le_trans R S)
 let f:Nat:=(Question.appendCap (len+n) cap e).cut (w.tape w.drawn (.appendCap (len+n) cap e))
 have B:len+n<=f:=by show _<=_+_;omega
 have C:(choose (.appendCap (len+n) cap e)).run P w = .ok f w.drew:=by
  rfl
 have l:∀(b:Nat) (a:World),(askRoom b).run P a = .ok () a:=λb a=>by
  unfold askRoom;split<;>rfl
 have D:=gp (jf I) (P:=P);refine⟨f,Builtin.zeroCells z.cells (f-(len+n)),B,?_,?_⟩
 .simp[Builtin.zeroCells,y]
 .have hold:=M w.drew rfl
  have E:=L w.drew rfl;have F : ¬((9223372036854775807:Int)<(len:Int)+(n:Int)):=aa
  have G:(Question.appendCap (len+n) cap e).forced=false:=rfl;have H : Builtin.nextslicecap (len+n) cap*i.bytes<=281474976710656:=by
   have:(2:Nat)^48=281474976710656:=by decide
   omega
  simp[Builtin.append_,jd J,jd s, D,Builtin.lenOf,O,F, run_typeInfo w j,H, G,C,run_typeInfo w.drew j,l,hold,E,A,qQ];rw[ae aa]
  have g:∀Z:Array Value,olds.toArray++(vals.toArray++Z)=(olds++vals).toArray++Z:=λZ=>by rw[<-Array.append_assoc];simp
  first
   |(rw[g];done)
   |(rw[g];rfl)
   |rfl
end
end Ab
set_option linter.all false
namespace Ab
open Go
variable{P:Program}
def gr (w:World) (g:Nat) (c:Array Value){k:Nat}(h:k ≠ g):(w.setRow g c).heap[k]? = w.heap[k]?:=by
 simp only[World.setRow,Array.getElem?_modify];rw[ae aa]
def kK (w:World) (g:Nat) (c:Array Value):(w.setRow g c).heap.size=w.heap.size:=by simp[World.setRow]
def CN{C:Ctx}{w:World}(j:Good C w){id:Nat}{c c' : Array Value}{el:TypeId}(g:owned C id) (h:w.heap[id]? = some (.cells c el (0,0))) (l:c'.size=c.size) (C' : Ctx) (m:∀k,C.I k->C'.I k) (a:∀b u,C.lim b u->C'.lim b u)
  (d:∀b u B' i,C.lim b u->C'.own b u=some (B', i)->∃B,C.own b u=some (B,i)/\B.st=B'.st/\B.k=B'.k):cF C w.heap C' (w.setRow id c').heap:=by
 refine⟨m,λk n=>gr w id c' λe=>j.Ly g (e▸n),a,λb u B' i o p=>?_⟩;obtain⟨B,r,s,x⟩:=d b u B' i o p;refine⟨B,r,by rw[s],x,λq y f=>?_⟩
 by_cases e:i=id
 .subst e
  rw[h]at f;simp only[aS,jh]at f;obtain⟨rfl,rfl,_⟩:=f;exact⟨c', setRow_heap w i c c' el (0,0) h,l⟩
 .exact⟨q,by rw[gr w id c' e];exact f,rfl⟩
section
variable{a:Act}{ρ:Operand->Value}{r:Rf->AV}{w:World}{C:Ctx}{R:Operand->Rf->Bool}{ce:CE}{σ:List aj}{nl:Nat}{ps:List bI}
variable{o:Oper}{ca:Call}
def Lz{bi:Builtin}(b:o.op = .call ca) (d:ca.callee = .builtin bi) (w:World) :
  (execOp a.eval o).run P w=(builtin bi ca.argTypes o.type (ca.args.map fun | .const _=>true|_=>false) (ca.args.map a.eval)).run P w:=by
 simp only[execOp,b,resolve,d,aN,aZ,aU,invoke]
 rfl
def fX{s x:Operand}{t d : TypeId}{Post:Value->World->Prop}{v:Value}{w' : World}(g:o.op = .call ca) (i:ca.callee = .builtin .append) (j:ca.args.toList=[s,x]) (e:ca.argTypes.toList=[t,d])
  (h:(Builtin.append_ #[t,d] o.type #[a.eval s,a.eval x]).run P w = .ok v w') (l:Post v w'):aX P o a w Post:=by
 have f : ca.args = #[s,x]:=by rw[<-Array.toList_inj];simpa using j
 have b : ca.argTypes = #[t,d]:=by rw[<-Array.toList_inj];simpa using e
 refine aX.val (v:=v) (w' :=w') ?_ l;rw[Lz g i];simp only[builtin,f, b, aN];have:Array.map a.eval #[s,x] = #[a.eval s,a.eval x]:=ab
 rw[this,h];simp
variable{cs:List AV}{vals:List Value}
def LA{cells:List AV}{olds:List Value}{rest:Array Value}{H:Array Obj}(f:olds.length=cells.length) (l:vals.length=cs.length)
  (g:∀(i:Nat) q,cells[i]? = some q->∃y,olds[i]? = some y/\VR C H q y/\y.oneCell' = true) (h:∀(i:Nat) q,cs[i]? = some q->∃y,vals[i]? = some y/\VR C H q y/\y.oneCell' = true) :
  (cells++cs).length<=(olds.toArray++vals.toArray++rest).size/\∀(i:Nat) q,(cells++cs)[i]? = some q->∃y,(olds.toArray++vals.toArray++rest)[i]? = some y/\VR C H q y/\y.oneCell' = true:=by
 refine⟨ai,λi q a=>?_⟩
 have b:=(cM.1 a).1;simp at b;rw[kL ai]
 by_cases j:i<cells.length
 .rw[dG j]at a
  obtain⟨y,d,e⟩:=g i q a;exact⟨y,by rw[kL ai];simpa using d,e⟩
 .rw[fk aa]at a
  obtain⟨y,d,e⟩:=h _ q a;exact⟨y,by rw[Array.getElem?_append_right ai];simpa[f]using d,e⟩
variable{B:aj}{b:Nat}{c:Array Value}{el:TypeId}
def LC(d:Good C w) (e:¬C.lim b B.cells.length) (a:B.st = .live) (hle:B.cells.length<=c.size) (f:∀(i:Nat) x,B.cells[i]? = some x->∃y,c[i]? = some y/\VR C w.heap x y/\y.oneCell' = true) :
  Good (al C b B.cells.length (B,w.heap.size)) (bj w.drew (.cells c el))/\Step C w (al C b B.cells.length (B,w.heap.size)) (bj w.drew (.cells c el)):=by
 have g:Good C w.drew:=d.heap rfl;obtain⟨h,j⟩:=wF g B e c el a hle f;exact⟨h,(Step.heap (C:=C) (w:=w) (w' :=w.drew) rfl rfl ⟨rfl,Nat.le_succ _⟩ rfl).trans j⟩
def LD{id:Nat}(m:Good C w) (D:C.own b B.cells.length=some (B,id)) (E:B.st = .live) (H:¬C.lim b (B.cells++cs).length)
  (n:∀f B' id', C.own b f = some (B', id')->f = B.cells.length) (L:w.heap[id]? = some (.cells c el (0,0))) (Y:B.cells.length+vals.length<=c.size) (vH:vals.length=cs.length)
  (hv:∀(i:Nat) q,cs[i]? = some q->∃y,vals[i]? = some y/\VR C w.heap q y/\y.oneCell' = true) :
  Good (al C b (B.cells++cs).length (⟨B.k,B.cells++cs,.live⟩,id)) (w.setRow id (c.toList.take B.cells.length++vals++c.toList.drop (B.cells.length+vals.length)).toArray)/\
  Step C w (al C b (B.cells++cs).length (⟨B.k,B.cells++cs,.live⟩,id)) (w.setRow id (c.toList.take B.cells.length++vals++c.toList.drop (B.cells.length+vals.length)).toArray):=by
 have o:owned C id:=⟨b,_,B,D,gS E⟩;generalize J : (c.toList.take B.cells.length++vals++c.toList.drop (B.cells.length+vals.length)).toArray=c';have Z:c'.size=c.size:=by subst J; simp;omega
 have r:∀i,c'[i]? = if B.cells.length<=i/\i<B.cells.length+vals.length then vals[i-B.cells.length]? else c[i]?:=λi=>by
  subst J;simp only[oa]
  by_cases P:i<B.cells.length
  .rw[ae aa,fO,dG ai,List.getElem?_take_of_lt P];simp
  .by_cases h2:i<B.cells.length+vals.length
   .rw[ah ⟨aa,h2⟩,dG ai,fk ai]
    congr 1;simp;omega
   .rw[ae aa,fk ai,jO]
    simp
    congr 1;omega
 have ev:=CN (c' :=c') m o L Z (al C b (B.cells++cs).length (⟨B.k,B.cells++cs,.live⟩,id)) (λ_ h=>h) (λ_ _ h=>.inr h) (λg f B' i Q a =>by
  have s:¬(g = b/\f = (B.cells++cs).length):=λ⟨e1,e2⟩=>H (e1▸e2▸Q);simp only[al,ae s]at a;exact⟨B', a, rfl,rfl⟩)
 obtain⟨n1,c0,el0,R,n3,n4⟩:=m.live b _ B id D E;rw[L]at R;simp only[aS,jh]at R;obtain⟨rfl,rfl,_⟩:=R;have j:(w.setRow id c').heap[id]? = some (.cells c' el (0,0)):=setRow_heap w id c c' el (0,0) L;refine⟨⟨λk F=>by rw[kK];exact m.I k F,λg f B' i a =>?_,λg f B' i a d =>?_,λb1 u1 B1 i1 b2 u2 B2 i2 k1 l1 k2 l2 s=>?_,λg f B' i es a d =>?_⟩,
  ⟨ev,by rw[kK];exact aY _,λk F S=>gr w id c' λe=>S (e▸o),λk F=>?_,λk F=>.inl F,rfl,⟨rfl,aY _⟩,rfl⟩⟩
 .by_cases e:g = b/\f = (B.cells++cs).length
  .simp only[al,ah e]at a
   simp at a; obtain⟨rfl,rfl⟩:=a;exact⟨.inl e,e.2,λh=>cy,ab⟩
  .simp only[al,ae e]at a
   obtain⟨M,G,T,N⟩:=m.ij g f B' i a;exact⟨.inr M,G,T,N⟩
 .by_cases e:g = b/\f = (B.cells++cs).length
  .simp only[al,ah e]at a
   simp at a; obtain⟨rfl,rfl⟩:=a;refine⟨n1,c', el,j,by rw[Z];simp;omega,λi q p=>?_⟩
   rw[r]
   by_cases P:i<B.cells.length
   .have l : (B.cells++cs)[i]? = some q:=p
    rw[dG P]at l;obtain⟨y,u,x,z⟩:=n4 i q l;exact⟨y,by rw[ae aa];exact u,VR.mono ev _ _ x,z⟩
   .have l : (B.cells++cs)[i]? = some q:=p
    rw[fk aa]at l
    have U:=(cM.1 l).1;obtain⟨y,u,x,z⟩:=hv _ q l;exact⟨y,by rw[ah ⟨aa,aa⟩];exact u,VR.mono ev _ _ x,z⟩
  .simp only[al,ae e]at a
   obtain⟨M,c1,V,G,T,N⟩:=m.live g f B' i a d
   by_cases p:i=id
   .subst p
    have A:g = b:=Decidable.byContradiction λh=>m.apart g f B' i b _ B i a (gS d) D (gS E) h rfl;subst A;have hu:=n f B' i a;have hlen:=(m.ij g f B' i a).2.1;rw[L]at G;simp only[aS,jh]at G;obtain⟨rfl,rfl,_⟩:=G;refine⟨M,c', el,j,aa,λW q O=>?_⟩
    have U:=(cM.1 O).1;obtain⟨y,u,x,z⟩:=N W q O;exact⟨y,by rw[r,ae aa];exact u,VR.mono ev _ _ x,z⟩
   .refine⟨M,c1,V,by rw[gr w id c' p];exact G,T,λW q O=>?_⟩
    obtain⟨y,u,x,z⟩:=N W q O;exact⟨y,u,VR.mono ev _ _ x,z⟩
 .have hb:∀g f B' i,(al C b (B.cells++cs).length (⟨B.k,B.cells++cs,.live⟩,id)).own g f = some (B', i)->B'.st.fo=true->∃X K, C.own g X = some (K, i)/\K.st.fo=true:=by
   intro g f B' i a d
   by_cases e:g = b/\f = (B.cells++cs).length
   .simp only[al,ah e]at a
    simp at a; obtain⟨rfl,rfl⟩:=a;exact⟨_,B,by rw[e.1];exact D,gS E⟩
   .simp only[al,ae e]at a
    exact⟨f, B', a, d⟩
  obtain⟨_,_,q1,q2⟩:=hb b1 u1 B1 i1 k1 l1;obtain⟨_,_,q3,q4⟩:=hb b2 u2 B2 i2 k2 l2;exact m.apart _ _ _ _ _ _ _ _ q1 q2 q3 q4 s
 .by_cases e:g = b/\f = (B.cells++cs).length
  .simp only[al,ah e]at a
   simp at a; obtain⟨rfl,rfl⟩:=a;simp at d
  .simp only[al,ae e]at a
   have p:i ≠ id:=λp=>by
    subst p;have A:g = b:=Decidable.byContradiction λh=>m.apart g f B' i b _ B i a (gN d) D (gS E) h rfl;subst A;have hu:=n f B' i a;rw[hu,D]at a;simp at a;rw[<-a, E]at d;simp at d
   exact m.bG (C' :=al C b (B.cells++cs).length (⟨B.k,B.cells++cs,.live⟩,id)) ev a d (gr w id c' p) (m.maps g f B' i es a d).1
 .obtain⟨g, f, B', a, d⟩:=F
  by_cases e:g = b/\f = (B.cells++cs).length
  .simp only[al,ah e]at a
   simp at a; obtain⟨rfl,rfl⟩:=a;exact .inl o
  .simp only[al,ae e]at a
   exact .inl ⟨g, f, B', a, d⟩
end
end Ab
set_option linter.all false
namespace Ab
open Go
variable{P:Program}
def Good.shrink{C C2:Ctx}{w:World}(hg:Good C w) (hI:C2.I=C.I) (Y:∀b u e,C2.own b u=some e->C.own b u=some e) (eB:∀b u,C.lim b u->C2.lim b u):Good C2 w/\Step C w C2 w:=by
 have ev:cF C w.heap C2 w.heap:=⟨λk h=>by rw[hI];exact h,λ_ _=>rfl,eB,λb u B' id _ ho=>⟨B', Y _ _ _ ho,rfl,rfl,λc el hc=>⟨c,hc,rfl⟩⟩⟩
 refine⟨⟨by rw[hI];exact hg.I,λb u B id ho=>?_,λb u B id ho hl=>?_,λb1 u1 B1 i1 b2 u2 B2 i2 h1 l1 h2 l2 fm=>hg.apart _ _ _ _ _ _ _ _ (Y _ _ _ h1) l1 (Y _ _ _ h2) l2 fm,λb u B id es ho hl=>hg.bG ev (Y _ _ _ ho) hl rfl (by rw[hI];exact(hg.maps b u B id es (Y _ _ _ ho) hl).1)⟩,
  ⟨ev,aY _,λ_ _ _=>rfl,λk ⟨b,u,B,ho,hl⟩=>.inl ⟨b,u,B,Y _ _ _ ho,hl⟩,λk h=>.inl (by rw[hI]at h;exact h),rfl,⟨rfl,aY _⟩,rfl⟩⟩
 .obtain⟨h1,h2,h3,h4⟩:=hg.ij b u B id (Y _ _ _ ho)
  exact⟨eB _ _ h1,h2,h3,h4⟩
 .obtain⟨h1,c,el,h2,h3,h4⟩:=hg.live b u B id (Y _ _ _ ho) hl
  refine⟨by rw[hI];exact h1,c,el,h2,h3,λi x hi=>?_⟩
  obtain⟨y,k1,k2,k3⟩:=h4 i x hi;exact⟨y,k1,VR.mono ev _ _ k2,k3⟩
section
variable{a:Act}{ρ:Operand->Value}{r:Rf->AV}{w:World}{C:Ctx}{R:Operand->Rf->Bool}{ce:CE}{σ:List aj}{nl:Nat}{ps:List bI}
variable{T T' ty:TypeId}{k:Option Nat}{X:AV}{vx:Value}{cs:List AV}{b len:Nat}
def lS{e:TypeId}{k0:Option Nat}(G:aG P T=some e) (h : (aG P T').isSome=true) (I:aR P e k=true) (j:c8 P e=true) (J:bK P e=true){n:Nat}{cells:List AV}(D:Good C w)
  (l:∀b u B,C.lim b u->upto σ b u=some B->∃id,C.own b u=some (B,id)) (d:aE σ k X=some (n,cs)) (K:VR C w.heap X vx) {cap:Nat} {base:Option Addr} {olds:List Value} (L:¬C.lim b (cells++cs).length) (o:aC k0=aC k)
  (hlen:cells.length=len*aC k) (p:olds.length=cells.length) (hold:∀r:World,r.heap=w.heap->(Builtin.firstCells (aC k) len (.slice base len cap)).run P r = .ok olds.toArray r)
  (s:∀(i:Nat) q,cells[i]? = some q->∃y,olds[i]? = some y/\VR C w.heap q y/\y.oneCell' = true) (x:cap<len+n) (f:len+n<=cE) :
  ∃v w' id', (Builtin.append_ #[T,T'] ty #[.slice base len cap,vx]).run P w = .ok v w' /\Good (al C b (cells++cs).length (⟨k0,cells++cs,.live⟩,id')) w' /\Step C w (al C b (cells++cs).length (⟨k0,cells++cs,.live⟩,id')) w' /\
    VR (al C b (cells++cs).length (⟨k0,cells++cs,.live⟩,id')) w'.heap (.sl b (cells++cs).length 0 (len+n)) v:=by
 obtain⟨g,⟨q,m,z⟩,M,N,A,a⟩:=mI (P:=P) d D l K;obtain⟨E,rest,F,W,O⟩:=Lx (P:=P) (w:=w) (ty:=ty) (olds:=olds) G h I j J z M hold x f;obtain⟨Q,R⟩:=LA (rest:=rest) (C:=C) (H:=w.heap) p A s a;have Y:(⟨k0,cells++cs,.live⟩:aj).cells.length=(cells++cs).length:=rfl;obtain⟨S,U⟩:=LC (b:=b) (B:=⟨k0,cells++cs,.live⟩) (c:=olds.toArray++g.toArray++rest) (el:=e) D L rfl Q R;refine⟨_,_,w.heap.size,O,S,U,qS (B:=⟨k0,cells++cs,.live⟩) (id:=w.heap.size) (by simp[al]) (.inl ⟨rfl,rfl⟩) rfl (kI w.drew _) F ?_⟩
 simp only[o];have V:(E-(len+n))*aC k+(len+n)*aC k=E*aC k:=by rw[<-Nat.add_mul,Nat.sub_add_cancel F]
 rw[fa len n]at V;simp;omega
def CO{e:TypeId}(O:aG P T=some e) (s : (aG P T').isSome=true) (Q:aR P e k=true) (D:c8 P e=true) (Y:bK P e=true){n:Nat}(E:Good C w)
  (x:∀b u B,C.lim b u->upto σ b u=some B->∃id,C.own b u=some (B,id)) (f:aE σ k X=some (n,cs)) (R:VR C w.heap X vx)  {vs:Value} {B:aj} {id:Nat} (S:C.own b B.cells.length=some (B,id)) (U:B.cells.length=len*aC k) (l:aC B.k=aC k)
  (F:VR C w.heap (.sl b B.cells.length 0 len) vs) (hn:0<n) (A:len+n<=cE) (J:B.st.isMap=false) (G:¬C.lim b (B.cells++cs).length) (H:∀u' B' id', C.own b u' = some (B', id')->u' = B.cells.length) :
  ∃v w' id', (Builtin.append_ #[T,T'] ty #[vs,vx]).run P w = .ok v w' /\Good (al C b (B.cells++cs).length (⟨B.k,B.cells++cs,.live⟩,id')) w' /\Step C w (al C b (B.cells++cs).length (⟨B.k,B.cells++cs,.live⟩,id')) w' /\
    VR (al C b (B.cells++cs).length (⟨B.k,B.cells++cs,.live⟩,id')) w'.heap (.sl b (B.cells++cs).length 0 (len+n)) v:=by
 obtain⟨_,_,e3,e4⟩:=E.ij b _ B id S;unfold VR at F;have F:=F.2.2 B id S;cases d:B.st with
 |dead=>exact absurd d e4
 |map es=>rw[d]at J;simp[c6.isMap]at J
 |fN=>
  simp only[d]at F;obtain⟨_,rfl,rfl⟩:=F;have g:=e3 d;have:=lS (P:=P) (σ:=σ) (cells:=B.cells) (k0:=B.k) (b:=b) (len:=0) (cap:=0) (base:=none) (olds:=[]) (ty:=ty) O s Q D Y E x f R G l (by rw[g];simp) (by rw[g];rfl) (λV _=>by simp[Builtin.firstCells]) (by rw[g];simp) aa aa
  simpa using this
 |live=>
  simp only[d]at F;obtain⟨c,el,o,cap,K,rfl,g3,g4,g5⟩:=F;obtain⟨_,c', wO, Z,n3,n4⟩:=E.live b _ B id S d;rw[K]at Z;simp only[aS,jh]at Z;obtain⟨rfl,rfl,_⟩:=Z
  by_cases p:len+n<=cap
  .have L:0<cap:=by omega
   have LF:=g3 L;subst LF;obtain⟨a,⟨q,m,LG⟩,hf,pC,vH,r⟩:=mI (P:=P) f E x R;have I : B.cells.length+a.length<=c.size:=by
    have:(len+n)*aC k<=cap*aC k:=nZ _ p;rw[fa]at this;rw[l]at g5;omega
   obtain⟨p1,p2⟩:=LD E S d G H K I vH r;have M:∀v∈a,v.oneCell' = true:=λv hv=>by
    obtain⟨i,W⟩:=List.getElem?_of_mem hv;have bP:=(cM.1 W).1;obtain⟨y,m1,m2,m3⟩:=r i cs[i] (cG aa)
    rw[W]at m1;simp at m1;subst m1;exact m3
   have z:=run_storeCells_at P id B.cells.length el a 0 c w K aa M
   have N:=wP (P:=P) (w:=w) (ty:=ty) (base:=some ⟨id,0,none⟩) O s Q LG (hf w rfl) p (λb G=>by
    simp at G;subst G;rw[lR,eL,<-U];exact z) (λh=>cy)
   refine⟨_,_,id,N,p1,p2,?_⟩;have tG : (w.setRow id (c.toList.take B.cells.length++a++c.toList.drop (B.cells.length+a.length)).toArray).heap[id]? = some (.cells _ el (0,0)):=setRow_heap w id c _ el (0,0) K;refine qS (B:=⟨B.k,B.cells++cs,.live⟩) (id:=id) (by simp[al]) (.inl ⟨rfl,rfl⟩) rfl tG p ?_
   rw[l]at g5 ⊢;simp only[List.size_toArray,ez,ji,List.length_drop,mJ];omega
  .by_cases h0:len=0
   .subst h0
    have g:B.cells=[]:=fY aa
    refine lS (P:=P) (σ:=σ) (cells:=B.cells) (k0:=B.k) (b:=b) (olds:=[]) (ty:=ty) O s Q D Y E x f R G l U (by rw[g];rfl) (λV h1=>?_) (by rw[g];simp) aa A
    have:=run_loadCells (P:=P) V ⟨id,o,none⟩ 0 (λ_=>undef) (λj hj=>absurd hj (Nat.not_lt_zero j));simpa[Builtin.firstCells]using this
   .obtain rfl:=g3 aa
    obtain⟨olds,k1,k2,k3⟩:=wN (P:=P) (cs:=B.cells) (off:=0) K (λi q W=>by rw[eL];exact n4 i q W)
    exact lS (P:=P) (σ:=σ) (cells:=B.cells) (k0:=B.k) (b:=b) (olds:=olds) (ty:=ty) O s Q D Y E x f R G l U k2 (λV h1=>by simp only[Builtin.firstCells];rw[<-U];exact k1 V h1) k3 aa A
end
end Ab
namespace Ab
open Go
variable{P:Program}
section
variable{a:Act}{ρ:Operand->Value}{r:Rf->AV}{w:World}{C:Ctx}{R:Operand->Rf->Bool}{ce:CE}{σ:List aj}{nl:Nat}{ps:List bI}
def wQ{a b:Option Nat}(h:ob a b=true):a=b:=by
 cases a<;>cases b<;>simp[ob]at h<;>simp[h]
variable{k:Option Nat}
def mK{T o e:TypeId}(r:aG P T=some e) (g : (aG P o).isSome=true) (s:aR P e k=true){ty:TypeId}{X:AV}{p vs:Value}{cs:List AV}(x:Good C w)
  (h:∀b u B,C.lim b u->upto σ b u=some B->∃id,C.own b u=some (B,id)) (d:aE σ k X=some (0,cs)) (y:VR C w.heap X p) (z:∃a l c,vs = .slice a l c/\l<=c) :
  (Builtin.append_ #[T,o] ty #[vs,p]).run P w = .ok vs w:=by
 obtain⟨base,l,c,rfl,A⟩:=z;obtain⟨f,⟨q,m,i⟩,D,E,F,j⟩:=mI (P:=P) d x h y;have n:f=[]:=fY aa
 subst n;have:=wP (P:=P) (w:=w) (w' :=w) (ty:=ty) (base:=base) (len:=l) (cap:=c) r g s i (D w rfl) aa (λb _=>rfl) (λ_=>rfl)
 simpa using this
def LH{o:Oper}{ca:Call}{s x:Operand}{t t' e:TypeId}{s' x' : Rf}{z:AV}{p:Option bI}(ho:o.op = .call ca) (hc:ca.callee = .builtin .append) (ha:ca.args.toList=[s,x]) (lE:ca.argTypes.toList=[t,t'])
  (ht:aG P t=some e) (kh : (aG P t').isSome=true) (hk:aR P e k=true) (oW:c8 P e=true) (hz:bK P e=true) (hg:Good C w)
  (gk:∀b u B,C.lim b u->upto σ b u=some B->∃id,C.own b u=some (B,id)) (hb:∀u,¬C.lim nl u)
  (LI:∀b u B cs,upto σ b u=some B->p=some (.grow b cs)->ki b ps=false->(∀n,u<n->¬C.lim b n)/\∀u' B' id', C.own b u' = some (B', id')->u' = u)
  (hs:VR C w.heap (r s') (a.eval s)) (hx:VR C w.heap (r x') (a.eval x)) (he:ev ce σ nl ps r (.app s' x' k)=some (z,p)):aX P o a w (fb nl C w z p):=by
 simp only[ev]at he;cases dp:aE σ k (r x')with
 |none=>simp[dp]at he
 |some LJ=>
  obtain⟨n,cs⟩:=LJ;simp only[dp]at he;cases iY : r s' <;>simp only[iY]at he<;>try(simp at he;done)
  .-- nil
   rw[iY]at hs;have hv:a.eval s = .slice none 0 0:=hs
   by_cases hn:n=0
   .subst hn
    simp at he;obtain⟨rfl,rfl⟩:=he;refine fX ho hc ha lE (mK ht kh hk hg gk dp hx ⟨none,0,0,hv,aY 0⟩) ?_;exact(b7.same hg (by rw[hv];exact rfl)).e
   .have iZ : (n==0)=false:=by simpa using hn
    simp only[iZ, cZ,dg]at he;split at he
    case isFalse=>simp at he
    rename_i iw;simp only[aS,Prod.mk.injEq]at he;obtain⟨rfl,rfl⟩:=he;obtain⟨v,w', id', h1,h2,h3,h4⟩:=lS (P:=P) (σ:=σ) (cells:=[]) (k0:=k) (b:=nl) (len:=0) (cap:=0) (base:=none) (olds:=[]) (ty:=o.type) ht kh hk oW hz hg gk dp hx (hb _) rfl ab rfl (λw1 _=>by simp[Builtin.firstCells]) ab aa aa
    rw[<-hv]at h1;simp only[kM,eL]at h2 h3 h4;exact fX ho hc ha lE h1 ⟨_,h2,h3,h4,id', rfl,rfl⟩
  .-- an empty slice KD room
   rw[iY]at hs;have qW:=hs;unfold VR at hs;obtain⟨a0,hv⟩:=hs
   by_cases hn:n=0
   .subst hn
    simp at he;obtain⟨rfl,rfl⟩:=he;refine fX ho hc ha lE (mK ht kh hk hg gk dp hx ⟨_,_,_,hv,aY 0⟩) ?_;exact(b7.same hg qW).e
   .have iZ : (n==0)=false:=by simpa using hn
    simp only[iZ, cZ,dg]at he;split at he
    case isFalse=>simp at he
    rename_i iw;simp only[aS,Prod.mk.injEq]at he;obtain⟨rfl,rfl⟩:=he;obtain⟨olds,_,k1,k2,k3,k4⟩:=mI (P:=P) (σ:=σ) (k:=k) (X:=.emp) (v:=a.eval s) (n:=0) (cs:=[]) (by simp[aE]) hg gk qW
    rw[hv]at k1;obtain⟨v,w', id', h1,h2,h3,h4⟩:=lS (P:=P) (σ:=σ) (cells:=[]) (k0:=k) (b:=nl) (len:=0) (cap:=0) (base:=a0) (olds:=olds) (ty:=o.type) ht kh hk oW hz hg gk dp hx (hb _) rfl k2 k3 k1 k4 aa aa
    rw[<-hv]at h1;simp only[kM,eL]at h2 h3 h4;exact fX ho hc ha lE h1 ⟨_,h2,h3,h4,id', rfl,rfl⟩
  .-- a literal
   rename_i l;rw[iY]at hs;have qW:=hs;unfold VR at hs;obtain⟨ay,off,st,c,el,fz,hv,hI,hH,hl⟩:=hs
   by_cases hn:n=0
   .subst hn
    simp at he;obtain⟨rfl,rfl⟩:=he;refine fX ho hc ha lE (mK ht kh hk hg gk dp hx ⟨_,_,_,hv,aY _⟩) ?_;refine(b7.same hg ?_).e;split
    .rename_i B8
     unfold VR;exact⟨B8,.inr ⟨ay,off,l.length,st,c,el,fz,hv,aY _,hI,hH,hl⟩⟩
    .exact qW
   .have iZ : (n==0)=false:=by simpa using hn
    simp only[iZ, cZ,dg]at he;split at he
    case isFalse=>simp at he
    rename_i dT;simp only[aD,cO]at dT;simp only[aS,Prod.mk.injEq]at he;obtain⟨rfl,rfl⟩:=he;obtain⟨olds,_,k1,k2,k3,k4⟩:=mI (P:=P) (σ:=σ) (k:=k) (X:=.arr l) (v:=a.eval s) (n:=l.length) (cs:=l.flatMap AV.cells) (by simp only[aE,dT.1,cn]) hg gk qW
    rw[hv]at k1;obtain⟨v,w', id', h1,h2,h3,h4⟩:=lS (P:=P) (σ:=σ) (cells:=l.flatMap AV.cells) (k0:=k) (b:=nl) (olds:=olds) (ty:=o.type) ht kh hk oW hz hg gk dp hx (hb _) rfl k2 k3 k1 k4 aa dT.2
    rw[<-hv]at h1;exact fX ho hc ha lE h1 ⟨_,h2,h3,h4,id', rfl,rfl⟩
  .-- an owned slice
   rename_i b u off len;cases hu:upto σ b u with
   |none=>simp[hu]at he
   |some B=>
    simp only[hu]at he;split at he
    case isFalse=>simp at he
    rename_i dT;simp only[aD,bJ,cO,Bool.not_eq_true']at dT;obtain⟨⟨⟨⟨rfl,nU⟩,iw⟩,LL⟩,qX⟩:=dT;have qX:=wQ qX;rw[iY]at hs;obtain⟨id,dU⟩:=gk b u B (tF hs) hu;have LM :=(hg.ij b u B id dU).2.1
    by_cases hn:n=0
    .subst hn
     simp at he;obtain⟨rfl,rfl⟩:=he;have qG:∃a' l' c', a.eval s = .slice a' l' c' /\l' <=c' :=by
      unfold VR at hs;obtain⟨⟨q,c,e1,e2,_⟩,_⟩:=hs;exact⟨_,_,_,e1,e2⟩
     exact fX ho hc ha lE (mK ht kh hk hg gk dp hx qG) (b7.same hg hs).e
    .have iZ : (n==0)=false:=by simpa using hn
     simp only[iZ, cZ,dg]at he;split at he
     case isTrue=>simp at he
     rename_i oc;simp at oc;simp only[aS,Prod.mk.injEq]at he;obtain⟨rfl,rfl⟩:=he;subst LM;obtain⟨q1,q2⟩:=LI b _ B cs hu rfl LL;have bP:B.cells.length<(B.cells++cs).length:=by
      have:0<cs.length:=fc.2 oc;simp;omega
     obtain⟨v,w', id', h1,h2,h3,h4⟩:=CO (P:=P) (σ:=σ) (ty:=o.type) ht kh hk oW hz hg gk dp hx dU nU (by rw[qX]) hs aa iw (qV hu) (q1 _ bP) q2
     have e1:B.cells.length+cs.length=(B.cells++cs).length:=ab
     rw[e1];exact fX ho hc ha lE h1 ⟨_,h2,h3,h4,B,id,id', oc,dU,rfl,rfl⟩
end
end Ab
set_option linter.all false
namespace Ab
open Go
variable{P:Program}
def kj (σ:List aj) (ids:Nat->Nat) (I:Nat->Prop) (w:World) (x:AV) (σ' : List aj) (v:Value) (w' : World):Prop:=
 ∃a b, Good (ad σ' a b) w' /\Step (ad σ ids I) w (ad σ' a b) w' /\VR (ad σ' a b) w'.heap x v
def CP{c:Array Value}{off:Nat}{vals:List Value}(a:off+vals.length<=c.size) :
  (c.toList.take off++vals++c.toList.drop (off+vals.length)).toArray.size=c.size/\∀i,(c.toList.take off++vals++c.toList.drop (off+vals.length)).toArray[i]? = if off<=i/\i<off+vals.length then vals[i-off]? else c[i]?:=by
 refine⟨ai,λi=>?_⟩
 simp only[oa]
 by_cases b:i<off
 .rw[ae aa,fO,dG ai,List.getElem?_take_of_lt b];simp
 .by_cases d:i<off+vals.length
  .rw[ah ⟨aa,d⟩,dG ai,fk ai]
   congr 1;simp;omega
  .rw[ae aa,fk ai,jO]
   simp
   congr 1;omega
section
variable{a:Act}{ρ:Operand->Value}{r:Rf->AV}{w:World}{C:Ctx}{R:Operand->Rf->Bool}{ce:CE}{σ:List aj}{nl:Nat}{ps:List bI}
variable{B:aj}{b id:Nat}
def qY{off:Nat}{new:List AV}{c:Array Value}{el:TypeId}{vals:List Value}(n:Good C w) (A:C.own b B.cells.length=some (B,id)) (K:B.st = .live)
  (o:∀d B' id', C.own b d = some (B', id')->d = B.cells.length) (S:w.heap[id]? = some (.cells c el (0,0))) (m:off+new.length<=B.cells.length) (vH:vals.length=new.length)
  (hv:∀(i:Nat) q,new[i]? = some q->∃y,vals[i]? = some y/\VR C w.heap q y/\y.oneCell' = true) :
  Good {C with own:=λf d =>if f = b/\d = B.cells.length then some (⟨B.k,putAt B.cells off new,B.st⟩,id)else C.own f d} (w.setRow id (c.toList.take off++vals++c.toList.drop (off+vals.length)).toArray)/\
  Step C w {C with own:=λf d =>if f = b/\d = B.cells.length then some (⟨B.k,putAt B.cells off new,B.st⟩,id)else C.own f d} (w.setRow id (c.toList.take off++vals++c.toList.drop (off+vals.length)).toArray):=by
 have D:owned C id:=⟨b,_,B,A,gS K⟩;obtain⟨n1,c0,el0,T,n3,n4⟩:=n.live b _ B id A K;rw[S]at T;simp only[aS,jh]at T;obtain⟨rfl,rfl,_⟩:=T;obtain⟨hs,L⟩:=CP (c:=c) (off:=off) (vals:=vals) aa
 generalize (c.toList.take off++vals++c.toList.drop (off+vals.length)).toArray=c' at *;obtain⟨pl,pg⟩:=od B.cells new off m;obtain⟨_,_,M,U⟩:=n.ij b _ B id A;generalize G : ({C with own:=λf d =>if f = b/\d = B.cells.length then some (⟨B.k,putAt B.cells off new,B.st⟩,id)else C.own f d}:Ctx)=N
 have j : ∀f d, N.own f d = if f = b/\d = B.cells.length then some (⟨B.k,putAt B.cells off new,B.st⟩,id)else C.own f d :=λf d =>by subst G; rfl
 have p : N.I=C.I:=by subst G; rfl
 have r : N.lim=C.lim:=by subst G; rfl
 have ev:=CN (c' :=c') n D S hs N (λk h=>by rw[p];exact h) (λb u h=>by rw[r];exact h) (λf d B' i B9 a =>by
  rw[j]at a
  by_cases e:f = b/\d = B.cells.length
  .rw[ah e]at a
   simp at a; obtain⟨rfl,rfl⟩:=a;exact⟨B,by rw[e.1,e.2];exact A,rfl,rfl⟩
  .rw[ae e]at a
   exact⟨B', a, rfl,rfl⟩)
 have x:(w.setRow id c').heap[id]? = some (.cells c' el (0,0)):=setRow_heap w id c c' el (0,0) S;have l:∀f d B' i,N.own f d = some (B', i)->B'.st.fo=true->∃H z, C.own f H = some (z, i)/\z.st.fo=true:=by
  intro f d B' i a g;rw[j]at a
  by_cases e:f = b/\d = B.cells.length
  .rw[ah e]at a
   simp at a; obtain⟨rfl,rfl⟩:=a;exact⟨_,B,by rw[e.1];exact A,gS K⟩
  .rw[ae e]at a
   exact⟨d, B', a, g⟩
 refine⟨⟨λk E=>by rw[kK];rw[p]at E;exact n.I k E,λf d B' i a =>?_,λf d B' i a g =>?_,λb1 u1 B1 i1 b2 u2 B2 i2 k1 l1 k2 l2 V=>?_,λf d B' i es a g =>?_⟩,
  ⟨ev,by rw[kK];exact aY _,λk E W=>gr w id c' λe=>W (e▸D),λk E=>?_,λk E=>.inl (by rw[p]at E;exact E),rfl,⟨rfl,aY _⟩,rfl⟩⟩
 .rw[r]
  rw[j]at a
  by_cases e:f = b/\d = B.cells.length
  .rw[ah e]at a
   simp at a; obtain⟨rfl,rfl⟩:=a;refine⟨by rw[e.1,e.2];exact(n.ij b _ B id A).1,by rw[e.2];exact pl.symm,λh=>?_,U⟩
   have h0:=M h;have:new=[]:=by
    have:new.length=0:=by rw[h0]at m;simp at m;simp[m]
    exact fY this
   have hz:(putAt B.cells off new).length=0:=by rw[pl,h0];rfl
   exact fY hz
  .rw[ae e]at a
   exact n.ij f d B' i a
 .rw[p]
  rw[j]at a
  by_cases e:f = b/\d = B.cells.length
  .rw[ah e]at a
   simp at a; obtain⟨rfl,rfl⟩:=a;refine⟨n1,c', el,x,by rw[hs];show(putAt B.cells off new).length<=_;omega,λi q F=>?_⟩
   have s : (putAt B.cells off new)[i]? = some q:=F;rw[pg]at s;rw[L]
   by_cases O:off<=i/\i<off+new.length
   .rw[ah O]at s
    obtain⟨y,P,Q,R⟩:=hv _ q s;exact⟨y,by rw[ah aa];exact P,VR.mono ev _ _ Q,R⟩
   .rw[ae O]at s
    obtain⟨y,P,Q,R⟩:=n4 i q s;exact⟨y,by rw[ae aa];exact P,VR.mono ev _ _ Q,R⟩
  .rw[ae e]at a
   obtain⟨j1,c1,X,j2,j3,j4⟩:=n.live f d B' i a g
   by_cases F:i=id
   .subst F
    have J:f = b:=Decidable.byContradiction λh=>n.apart f d B' i b _ B i a (gS g) A (gS K) h rfl;subst J;exact absurd ⟨rfl,o d B' i a⟩ e
   .refine⟨j1,c1,X,by rw[gr w id c' F];exact j2,j3,λi' q hq=>?_⟩
    obtain⟨y,P,Q,R⟩:=j4 i' q hq;exact⟨y,P,VR.mono ev _ _ Q,R⟩
 .obtain⟨_,_,Y,Z⟩:=l b1 u1 B1 i1 k1 l1
  obtain⟨_,_,q3,q4⟩:=l b2 u2 B2 i2 k2 l2;exact n.apart _ _ _ _ _ _ _ _ Y Z q3 q4 V
 .rw[j]at a
  by_cases e:f = b/\d = B.cells.length
  .rw[ah e]at a
   simp at a; obtain⟨rfl,rfl⟩:=a;rw[show(⟨B.k,putAt B.cells off new,B.st⟩:aj).st=B.st from rfl,K]at g;simp at g
  .rw[ae e]at a
   have F:i ≠ id:=λF=>by
    subst F;have J:f = b:=Decidable.byContradiction λh=>n.apart f d B' i b _ B i a (gN g) A (gS K) h rfl;subst J;exact e ⟨rfl,o d B' i a⟩
   exact n.bG ev a g (gr w id c' F) (by rw[p];exact(n.maps f d B' i es a g).1)
 .obtain⟨f, d, B', a, g⟩:=E
  obtain⟨H, z, Y,Z⟩:=l f d B' k a g;exact .inl ⟨f, H, z, Y,Z⟩
def LN{es p : List (AV×AV)}{l l' : Array MapEntry}{clock clock' : Nat}(z:Good C w) (H:C.own b 0=some (B,id)) (L:B.st = .map es)
  (D:∀d B' id', C.own b d = some (B', id')->d = 0) (Q:w.heap[id]? = some (.map l clock)) (hm:MR C w.heap p l'.toList) :
  Good {C with own:=λf d =>if f = b/\d = 0 then some (⟨B.k,B.cells,.map p⟩,id)else C.own f d} {w with heap:=w.heap.setIfInBounds id (.map l' clock')}/\
  Step C w {C with own:=λf d =>if f = b/\d = 0 then some (⟨B.k,B.cells,.map p⟩,id)else C.own f d} {w with heap:=w.heap.setIfInBounds id (.map l' clock')}:=by
 have M:owned C id:=⟨b,_,B,H,gN L⟩;obtain⟨Z,_⟩:=z.maps b _ B id es H L;obtain⟨N,m⟩:=Go.MapKept.heap_set (o' :=.map l' clock') Q;have O:(w.heap.setIfInBounds id (.map l' clock')).size=w.heap.size:=ab
 generalize w.heap.setIfInBounds id (.map l' clock')=J at *;obtain⟨e1,e2,_,_⟩:=z.ij b _ B id H;generalize E : ({C with own:=λf d =>if f = b/\d = 0 then some (⟨B.k,B.cells,.map p⟩,id)else C.own f d}:Ctx)=P
 have j : ∀f d, P.own f d = if f = b/\d = 0 then some (⟨B.k,B.cells,.map p⟩,id)else C.own f d :=λf d =>by subst E; rfl
 have o : P.I=C.I:=by subst E; rfl
 have r : P.lim=C.lim:=by subst E; rfl
 have F:∀k,C.I k->J[k]? = w.heap[k]?:=λk x=>m k λe=>Z (e▸x);have ev:cF C w.heap P J :=by
  refine⟨λk h=>by rw[o];exact h,F,λb u h=>by rw[r];exact h,λf d B' i B9 a =>?_⟩
  rw[j]at a
  by_cases e:f = b/\d = 0
  .rw[ah e]at a
   simp at a; obtain⟨rfl,rfl⟩:=a;refine⟨B,by rw[e.1,e.2];exact H,by rw[L];rfl,rfl,λc el K=>?_⟩
   rw[Q]at K;simp at K
  .rw[ae e]at a
   refine⟨B', a, rfl,rfl,λc el K=>⟨c,?_,rfl⟩⟩;have s:i ≠ id:=λs=>by subst s;rw[Q]at K;simp at K
   rw[m i s];exact K
 have n:∀f d B' i,P.own f d = some (B', i)->B'.st.fo=true->∃G A, C.own f G = some (A, i)/\A.st.fo=true:=by
  intro f d B' i a g;rw[j]at a
  by_cases e:f = b/\d = 0
  .rw[ah e]at a
   simp at a; obtain⟨rfl,rfl⟩:=a;exact⟨_,B,by rw[e.1];exact H,gN L⟩
  .rw[ae e]at a
   exact⟨d, B', a, g⟩
 refine⟨⟨λk x=>by show k<J.size;rw[O];rw[o]at x;exact z.I k x,λf d B' i a =>?_,λf d B' i a g =>?_,λb1 u1 B1 i1 b2 u2 B2 i2 k1 l1 k2 l2 R=>?_,λf d B' i S a g =>?_⟩,
  ⟨ev,by show w.heap.size<=J.size;rw[O];exact aY _,λk x T=>m k λe=>T (e▸M),λk x=>?_,λk x=>.inl (by rw[o]at x;exact x),rfl,⟨rfl,aY _⟩,rfl⟩⟩
 .rw[r]
  rw[j]at a
  by_cases e:f = b/\d = 0
  .rw[ah e]at a
   simp at a; obtain⟨rfl,rfl⟩:=a;exact⟨by rw[e.1,e.2];exact e1,by rw[e.2];exact e2,λh=>cy,ab⟩
  .rw[ae e]at a
   exact z.ij f d B' i a
 .rw[o]
  rw[j]at a
  by_cases e:f = b/\d = 0
  .rw[ah e]at a
   simp at a; obtain⟨rfl,rfl⟩:=a;simp at g
  .rw[ae e]at a
   obtain⟨j1,c1,U,V,j3,j4⟩:=z.live f d B' i a g;have s:i ≠ id:=λs=>by subst s;rw[Q]at V;simp at V
   refine⟨j1,c1,U,by show J[i]? = _;rw[m i s];exact V,j3,λi' q hq=>?_⟩
   obtain⟨y,m1,m2,m3⟩:=j4 i' q hq;exact⟨y,m1,VR.mono ev _ _ m2,m3⟩
 .obtain⟨_,_,W,X⟩:=n b1 u1 B1 i1 k1 l1
  obtain⟨_,_,q3,q4⟩:=n b2 u2 B2 i2 k2 l2;exact z.apart _ _ _ _ _ _ _ _ W X q3 q4 R
 .rw[j]at a
  by_cases e:f = b/\d = 0
  .rw[ah e]at a
   simp at a; obtain⟨rfl,rfl⟩:=a;simp at g; subst g;exact⟨by rw[o];exact Z,l', clock', N,hm.mono ev⟩
  .rw[ae e]at a
   have s:i ≠ id:=λs=>by
    subst s;have Y:f = b:=Decidable.byContradiction λh=>z.apart f d B' i b _ B i a (gN g) H (gN L) h rfl;subst Y;exact e ⟨rfl,D d B' i a⟩
   exact z.bG (w' :={w with heap:=J}) ev a g (m i s) (by rw[o];exact(z.maps f d B' i S a g).1)
 .obtain⟨f, d, B', a, g⟩:=x
  obtain⟨G, A, W,X⟩:=n f d B' k a g;exact .inl ⟨f, G, A, W,X⟩
variable{ids:Nat->Nat}{I:Nat->Prop}
def lT{u:Nat}(h:ay σ b=some B):∀d B' id', (ad σ ids I).own b d = some (B', id')->d = B.cells.length:=λd B' id' a =>by
 simp only[ad,h]at a;cases e:B.st<;>simp only[e]at a <;>first
  |(split at a <;>simp_all)
  |simp at a
def oe{u:Nat}(h:upto σ b u=some B):ay σ b=some B/\B.cells.length=u/\B.st ≠ .dead:=by
 unfold upto at h;cases d:ay σ b with
 |none=>simp[d]at h
 |some e =>
  simp only[d]at h;cases f:e.st<;>simp only[f]at h<;>first
   |(simp at h;done)
   |(by_cases a:e.cells.length=u
     .simp[a]at h;subst h;exact⟨rfl,a,by rw[f];simp⟩
     .simp[a]at h)
def qZ{b a : Nat}(h:b<σ.length):ay (az σ b B) a = if a = b then some B else ay σ a :=by
 rw[bV,LO,bV,List.getElem?_set]
 by_cases e:a = b
 .subst e;simp[h]
 .rw[ae (λd =>e d.symm),ae e]
variable{B': aj}
def mL{B: aj}{id' : Nat}(j:ay σ b=some B) (f:B'.st ≠ .dead):∀b1 d e,(ad (az σ b B') (λq=>if q=b then id' else ids q) I).own b1 d=some e->
  (if b1=b/\d=B'.cells.length then some (B', id')else(ad σ ids I).own b1 d)=some e:=λb1 d e h=>by
 have g:b<σ.length:=by rw[bV]at j;exact(cM.1 j).1
 simp only[ad,qZ g]at h ⊢
 by_cases i:b1=b
 .subst i
  simp only[cn]at h;cases l:B'.st with
  |dead=>exact absurd l f
  |fN=>
   by_cases a:B'.cells.length=d
   .simp only[a,cn]at h
    rw[ah ⟨rfl,a.symm⟩];exact h
   .simp[a]at h
  |live=>
   by_cases a:B'.cells.length=d
   .simp only[a,cn]at h
    rw[ah ⟨rfl,a.symm⟩];exact h
   .simp[a]at h
  |map es=>
   by_cases a:B'.cells.length=d
   .simp only[a,cn]at h
    rw[ah ⟨rfl,a.symm⟩];exact h
   .simp[a]at h
 .rw[ae (λm =>i m.1)]
  simp only[ae i]at h;exact h
def mM{ids a : Nat->Nat}{B: aj}(e:ay σ b=some B) (hle:B.cells.length<=B'.cells.length):∀b1 f,(ad σ ids I).lim b1 f->(ad (az σ b B') a I).lim b1 f:=λb1 f ⟨i,d,j⟩=>by
 have g:b<σ.length:=by rw[bV]at e;exact(cM.1 e).1
 simp only[ad,qZ g]
 by_cases h:b1=b
 .subst h
  rw[e]at d;simp at d;subst d;exact⟨B', by simp,aa⟩
 .exact⟨i,by rw[ae h];exact d,j⟩
variable{o:Oper}{t:TypeId}{x:Operand}{x': Rf}{z:AV}{σ': List aj}
def CQ{p:Operand}{p': Rf}{n:Nat}(ho:o.op = .store t p x) (hn:bw P t n=true) (hg:Good (ad σ ids I) w)
  (hp:VR (ad σ ids I) w.heap (r p') (a.eval p)) (hx:VR (ad σ ids I) w.heap (r x') (a.eval x)) (he:dO ce σ r (.st p' x' n)=some (z,σ')):aX P o a w (kj σ ids I w z σ'):=by
 simp only[dO]at he;cases hp' : r p' <;>simp only[hp']at he<;>try(simp at he;done)
 rename_i b u off;cases hu:upto σ b u with
 |none=>simp[hu]at he
 |some B=>
  simp only[hu]at he;split at he
  case isFalse=>simp at he
  rename_i hc;simp only[aD,bJ,cO]at hc;obtain⟨⟨⟨c1,c2⟩,c3⟩,c4⟩:=hc;simp only[aS,Prod.mk.injEq]at he;obtain⟨rfl,rfl⟩:=he;obtain⟨hb,nU,pD⟩:=oe hu;have hs:B.st = .live:=by revert c3;cases B.st<;>simp[c6.isLive]
  have dU:=kc ids I hu;subst nU;rw[hp']at hp;unfold VR at hp;have e:=hp.2.2 B _ dU hs;obtain⟨_,c,el,hH,hle,og⟩:=hg.live b _ B _ dU hs;have wR:=tA c4;have tE:=VR.size wR hx;have hv:=wJ wR hx;obtain⟨g1,g2⟩:=qY (vals:=(a.eval x).cells.toList) (new:=(r x').cells) (off:=off) hg dU hs (lT (u:=0) hb) hH aa (by simpa using tE) (λi q hi=>by
   obtain⟨y,k1,k2,k3⟩:=hv i q hi;exact⟨y,by rw[gQ];exact k1,k2,k3⟩)
  obtain⟨pl,_⟩:=od B.cells (r x').cells off aa
  have fp:=mL (ids:=ids) (I:=I) (id' :=ids b) (B' :=⟨B.k,putAt B.cells off (r x').cells,B.st⟩) hb pD;have lU:(λq=>if q=b then ids b else ids q)=ids:=jj
  rw[lU]at fp;obtain⟨f1,f2⟩:=Good.shrink (C2:=ad (az σ b ⟨B.k,putAt B.cells off (r x').cells,B.st⟩) ids I) g1 rfl (λb1 u1 e1 h1=>by
   have:=fp b1 u1 e1 h1;simp only[pl]at this;exact this) (λb1 u1 h1=>mM (ids:=ids) (I:=I) hb (by show _<=(putAt B.cells off (r x').cells).length;omega) b1 u1 h1)
  have q7:∀v∈(a.eval x).cells.toList,v.oneCell' = true:=(VR.cells wR hx).2;have gU:=run_storeCells_at P (ids b) off el (a.eval x).cells.toList 0 c w hH ai q7
  refine aX.skip (w' :=w.setRow (ids b) (c.toList.take off++(a.eval x).cells.toList++c.toList.drop (off+(a.eval x).cells.toList.length)).toArray) ?_ ⟨ids,I,f1,g2.trans f2,by unfold VR;trivial⟩
  have hsi:=gp hn w;simp only[execOp,ho,Instr.storeAt,e,Instr.sureAddr,storeVar,aN,aZ,aU,hsi];rw[ae (by rw[tE,c1];simp)]
  simp only[Nat.add_zero]at gU;rw[gU]
  rfl
def CR{kt e:TypeId}{m k:Operand}{m' k': Rf}{kd:Nat}(ho:o.op = .mapUpdate t m k x\/o.op = .insert t m k x) (ht:P.underlying t=some (.map kt e)) (hk:c9 P kt kd=true) (hg:Good (ad σ ids I) w)
  (hmv:VR (ad σ ids I) w.heap (r m') (a.eval m)) (Ca:VR (ad σ ids I) w.heap (r k') (a.eval k)) (hx:VR (ad σ ids I) w.heap (r x') (a.eval x)) (he:dO ce σ r (.qH m' kd k' x')=some (z,σ')):aX P o a w (kj σ ids I w z σ'):=by
 simp only[dO]at he;cases pE : r m' <;>simp only[pE]at he<;>try(simp at he;done)
 rename_i b;rw[pE]at hmv;cases hm:da σ b with
 |none=>simp[hm]at he
 |some es=>
  simp only[hm]at he;split at he
  case isFalse=>simp at he
  rename_i hf;simp only[aD]at hf;cases hq:cw es (r k')with
  |none=>simp[hq]at he
  |some q=>
   cases q with
   |some _=>simp[hq]at he
   |none=>
    simp only[hq,aS,Prod.mk.injEq]at he;obtain⟨rfl,rfl⟩:=he;obtain⟨id,l,c,e1,hH,hM,B,hB,hs⟩:=wS hg (λb u B _ hu=>⟨_,oh ids I hu⟩) hm hmv;obtain⟨q', h1,h2⟩:=CS hk hf.1 Ca w hM hq;cases q' with
    |some _=>exact h2.elim
    |none=>
     have hc:=CT hk hf.1 Ca w false;obtain⟨hb,rfl⟩:=tH hB;have hu0:=lT (ids:=ids) (I:=I) (u:=0) hb 0 B _ hB;have hM' : MR (ad σ ids I) w.heap (es ++ [(r k', r x')]) (l.push {key:=a.eval k,val:=a.eval x,born:=c}).toList:=by
      rw[Array.toList_push];exact hM.push (LP hf.1) Ca hx
     obtain⟨g1,g2⟩:=LN (l' :=l.push {key:=a.eval k,val:=a.eval x,born:=c}) (clock' :=c+1) hg hB hs (λu' B' id' h=>by
      have:=lT (ids:=ids) (I:=I) (u:=0) hb u' B' id' h;omega) hH hM'
     have fp:=mL (ids:=ids) (I:=I) (id' :=ids b) (B' :=⟨B.k,B.cells,.map (es ++ [(r k', r x')])⟩) hb ab
     have lU:(λq=>if q=b then ids b else ids q)=ids:=jj
     rw[lU]at fp;have LQ:pF σ b (es ++ [(r k', r x')])=az σ b ⟨B.k,B.cells,.map (es ++ [(r k', r x')])⟩:=by simp only[pF,hb]
     rw[LQ];obtain⟨f1,f2⟩:=Good.shrink (C2:=ad (az σ b ⟨B.k,B.cells,.map (es ++ [(r k', r x')])⟩) ids I) g1 rfl (λb1 u1 e1 h1=>by
      have:=fp b1 u1 e1 h1;simp only[<-hu0]at this;exact this) (λb1 u1 h1=>mM (ids:=ids) (I:=I) hb (by show _<=B.cells.length;omega) b1 u1 h1)
     refine aX.skip (w' :={w with heap:=w.heap.setIfInBounds (ids b) (.map (l.push {key:=a.eval k,val:=a.eval x,born:=c}) (c+1))}) ?_ ⟨ids,I,f1,g2.trans f2,by unfold VR;trivial⟩
     have cY:(Instr.mapUpdate t (a.eval m) (a.eval k) (a.eval x)).run P w = .ok () {w with heap:=w.heap.setIfInBounds (ids b) (.map (l.push {key:=a.eval k,val:=a.eval x,born:=c}) (c+1))}:=by
      rw[e1];simp only[Instr.mapUpdate,aN,run_underlying ht,aU,Go.MapKept.run_getObj_map hH,hc,h1,Go.MapKept.run_setObj_map _ hH]
     rcases ho with ho|ho
     .simp only[execOp,ho,aN,cY,aU,aZ]
     .simp only[execOp,ho,aN,cY,aU,aZ]
end
end Ab
set_option linter.all false
namespace Ab
open Go
variable{P:Program}
section
variable{a:Act}{ρ:Operand->Value}{r:Rf->AV}{w:World}{C:Ctx}{R:Operand->Rf->Bool}{ce:CE}{σ:List aj}{nl:Nat}{ps:List bI}
variable{B:aj}
def CU{b:Nat}:ay (σ ++ [B]) b=if b=σ.length then some B else ay σ b:=by
 rw[bV,bV]
 by_cases e:b=σ.length
 .subst e;simp
 .rw[ae e]
  by_cases h:b<σ.length
  .rw[dG h]
  .rw[fk aa,lV ai,lV aa]
variable{ids:Nat->Nat}{I:Nat->Prop}{id:Nat}
def wT(f:B.st ≠ .dead):∀b u e,(ad (σ ++ [B]) (λq=>if q=σ.length then id else ids q) I).own b u=some e->(al (ad σ ids I) σ.length B.cells.length (B,id)).own b u=some e:=λb u e h=>by
 simp only[ad,al,CU]at h ⊢
 by_cases d:b=σ.length
 .simp only[d,cn]at h
  cases g:B.st with
  |dead=>exact absurd g f
  |fN=>
   by_cases a:B.cells.length=u
   .simp only[a,cn]at h
    rw[ah ⟨d,a.symm⟩];exact h
   .simp[a]at h
  |live=>
   by_cases a:B.cells.length=u
   .simp only[a,cn]at h
    rw[ah ⟨d,a.symm⟩];exact h
   .simp[a]at h
  |map es=>
   by_cases a:B.cells.length=u
   .simp only[a,cn]at h
    rw[ah ⟨d,a.symm⟩];exact h
   .simp[a]at h
 .rw[ae (λi =>d i.1)]
  simp only[ae d]at h;exact h
def wU{ids a : Nat->Nat}:∀b u,(al (ad σ ids I) σ.length B.cells.length (B,id)).lim b u->(ad (σ ++ [B]) a I).lim b u:=λb u h=>by
 simp only[ad,al,CU]at h ⊢;rcases h with⟨rfl,rfl⟩|⟨f,d,g⟩
 .exact⟨B,ab,aY _⟩
 .have:b ≠ σ.length:=λe=>by
   rw[bV,lV aa]at d;simp at d
  exact⟨f,by rw[ae this];exact d,g⟩
def q8:∀u,¬(ad σ ids I).lim σ.length u:=λu ⟨b,a,_⟩=>by
 rw[bV,lV aa]at a;simp at a
def LR{o:Oper}{ca:Call}{s x:Operand}{t t' e:TypeId}{s' x' : Rf}{k:Option Nat}{z:AV}{σ' : List aj}(ho:o.op = .call ca) (hc:ca.callee = .builtin .append) (ha:ca.args.toList=[s,x]) (lE:ca.argTypes.toList=[t,t'])
  (ht:aG P t=some e) (kh : (aG P t').isSome=true) (hk:aR P e k=true) (oW:c8 P e=true) (hz:bK P e=true) (hg:Good (ad σ ids I) w)
  (hs:VR (ad σ ids I) w.heap (r s') (a.eval s)) (hx:VR (ad σ ids I) w.heap (r x') (a.eval x)) (he:dO ce σ r (.bB s' x' k)=some (z,σ')):aX P o a w (kj σ ids I w z σ'):=by
 have gk:∀b u B,(ad σ ids I).lim b u->upto σ b u=some B->∃id,(ad σ ids I).own b u=some (B,id):=λb u B _ h=>⟨_,kc ids I h⟩
 -- a new block at the LU end
 have wV:∀(B:aj) (x1:AV) v w' id', B.st = .live->Good (al (ad σ ids I) σ.length B.cells.length (B,id')) w' ->Step (ad σ ids I) w (al (ad σ ids I) σ.length B.cells.length (B,id')) w' ->
   VR (al (ad σ ids I) σ.length B.cells.length (B,id')) w'.heap x1 v->kj σ ids I w x1 (σ ++ [B]) v w' :=λB x1 v w' id' eA h2 h3 h4=>by
  obtain⟨f1,f2⟩:=Good.shrink (C2:=ad (σ ++ [B]) (λq=>if q=σ.length then id' else ids q) I) h2 rfl (wT (by rw[eA];simp)) wU
  exact⟨_,I,f1,h3.trans f2,VR.mono f2.ev _ _ h4⟩
 simp only[dO]at he;cases dp:aE σ k (r x')with
 |none=>simp[dp]at he
 |some LJ=>
  obtain⟨n,cs⟩:=LJ;simp only[dp]at he;cases iY : r s' <;>simp only[iY]at he<;>try(simp at he;done)
  .rw[iY]at hs
   have hv:a.eval s = .slice none 0 0:=hs
   by_cases hn:n=0
   .subst hn
    simp at he;obtain⟨rfl,rfl⟩:=he;exact fX ho hc ha lE (mK ht kh hk hg gk dp hx ⟨none,0,0,hv,aY 0⟩) ⟨ids,I,hg,Step.refl _ _,by rw[hv];exact rfl⟩
   .have iZ : (n==0)=false:=by simpa using hn
    simp only[iZ, cZ,dg]at he;split at he
    case isFalse=>simp at he
    rename_i iw;simp only[aS,Prod.mk.injEq]at he;obtain⟨rfl,rfl⟩:=he;obtain⟨v,w', id', h1,h2,h3,h4⟩:=lS (P:=P) (σ:=σ) (cells:=[]) (k0:=k) (b:=σ.length) (len:=0) (cap:=0) (base:=none) (olds:=[]) (ty:=o.type) ht kh hk oW hz hg gk dp hx (q8 _) rfl ab rfl (λw1 _=>by simp[Builtin.firstCells]) ab aa aa
    rw[<-hv]at h1;simp only[kM,eL]at h2 h3 h4;exact fX ho hc ha lE h1 (wV ⟨k,cs,.live⟩ _ _ _ id' rfl h2 h3 h4)
  .rw[iY]at hs
   have qW:=hs;unfold VR at hs;obtain⟨a0,hv⟩:=hs
   by_cases hn:n=0
   .subst hn
    simp at he;obtain⟨rfl,rfl⟩:=he;exact fX ho hc ha lE (mK ht kh hk hg gk dp hx ⟨_,_,_,hv,aY 0⟩) ⟨ids,I,hg,Step.refl _ _,qW⟩
   .have iZ : (n==0)=false:=by simpa using hn
    simp only[iZ, cZ,dg]at he;split at he
    case isFalse=>simp at he
    rename_i iw;simp only[aS,Prod.mk.injEq]at he;obtain⟨rfl,rfl⟩:=he;obtain⟨olds,_,k1,k2,k3,k4⟩:=mI (P:=P) (σ:=σ) (k:=k) (X:=.emp) (v:=a.eval s) (n:=0) (cs:=[]) (by simp[aE]) hg gk qW
    rw[hv]at k1;obtain⟨v,w', id', h1,h2,h3,h4⟩:=lS (P:=P) (σ:=σ) (cells:=[]) (k0:=k) (b:=σ.length) (len:=0) (cap:=0) (base:=a0) (olds:=olds) (ty:=o.type) ht kh hk oW hz hg gk dp hx (q8 _) rfl k2 k3 k1 k4 aa aa
    rw[<-hv]at h1;simp only[kM,eL]at h2 h3 h4;exact fX ho hc ha lE h1 (wV ⟨k,cs,.live⟩ _ _ _ id' rfl h2 h3 h4)
  .rename_i l
   rw[iY]at hs;have qW:=hs;unfold VR at hs;obtain⟨LV, off,st,c,el,fz,hv,hI,hH,hl⟩:=hs
   by_cases hn:n=0
   .subst hn
    simp at he;obtain⟨rfl,rfl⟩:=he;refine fX ho hc ha lE (mK ht kh hk hg gk dp hx ⟨_,_,_,hv,aY _⟩) ⟨ids,I,hg,Step.refl _ _,?_⟩;split
    .rename_i B8
     unfold VR;exact⟨B8,.inr ⟨LV, off,l.length,st,c,el,fz,hv,aY _,hI,hH,hl⟩⟩
    .exact qW
   .have iZ : (n==0)=false:=by simpa using hn
    simp only[iZ, cZ,dg]at he;split at he
    case isFalse=>simp at he
    rename_i dT;simp only[aD,cO]at dT;simp only[aS,Prod.mk.injEq]at he;obtain⟨rfl,rfl⟩:=he;obtain⟨olds,_,k1,k2,k3,k4⟩:=mI (P:=P) (σ:=σ) (k:=k) (X:=.arr l) (v:=a.eval s) (n:=l.length) (cs:=l.flatMap AV.cells) (by simp only[aE,dT.1,cn]) hg gk qW
    rw[hv]at k1;obtain⟨v,w', id', h1,h2,h3,h4⟩:=lS (P:=P) (σ:=σ) (cells:=l.flatMap AV.cells) (k0:=k) (b:=σ.length) (olds:=olds) (ty:=o.type) ht kh hk oW hz hg gk dp hx (q8 _) rfl k2 k3 k1 k4 aa dT.2
    rw[<-hv]at h1;exact fX ho hc ha lE h1 (wV ⟨k,l.flatMap AV.cells++cs,.live⟩ _ _ _ id' rfl h2 h3 h4)
  .rename_i b u off len
   cases hu:upto σ b u with
   |none=>simp[hu]at he
   |some B=>
    simp only[hu]at he;split at he
    case isFalse=>simp at he
    rename_i dT;simp only[aD,bJ,cO]at dT;obtain⟨⟨rfl,iw⟩,qX⟩:=dT;have qX:=wQ qX;obtain⟨hb,nU,pD⟩:=oe hu;have dU:=kc ids I hu;subst nU;rw[iY]at hs
    by_cases hn:n=0
    .subst hn
     simp at he;obtain⟨rfl,rfl⟩:=he;have qG:∃a' l' c', a.eval s = .slice a' l' c' /\l' <=c' :=by
      unfold VR at hs;obtain⟨⟨q,c,e1,e2,_⟩,_⟩:=hs;exact⟨_,_,_,e1,e2⟩
     exact fX ho hc ha lE (mK ht kh hk hg gk dp hx qG) ⟨ids,I,hg,Step.refl _ _,hs⟩
    .have iZ : (n==0)=false:=by simpa using hn
     simp only[iZ, cZ,dg]at he;split at he
     case isTrue=>simp at he
     rename_i oc;simp at oc;have abd : 0<cs.length:=fc.2 oc;split at he
     .rename_i nU
      simp only[bJ]at nU;simp only[aS,Prod.mk.injEq]at he;obtain⟨rfl,rfl⟩:=he;obtain⟨v,w', id', h1,h2,h3,h4⟩:=CO (P:=P) (σ:=σ) (ty:=o.type) ht kh hk oW hz hg gk dp hx dU nU (by rw[qX]) hs aa iw (qV hu) (λ⟨B1,q1,q2⟩=>by rw[hb]at q1;simp at q1;subst q1;simp at q2;omega) (lT (u:=0) hb)
      have fp:=mL (ids:=ids) (I:=I) (id' :=id') (B' :=⟨B.k,B.cells++cs,.live⟩) hb ab
      obtain⟨f1,f2⟩:=Good.shrink (C2:=ad (az σ b ⟨B.k,B.cells++cs,.live⟩) (λq=>if q=b then id' else ids q) I) h2 rfl (λb1 u1 e1 h1=>fp b1 u1 e1 h1) (λb1 u1 h1=>by
       rcases h1 with⟨e1,e2⟩|h1
       .have bP:b<σ.length:=by rw[bV]at hb;exact(cM.1 hb).1
        exact⟨⟨B.k,B.cells++cs,.live⟩,by rw[qZ bP,ah e1],by rw[e2];exact aY _⟩
       .exact mM (ids:=ids) (I:=I) hb (by show _<=(B.cells++cs).length;simp) b1 u1 h1)
      have e1:B.cells.length+cs.length=(B.cells++cs).length:=ab
      rw[e1];exact fX ho hc ha lE h1 ⟨_,I,f1,h3.trans f2,VR.mono f2.ev _ _ h4⟩
     .split at he
      case isFalse=>simp at he
      rename_i hle;simp only[aS,Prod.mk.injEq]at he;obtain⟨rfl,rfl⟩:=he;obtain⟨vals,⟨q,m,LG⟩,hf,pC,vH,vI⟩:=mI (P:=P) dp hg gk hx;have CV:len*aC k+cs.length<=B.cells.length:=by rw[pC,<-Nat.add_mul];exact hle
      obtain⟨_,_,LW,_⟩:=hg.ij b _ B _ dU;have jH:B.st = .live:=by
       cases eA:B.st with
       |dead=>exact absurd eA pD
       |map es=>have:=qV hu;rw[eA]at this;simp[c6.isMap]at this
       |live=>rfl
       |fN=>
        have h0:B.cells.length=0:=by rw[LW eA];rfl
        omega
      have CW:=hs;unfold VR at CW;have CW:=CW.2.2 B _ dU;simp only[jH]at CW;obtain⟨c,el,o', cap,g1,hv,g3,g4,g5⟩:=CW;obtain⟨_,c', wO, n2,n3,n4⟩:=hg.live b _ B _ dU jH;rw[g1]at n2;simp only[aS,jh]at n2;obtain⟨rfl,rfl,_⟩:=n2;rw[qX]at g5;have wL:0<aC k:=Nat.pos_of_ne_zero λh=>by rw[h,Nat.mul_zero]at pC;omega
      have tI:len+n<=cap:=by
       have:(len+n)*aC k<=cap*aC k:=aa
       exact Nat.le_of_mul_le_mul_right this wL
      have q9:0<cap:=aa
      have LF:=g3 q9;subst LF;have q7:∀v∈vals,v.oneCell' = true:=λv hv=>by
       obtain⟨i,hi⟩:=List.getElem?_of_mem hv;have bP:=(cM.1 hi).1;obtain⟨y,m1,m2,m3⟩:=vI i cs[i] (cG aa)
       rw[hi]at m1;simp at m1;subst m1;exact m3
      have gU:=run_storeCells_at P (ids b) (len*aC k) el vals 0 c w g1 aa q7
      have CX:=wP (P:=P) (w:=w) (ty:=o.type) (base:=some ⟨ids b,0,none⟩) ht kh hk LG (hf w rfl) tI (λb' KC =>by
       simp at KC; subst KC;rw[lR,eL];exact gU) (λh=>cy)
      rw[<-hv]at CX;obtain⟨p1,p2⟩:=qY (vals:=vals) (new:=cs) (off:=len*aC k) hg dU jH (lT (u:=0) hb) g1 CV vH vI;obtain⟨pl,_⟩:=od B.cells cs (len*aC k) CV;have fp:=mL (ids:=ids) (I:=I) (id' :=ids b) (B' :=⟨B.k,putAt B.cells (len*aC k) cs,B.st⟩) hb pD;have lU:(λq=>if q=b then ids b else ids q)=ids:=jj
      rw[lU]at fp;obtain⟨f1,f2⟩:=Good.shrink (C2:=ad (az σ b ⟨B.k,putAt B.cells (len*aC k) cs,B.st⟩) ids I) p1 rfl (λb1 u1 e1 h1=>by
       have:=fp b1 u1 e1 h1;simp only[pl]at this;exact this) (λb1 u1 h1=>mM (ids:=ids) (I:=I) hb (by show _<=(putAt B.cells (len*aC k) cs).length;omega) b1 u1 h1)
      refine fX ho hc ha lE CX ⟨ids,I,f1,p2.trans f2,?_⟩;have bP:b<σ.length:=by rw[bV]at hb;exact(cM.1 hb).1
      unfold VR;refine⟨⟨_,_,rfl,tI,λ_=>⟨_,rfl⟩⟩,⟨_,by rw[qZ bP,ah rfl],by show _<=(putAt B.cells (len*aC k) cs).length;omega⟩,λB2 tj h2=>?_⟩
      have wW :=fp b _ _ h2;rw[ah ⟨rfl,pl.symm⟩]at wW;simp at wW;obtain⟨rfl,rfl⟩:=wW;simp only[jH];refine⟨_,el,0,cap,setRow_heap w (ids b) c _ el (0,0) g1,rfl,λ_=>rfl,tI,?_⟩;rw[(CP aa).1,qX]
      exact g5
end
end Ab
set_option linter.all false
namespace Ab
open Go
variable{P:Program}
def tJ (n:Nat):∀l:List AV,iy n l=l.map (iz n)
 | []=>rfl
 |x::r=>by simp only[iy,tJ n r,bC]
structure mP (n:Nat) (C1 C' : Ctx):Prop where
 aA:∀k,C1.I k->C'.I k
 lim:∀b u,C1.lim b u->C'.lim (b+n) u
 own:∀b u B' id,C1.lim b u->C'.own (b+n) u=some (B', id)->∃B,C1.own b u=some (B,id)/\B'.st=kN n B.st/\B.k=B'.k
def LY{n:Nat}{B:aj}{es:List (AV×AV)}(h:(fZ n B).st = .map es):∃a,B.st = .map a/\es=KE n a:=by
 have h:kN n B.st = .map es:=h;cases b:B.st with
 |map a=>rw[b]at h;simp[kN]at h;exact⟨a,rfl,h.symm⟩
 |fN=>rw[b]at h;simp[kN]at h
 |live=>rw[b]at h;simp[kN]at h
 |dead=>rw[b]at h;simp[kN]at h
variable{s:c6}
def LZ{n:Nat}:(kN n s).isMap=s.isMap:=by cases s<;>rfl
def ra{n:Nat}:(kN n s).fo=s.fo:=by cases s<;>rfl
def CY{n:Nat}(h:kN n s = .live):s = .live:=by cases s<;>simp_all [kN]
def L0{n:Nat}(h:kN n s = .fN):s = .fN:=by cases s<;>simp_all [kN]
def L1{n:Nat}(h:kN n s = .dead):s = .dead:=by cases s<;>simp_all [kN]
section
variable{n:Nat}{C1 C' : Ctx}{H:Array Obj}
mutual
theorem VR.shift (h:mP n C1 C'):∀(x:AV) (v:Value),VR C1 H x v->VR C' H (iz n x) v
 |.int _,_,Y=>Y
 |.ik _ _,_,Y=>Y
 |.bool _,_,Y=>Y
 |.str _,_,Y=>Y
 |.agg l,_,⟨vs,e,hl,hc⟩=>⟨vs,e,bm.shift h l vs hl,hc⟩
 |.bz l,_,⟨vs,e,hl⟩=>⟨vs,e,bm.shift h l vs hl⟩
 |.ag,_,Y=>Y
 |.emp,_,Y=>Y
 |.aA nn l,v,Y=>VR.free (show kJ C1 H C' H from⟨h.aA,λ_ _=>rfl⟩) (.aA nn l) v rfl Y
 |.arr l,v,Y=>by
  unfold VR at Y;unfold iz VR;obtain⟨b,off,st,c,el,fz,e,hI,hH,hl⟩:=Y;refine⟨b,off,st,c,el,fz,?_,h.aA b hI,hH,fF.shift h c st l off hl⟩;rw[tJ];simpa using e
 |.sl b u off len,v,Y=>by
  unfold VR at Y;unfold iz VR;obtain⟨h0,h1,h3⟩:=Y;refine⟨h0,h.lim b u h1,λB' id ho=>?_⟩;obtain⟨B,g1,g2,g3⟩:=h.own b u B' id h1 ho;have:=h3 B id g1;rw[g3]at this;rw[g2];cases hs:B.st<;>rw[hs]at this<;>simpa[kN]using this
 |.gV,_,Y=>Y
 |.ar x,v,Y=>VR.free (show kJ C1 H C' H from⟨h.aA,λ_ _=>rfl⟩) (.ar x) v rfl Y
 |.ptr b u off,v,Y=>by
  unfold VR at Y;unfold iz VR;obtain⟨h0,h1,h3⟩:=Y;refine⟨h0,h.lim b u h1,λB' id ho hl=>?_⟩;obtain⟨B,g1,g2,g3⟩:=h.own b u B' id h1 ho;exact h3 B id g1 (CY (g2.symm.trans hl))
 |.gu,_,Y=>Y
 |.func _ l,_,⟨vs,e,hl⟩=>⟨vs,e,bm.shift h l vs hl⟩
 |.eP,_,Y=>Y
 |.iface _ x,_,⟨y,e,hx⟩=>⟨y,e,VR.shift h x y hx⟩
 |.b8 b,v,Y=>by
  unfold VR at Y;unfold iz VR;obtain⟨h0,h1,h3⟩:=Y;refine⟨h0,h.lim b 0 h1,λB' id ho hl=>?_⟩;obtain⟨B,g1,g2,g3⟩:=h.own b 0 B' id h1 ho;exact h3 B id g1 (by rw[g2,LZ]at hl;exact hl)
 |.tK,_,Y=>Y
 |.au,_,_=>trivial
theorem bm.shift (h:mP n C1 C'):∀(l:List AV) (vs:List Value),bm C1 H l vs->bm C' H (iy n l) vs
 | [],_,Y=>Y
 |x::r,_,⟨v,s,e,hx,hr⟩=>⟨v,s,e,VR.shift h x v hx,bm.shift h r s hr⟩
theorem fF.shift (h:mP n C1 C') (c:Array Value) (st:Nat):∀(l:List AV) (off:Nat),fF C1 H c st l off->fF C' H c st (iy n l) off
 | [],_,_=>trivial
 |x::r,off,⟨⟨v,Y,e,hj⟩,hr⟩=>⟨⟨v,VR.shift h x v Y,e,hj⟩,fF.shift h c st r (off+st) hr⟩
end
def MR.shift (h:mP n C1 C'):∀{es:List (AV×AV)}{l:List MapEntry},MR C1 H es l->MR C' H (KE n es) l
 | [],_,e=>e
 |(k,x)::r,_,⟨e,s,q,⟨k1,k2⟩,Y,hr⟩=>⟨e,s,q,⟨k1,VR.free ⟨h.aA,λ_ _=>rfl⟩ _ _ k1 k2⟩,VR.shift h _ _ Y,MR.shift h hr⟩
end
section
variable{a:Act}{ρ:Operand->Value}{r:Rf->AV}{w:World}{C:Ctx}{R:Operand->Rf->Bool}{ce:CE}{σ:List aj}{nl:Nat}{ps:List bI}
variable{ids:Nat->Nat}{o:Oper}{ca:Call}{f:Nat}{ys:List Rf}{σ': List aj}
def L2{I:Nat->Prop}{z:AV}(d:bn P ce) (h:o.op = .call ca) (i:ca.callee = .value (.func f)) (j:bU P f=true) (l:Good (ad σ ids I) w)
  (m:bm (ad σ ids I) w.heap (ys.map r) (ca.args.toList.map a.eval)) (g:dO ce σ r (.lF f ys)=some (z,σ')):aX P o a w (kj σ ids I w z σ'):=by
 simp only[dO]at g;refine aX.call (tz h i j w) ((d f _ σ z σ' g ids I w _ l m).mono ?_);rintro e u ⟨v,b, n, rfl,p,q,s⟩;exact⟨v,rfl,b, n, p,s,q⟩
variable{b:Nat}
def CZ:ay (σ'.map (fZ nl)) b=(ay σ' b).map (fZ nl):=by
 rw[bV,bV];simp
def rb (B:aj):(fZ nl B).cells.length=B.cells.length:=by simp[fZ,tJ]
def C3{I I' : Nat->Prop}{u:Nat}{B' : aj}{id:Nat}(h:(ad (σ'.map (fZ nl)) ids I).own b u=some (B', id)):∃B,(ad σ' ids I').own b u=some (B,id)/\B' = fZ nl B:=by
 simp only[ad,CZ]at h ⊢;cases a:ay σ' b with
 |none=>simp[a]at h
 |some B=>
  simp only[a,Option.map_some]at h ⊢;have e:(fZ nl B).st=kN nl B.st:=rfl;rw[e,rb]at h;cases f:B.st<;>simp only[f,kN]at h ⊢<;>first
   |(simp at h;done)
   |(by_cases d:B.cells.length=u
     .simp only[d,cn]at h ⊢
      simp at h;exact⟨B,by rw[h.2],h.1.symm⟩
     .simp[d]at h)
def L3{x:AV}{p:Option bI}(fG:bn P ce) (ho:o.op = .call ca) (hc:ca.callee = .value (.func f)) (hb:bU P f=true) (hg:Good C w)
  (wX:∀l,p=some (.news l)->∀b u,nl<=b->b<nl+l.length->¬C.lim b u)
  (hx:bm C w.heap (ys.map r) (ca.args.toList.map a.eval)) (he:ev ce σ nl ps r (.can f ys)=some (x,p)):aX P o a w (fb nl C w x p):=by
 simp only[ev]at he;split at he
 case isFalse=>simp at he
 rename_i hn;cases L4:ce f (ys.map r) []with
 |none=>simp[L4]at he
 |some q=>
  obtain⟨v0,σ'⟩:=q;simp only[L4,aS,Prod.mk.injEq]at he;obtain⟨rfl,rfl⟩:=he;have wX:=wX _ rfl;have hv0:bm (ad [] (λ_=>0) C.I) w.heap (ys.map r) (ca.args.toList.map a.eval):=bm.free (show kJ C w.heap (ad [] (λ_=>0) C.I) w.heap from⟨λ_ h=>h,λ_ _=>rfl⟩) _ _ hn hx;refine aX.call (tz ho hc hb w) ((fG f _ [] v0 σ' L4 (λ_=>0) C.I w _ (Cw hg _) hv0).mono ?_);rintro e w' ⟨v,aV, I', rfl,C4,hr,hs⟩;refine⟨v,rfl,?_⟩;have hlen:(σ'.map (fZ nl)).length=σ'.length:=ab
  let C' : Ctx:={I:=I', own:=λb u=>if nl<=b/\b<nl+(σ'.map (fZ nl)).length then(ad (σ'.map (fZ nl)) aV C.I).own (b-nl) u else C.own b u,lim:=λb u=>(nl<=b/\(ad (σ'.map (fZ nl)) aV C.I).lim (b-nl) u)\/C.lim b u}
  have kk:∀k,k<w.heap.size->w'.heap[k]? = w.heap[k]?:=λk hk=>hs.frame k hk kb;have C5:∀b u,(ad σ' aV I').lim b u->b<σ'.length:=λb u ⟨B,h1,_⟩=>by rw[bV]at h1;exact(cM.1 h1).1
  have vJ:∀b u,(ad (σ'.map (fZ nl)) aV C.I).lim b u↔(ad σ' aV I').lim b u:=λb u=>by
   simp only[ad,CZ];constructor
   .rintro⟨B,h1,h2⟩
    obtain⟨B0,h3,h4⟩:=jP.1 h1;subst h4;exact⟨B0,h3,by rwa [rb]at h2⟩
   .rintro⟨B,h1,h2⟩
    exact⟨fZ nl B,by rw[h1];rfl,by rw[rb];exact h2⟩
  have qG:mP nl (ad σ' aV I') C' :=by
   refine⟨λ_ h=>h,λb u h=>.inl ⟨aa,?_⟩,λb u B' id hl fq =>?_⟩
   .rw[show b+nl-nl=b by omega];exact(vJ b u).2 h
   .have bP:=C5 b u hl
    have jQ:nl<=b+nl/\b+nl<nl+(σ'.map (fZ nl)).length:=by rw[hlen];omega
    simp only[C', ah jQ]at fq;rw[show b+nl-nl=b by omega]at fq
    obtain⟨B,h1,h2⟩:=C3 (I' :=I') fq;exact⟨B,h1,by rw[h2];rfl,by rw[h2];rfl⟩
  have L5 : cF C w.heap C' w'.heap:=by
   refine⟨λk hk=>hs.ev.aA k hk,λk hk=>kk k (hg.I k hk),λ_ _ h=>.inr h,λb u B' id hl fq =>?_⟩;have re:¬(nl<=b/\b<nl+(σ'.map (fZ nl)).length):=λ⟨h1,h2⟩=>wX b u h1 h2 hl;simp only[C', ae re]at fq;refine⟨B', fq, rfl,rfl,λc el qT =>⟨c,?_,rfl⟩⟩;rw[kk id (eK.1 qT).1];exact qT
  have oi:∀id,owned (ad σ' aV I') id->w.heap.size<=id:=λid h=>(hs.cm id h).elim (λh=>absurd h kb) (λh=>h);have jI:∀b u B' id,C'.own b u=some (B', id)->(nl<=b/\b<nl+(σ'.map (fZ nl)).length/\∃B,(ad σ' aV I').own (b-nl) u=some (B,id)/\B' = fZ nl B)\/C.own b u=some (B', id):=λb u B' id h=>by
   by_cases jQ:nl<=b/\b<nl+(σ'.map (fZ nl)).length
   .simp only[C', ah jQ]at h
    obtain⟨B,h1,h2⟩:=C3 (I' :=I') h;exact .inl ⟨jQ.1,jQ.2,B,h1,h2⟩
   .simp only[C', ae jQ]at h
    exact .inr h
  refine⟨C', ⟨C4.I,λb u B' id h=>?_,λb u B' id h hl=>?_,λb1 u1 B1 i1 b2 u2 B2 i2 k1 l1 k2 l2 fm=>?_,λb u B' id es h hl=>?_⟩,⟨L5, hs.size,λk hk _=>kk k hk,λk hk=>?_,λk hk=>?_,hs.os,hs.tape,hs.output⟩,VR.shift qG _ _ hr,aV, rfl,rfl⟩
  .rcases jI b u B' id h with⟨q1,q2,B,q3,rfl⟩|h'
   .obtain⟨j1,j2,j3,j4⟩:=C4.ij _ _ _ _ q3
    exact⟨.inl ⟨q1,(vJ _ _).2 j1⟩,by rw[rb];exact j2,λh0=>by
     have:B.cells=[]:=j3 (L0 h0);simp[fZ,this,iy],λh0=>j4 (L1 h0)⟩
   .obtain⟨j1,j2,j3,j4⟩:=hg.ij _ _ _ _ h'
    exact⟨.inr j1,j2,j3,j4⟩
  .rcases jI b u B' id h with⟨q1,q2,B,q3,rfl⟩|h'
   .obtain⟨j1,c,el,j2,j3,j4⟩:=C4.live _ _ _ _ q3 (CY hl)
    refine⟨j1,c,el,j2,by rw[rb];exact j3,λi y hi=>?_⟩
    have ja : (iy nl B.cells)[i]? = some y:=hi;rw[tJ,eQ]at ja;obtain⟨y0,e1,rfl⟩:=jP.1 ja;obtain⟨v', m1,m2,m3⟩:=j4 i y0 e1;exact⟨v', m1,VR.shift qG _ _ m2,m3⟩
   .obtain⟨j1,c,el,j2,j3,j4⟩:=hg.live _ _ _ _ h' hl
    have bP:=(eK.1 j2).1;refine⟨λhi=>?_,c,el,by rw[kk id bP];exact j2,j3,λi y hi=>?_⟩
    .rcases hs.cv id hi with h1|h1|h1
     .exact j1 h1
     .exact kb h1
     .omega
    .obtain⟨v', m1,m2,m3⟩:=j4 i y hi
     exact⟨v', m1,VR.mono L5 _ _ m2,m3⟩
  .rcases jI _ _ _ _ k1 with⟨q1,q2,B,q3,rfl⟩|h1<;>rcases jI _ _ _ _ k2 with⟨q4,q5,B', q6,rfl⟩|h2
   .exact C4.apart _ _ _ _ _ _ _ _ q3 (ra.symm.trans l1) q6 (ra.symm.trans l2) aa
   .have:=oi i1 ⟨_,_,B,q3,ra.symm.trans l1⟩
    have:=hg.lt ⟨b2,u2,B2,h2,l2⟩;omega
   .have:=oi i2 ⟨_,_,B', q6,ra.symm.trans l2⟩
    have:=hg.lt ⟨b1,u1,B1,h1,l1⟩;omega
   .exact hg.apart _ _ _ _ _ _ _ _ h1 l1 h2 l2 fm
  .rcases jI b u B' id h with⟨q1,q2,B,q3,rfl⟩|h'
   .obtain⟨es0,L6,rfl⟩:=LY hl
    obtain⟨j1,l,c,j2,j3⟩:=C4.maps _ _ _ _ es0 q3 L6;exact⟨j1,l,c,j2,MR.shift qG j3⟩
   .have bP:=hg.lt ⟨_,_,_,h', gN hl⟩
    refine hg.bG (C' :=C') L5 h' hl (kk id bP) λhi=>?_;rcases hs.cv id hi with h1|h1|h1
    .exact(hg.maps _ _ _ _ _ h' hl).1 h1
    .exact kb h1
    .omega
  .obtain⟨b,u,B', h1,h2⟩:=hk
   rcases jI _ _ _ _ h1 with⟨q1,q2,B,q3,rfl⟩|h'
   .exact .inr (oi k ⟨_,_,B,q3,ra.symm.trans h2⟩)
   .exact .inl ⟨b,u,B', h', h2⟩
  .rcases hs.cv k hk with h1|h1|h1
   .exact .inl h1
   .exact absurd h1 kb
   .exact .inr (.inr h1)
end
end Ab
namespace Ab
open Go
variable{P:Program}
section
variable{a:Act}{ρ:Operand->Value}{r:Rf->AV}{w:World}{C:Ctx}{R:Operand->Rf->Bool}{ce:CE}{σ:List aj}{nl:Nat}{ps:List bI}
def L7{ids:Nat->Nat}{I:Nat->Prop}{o:Oper}{ca:Call}{t e:TypeId}{x:Operand}{x' : Rf}{zc:List AV}{k:Option Nat}{z:AV}{σ' : List aj}(ho:o.op = .call ca) (hc:ca.callee = .builtin .clear) (ha:ca.args.toList=[x]) (lE:ca.argTypes.toList=[t]) (ht:aG P t=some e) (hk:aR P e k=true) (hz:eN P e zc=true) (hg:Good (ad σ ids I) w)
  (hx:VR (ad σ ids I) w.heap (r x') (a.eval x)) (he:dO ce σ r (.oY x' zc k)=some (z,σ')):aX P o a w (kj σ ids I w z σ'):=by
 simp only[dO]at he;cases pG : r x' <;>simp only[pG]at he<;>try(simp at he;done)
 rename_i b u off len;cases hu:upto σ b u with
 |none=>simp[hu]at he
 |some B=>
  simp only[hu]at he;split at he
  case isFalse=>simp at he
  rename_i hcc;obtain⟨c0,c1,c2,c3,c4⟩:=hcc;simp only[aS,Prod.mk.injEq]at he;obtain⟨rfl,rfl⟩:=he;obtain⟨hb,nU,pD⟩:=oe hu;have hs:B.st = .live:=by revert c4;cases B.st<;>simp[c6.isLive]
  have dU:=kc ids I hu;subst nU;rw[pG]at hx;unfold VR at hx;have hx3:=hx.2.2 B _ dU;rw[hs]at hx3;obtain⟨c', wO, o', cap,tG, e,wY,hlc,oc⟩:=hx3;rw[wY aa]at e
  obtain⟨_,c,el,hH,hle,og⟩:=hg.live b _ B _ dU hs;obtain⟨zv,z1,z2,z3⟩:=tC (C:=ad σ ids I) hz w;have CH:zv.cells.size=aC k:=by have:=bm.length z2;simp at this;omega
  obtain⟨d1,d2⟩:=wK zc len;rw[c3]at d1 d2;have vH:(Builtin.zeroCells zv.cells len).toList.length=len*aC k:=by simp[Builtin.zeroCells,CH]
  obtain⟨g1,g2⟩:=qY (vals:=(Builtin.zeroCells zv.cells len).toList) (new:=cS len zc) (off:=off) hg dU hs (lT (u:=0) hb) hH aa aa (λj q hj=>by
   have bP:=(cM.1 hj).1;rw[d1]at bP;rw[d2 j bP]at hj;have wL:0<aC k:=Nat.pos_of_ne_zero λh=>by rw[h]at bP;simp at bP
   obtain⟨y,k1,k2⟩:=z2.get (j%aC k) q hj;rw[gQ]at k1;refine⟨y,?_,k2,z3 y (by rw[n5];exact Array.mem_of_getElem? k1)⟩
   have hm:=Nat.mod_lt j wL;rw[iv (by omega:j%aC k<zv.cells.size)]at k1
   simp at k1;rw[gQ];simp[Builtin.zeroCells,CH,bP,getElem!_def,iv (by omega:j%aC k<zv.cells.size),k1])
  obtain⟨pl,_⟩:=od B.cells (cS len zc) off aa
  have fp:=mL (ids:=ids) (I:=I) (id' :=ids b) (B' :=⟨B.k,putAt B.cells off (cS len zc),B.st⟩) hb pD;have lU:(λq=>if q=b then ids b else ids q)=ids:=jj
  rw[lU]at fp;obtain⟨f1,f2⟩:=Good.shrink (C2:=ad (az σ b ⟨B.k,putAt B.cells off (cS len zc),B.st⟩) ids I) g1 rfl (λb1 u1 e1 h1=>by
   have:=fp b1 u1 e1 h1;simp only[pl]at this;exact this) (λb1 u1 h1=>mM (ids:=ids) (I:=I) hb (by show _<=(putAt B.cells off (cS len zc)).length;omega) b1 u1 h1)
  have q7:∀v∈(Builtin.zeroCells zv.cells len).toList,v.oneCell' = true:=λv hv=>by
   obtain⟨j,hj⟩:=List.mem_iff_getElem?.1 hv;have bP:=(cM.1 hj).1;rw[vH]at bP;have wL:0<aC k:=Nat.pos_of_ne_zero λh=>by rw[h]at bP;simp at bP
   have hm:=Nat.mod_lt j wL;rw[gQ]at hj;simp[Builtin.zeroCells,CH,bP,getElem!_def,iv (by omega:j%aC k<zv.cells.size)]at hj
   subst hj;exact z3 _ (by rw[n5];exact Array.getElem_mem _)
  have gU:=run_storeCells_at P (ids b) off el (Builtin.zeroCells zv.cells len).toList 0 c w hH aa q7
  simp only[Nat.add_zero]at gU;have C6 : ca.args = #[x]:=by rw[<-Array.toList_inj];simpa using ha
  have L8 : ca.argTypes = #[t]:=by rw[<-Array.toList_inj];simpa using lE
  obtain⟨n', rfl⟩:∃n', len=n' + 1:=⟨len-1,aa⟩
  refine aX.val (v:=.tuple #[]) (w' :=w.setRow (ids b) (c.toList.take off++(Builtin.zeroCells zv.cells (n' + 1)).toList++c.toList.drop (off+(Builtin.zeroCells zv.cells (n' + 1)).toList.length)).toArray) ?_ ⟨ids,I,f1,g2.trans f2,by unfold VR;trivial⟩
  simp only[execOp,ho,resolve,hc,C6, L8, aN,aZ,aU,invoke,builtin,Builtin.clear_];simp[e,aN,jd ht,z1,gU]
end
end Ab
namespace Ab
open Go
variable{P:Program}
section
variable{a:Act}{r:Rf->AV}{w:World}{C:Ctx}{R:Operand->Rf->Bool}{ce:CE}{σ:List aj}{nl:Nat}{ps:List bI}
variable{o:Oper}{x:AV}{p:Option bI}
def vK{b:Operand}{y:Rf}(d:o.op = .move b\/o.op = .assign b) (f:Good C w) (g:VR C w.heap (r y) (a.eval b)) (e:ev ce σ nl ps r (.mv y)=some (x,p)) :
  aX P o a w (b7 C w x)/\p=none:=by
 simp[ev]at e;obtain⟨rfl,rfl⟩:=e;refine⟨aX.val (v:=a.eval b) (w' :=w) ?_ (b7.same f g),rfl⟩;rcases d with d|d<;>simp only[execOp,d,aZ]
def bZ.jJ:bZ->Bool
 |.eC _ | .gv ..=>true
 |_=>false
variable{kO:bZ}
def opP(b:iA P R o.op kO=true) (i:kO.gW=true) (s:kO.jJ=false) (u:bn P ce) (A:bQ P ce) (q:Good C w)
  (f:∀x y,R x y=true->VR C w.heap (r y) (a.eval x)) (B:r (.c (.int 0)) = .int 0) (g:ev ce σ nl ps r kO=some (x,p)):aX P o a w (b7 C w x)/\p=none:=by
 obtain⟨dst,op,type,pos,after,guard⟩:=o;have pl:∀{G : AV} {H : Option bI},Plain P a.eval ⟨dst,op,type,pos,after,guard⟩ w C w.heap G /\H = none->aX P ⟨dst,op,type,pos,after,guard⟩ a w (b7 C w G)/\H = none:=λh=>⟨h.1.does q,h.2⟩;simp only[iA]at b;split at b
 .exact vK (.inl rfl) q (f _ _ b) g
 .exact vK (.inr rfl) q (f _ _ b) g
 .simp[bZ.gW]at i
 .simp only[aD]at b
  exact pl (L9 rfl b.1.1 (f _ _ b.1.2) (f _ _ b.2) g)
 .simp only[aD]at b
  exact pl (Ma rfl b.1.1.1 b.1.1.2 (f _ _ b.1.2) (f _ _ b.2) g)
 .simp[bZ.gW]at i
 .exact pl (Mb rfl (f _ _ b) g)
 .exact pl (Mc rfl (f _ _ b) B g)
 .simp only[aD]at b
  exact pl (Md rfl (f _ _ b.1.1) (f _ _ b.1.2) (f _ _ b.2) g)
 .split at b
  .rename_i z D
   simp only[aD]at b;exact pl (Me rfl rfl z D b.1 (f _ _ b.2) g)
  .simp at b
 .split at b
  .rename_i z
   simp only[aD]at b;exact pl (vL (m:=true) rfl rfl z (f _ _ b.1) (f _ _ b.2) g)
  .simp at b
 .split at b
  .rename_i z
   simp only[aD]at b;exact pl (vL (m:=false) rfl rfl z (f _ _ b.1) (f _ _ b.2) g)
  .simp at b
 .simp only[aD]at b
  obtain⟨d,j⟩:=b;split at d
  .rename_i K I
   split at d
   .rename_i L J
    simp only[aD,bJ,Bool.not_eq_true']at d;exact pl (Mf rfl I J d.1.1 d.1.2 d.2 (f _ _ j) g)
   .simp at d
  .simp at d
 .simp only[aD]at b
  obtain⟨⟨d,j⟩,l⟩:=b;split at d
  .rename_i e n
   exact pl (Mg rfl n d (f _ _ j) (f _ _ l) g)
  .simp at d
 .simp only[aD]at b
  obtain⟨⟨d,j⟩,l⟩:=b;split at d
  .rename_i m e n
   simp only[aD,bJ,cO]at d;obtain⟨⟨rfl,E⟩,_⟩:=d;exact pl (Mh rfl n E (f _ _ j) (f _ _ l) g)
  .simp at d
 .exact pl (Mi rfl (f _ _ b) g)
 .exact Lm rfl q (f _ _ b) g
 .simp[bZ.gW]at i
 .simp[bZ.gW]at i
 .simp[bZ.jJ]at s
 .simp[bZ.jJ]at s
 .simp[bZ.gW]at i
 .simp[bZ.gW]at i
 .simp only[aD]at b
  exact pl (C7 rfl b.1 (f _ _ b.2) g)
 .simp only[aD]at b
  exact pl (Mj rfl b.1 b.2 f g)
 .simp only[aD]at b
  obtain⟨⟨d,j⟩,l⟩:=b;split at d
  .rename_i m e n
   simp only[aD,bJ]at d;obtain⟨rfl,E⟩:=d;exact pl (Mk rfl n E (f _ _ j) (f _ _ l) g)
  .simp at d
 .simp only[aD,bJ]at b
  obtain⟨rfl,j⟩:=b;exact pl (Ml rfl (f _ _ j) g)
 .simp only[aD,bJ]at b
  obtain⟨⟨d,rfl⟩,j⟩:=b;exact pl (Mm rfl d (kl f j) g)
 .simp only[aD]at b
  obtain⟨⟨⟨d,j⟩,l⟩,F⟩:=b;split at d
  .rename_i e n
   simp only[aD,cO]at d;exact Lo rfl n d.1.1 d.1.2 d.2 j l q (kl f F) g
  .simp at d
 .simp only[aD]at b
  obtain⟨⟨⟨d,j⟩,l⟩,F⟩:=b;split at d
  .rename_i e n
   simp only[aD,cO]at d;exact CB rfl n d.1.1 d.1.2 d.2 j l q (kl f F) g
  .simp at d
 .simp[bZ.gW]at i
 .simp[bZ.gW]at i
 .simp[bZ.gW]at i
 .simp[bZ.gW]at i
 .simp[bZ.gW]at i
 .simp only[aD,bJ]at b
  obtain⟨⟨rfl,d⟩,j⟩:=b;exact Li u rfl rfl d q (kl f j) g
 .simp[bZ.gW]at i
 .simp[bZ.gW]at i
 .simp[bZ.gW]at i
 .simp only[aD]at b
  exact Lk u A rfl rfl q (f _ _ b.1) (kl f b.2) g
 .simp[bZ.gW]at i
 .simp[bZ.gW]at i
 .simp[bZ.gW]at i
 .simp[bZ.gW]at i
 .simp[bZ.gW]at i
 .simp[bZ.gW]at i
 .simp only[aD,bJ]at b
  obtain⟨⟨d,j⟩,l⟩:=b;split at d
  .rename_i e n
   simp only[aD]at d;exact Lp rfl n d.1 d.2 j l q g
  .simp at d
 .simp at b
def Mn(h:aX P o a w (b7 C w x)/\p=none):aX P o a w (fb nl C w x p):=by
 obtain⟨b,rfl⟩:=h;exact b.mono λv d h=>h.e
def opE(d:iA P R o.op kO=true) (W:kO.gG=false) (I:kO.jJ=false) (F:bn P ce) (J:bQ P ce) (s:Good C w)
  (z:∀b u B,C.lim b u->dm σ b u=some B->∃id,C.own b u=some (B,id)) (S:kO.gW=false->(∀f as,kO ≠ .can f as)->∀u,¬C.lim nl u) (K:∀l,p=some (.news l)->∀b u,nl<=b->b<nl+l.length->¬C.lim b u)
  (L:∀b u B cs,upto σ b u=some B->p=some (.grow b cs)->ki b ps=false->(∀n,u<n->¬C.lim b n)/\∀T B' id', C.own b T = some (B', id')->T = u)
  (i:∀x y,R x y=true->VR C w.heap (r y) (a.eval x)) (M:r (.c (.int 0)) = .int 0) (j:ev ce σ nl ps r kO=some (x,p)):aX P o a w (fb nl C w x p):=by
 by_cases N:kO.gW=true
 .obtain⟨g,rfl⟩:=opP d N I F J s i M j
  exact g.mono λv X h=>h.e
 have O : kO.gW=false:=by simpa using N
 have A:∀b u B,C.lim b u->upto σ b u=some B->∃id,C.own b u=some (B,id):=λb u B Y h=>z b u B Y (C8 h);have m:=S O;clear S;obtain⟨dst,op,type,pos,after,guard⟩:=o;have pl:∀{U : AV} {V : Option bI},Plain P a.eval ⟨dst,op,type,pos,after,guard⟩ w C w.heap U /\V = none->aX P ⟨dst,op,type,pos,after,guard⟩ a w (fb nl C w U V):=λh=>by
  obtain⟨g,rfl⟩:=h;exact(g.does s).mono λv X h=>h.e
 simp only[iA]at d;split at d
 all_goals first
  |(exfalso;exact N rfl)
  |(exfalso;simp[bZ.gG]at W;done)
  |skip
 .exact CJ rfl d s (m ab) j
 .simp only[aD,Bool.or_eq_true]at d
  exact pl (C9 (a:=a) rfl rfl d.1.1 d.1.2 A (d.2.imp (λh=>⟨h.1,i _ _ h.2⟩) (λh=>⟨h.1,i _ _ h.2⟩)) j)
 .simp only[aD]at d
  exact Lq rfl s (m ab) (i _ _ d.2) j
 .simp only[aD]at d
  exact Lr rfl d.1 s (m ab) j
 .simp only[aD]at d
  exact pl (rf rfl d.1 s A (i _ _ d.2) j)
 .simp only[aD]at d
  obtain⟨⟨⟨g,q⟩,E⟩,H⟩:=d;split at g
  .rename_i e D
   simp only[aD,cO]at g;exact Ls rfl D g.1.1 g.1.2 g.2 q E s (m ab) (kl i H) j
  .simp at g
 .simp only[aD]at d
  obtain⟨⟨⟨g,q⟩,E⟩,H⟩:=d;split at g
  .rename_i e D
   exact pl (Da rfl D g A (i _ _ q) E H i j)
  .simp at g
 .simp only[aD]at d
  obtain⟨⟨g,q⟩,E⟩:=d;split at g
  .rename_i e D
   simp only[aD]at g;exact Lt rfl D g.1.1 g.1.2 g.2 s (m ab) (i _ _ q) (i _ _ E) j
  .simp at g
 .split at d
  .rename_i Q G
   simp only[aD]at d;obtain⟨⟨⟨g,q⟩,E⟩,H⟩:=d;split at g
   .rename_i e D
    simp only[aD]at g;exact LH rfl rfl Q G D q g.1.1 g.1.2 g.2 s A (m ab) L (i _ _ E) (i _ _ H) j
   .simp at g
  .simp at d
 .simp only[aD,bJ]at d
  obtain⟨⟨rfl,g⟩,q⟩:=d;exact Mn (Cy F rfl rfl g s A (kl i q) j)
 .simp only[aD,bJ]at d
  obtain⟨⟨rfl,g⟩,q⟩:=d;exact L3 F rfl rfl g s K (kl i q) j
 .exact Lv rfl s (m ab) j
 .simp only[aD,bJ]at d
  obtain⟨⟨⟨g,rfl⟩,q⟩,E⟩:=d;split at g
  .rename_i D
   simp only[aD]at g;exact pl (Db rfl D g.1 g.2 s z (i _ _ q) (i _ _ E) j)
  .simp at g
 .split at d
  .rename_i Q G
   simp only[aD]at d;obtain⟨g,q⟩:=d;split at g
   .rename_i D
    exact pl (Dc rfl rfl Q G D s z (i _ _ q) j)
   .simp at g
  .simp at d
 .simp at d
end
end Ab
