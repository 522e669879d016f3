/- Memory, and each operation that makes, lengthens or turns blocks, is what the small language says. Condition: the callees answer as the interpreter says. Two more operations of Go's: the capacity of a nil slice, and clear. One operation of a phase, whatever it is. Condition: the callees answer as the interpreter says. Condition: none. -/
import Derived.Test.YtdenhmniigikcaaGreatAbM
import Derived.Great.BuildSlice
import Derived.Laws.CopyRow
import Derived.Laws.BytesString
import Derived.Lib.ConvBytes
import Derived.Laws.AppendOwn
import Derived.OrdersIn
import Derived.RangeFuncCalls
set_option linter.all false
namespace Ab
open Go
variable{P:Program}
def fw (r:Option Nat):Fence:={Fence.wide with round:=r}
def bI (P:Program) (o:Oper) (a:Act) (w:World) (b:Value->World->Prop):Prop:=
 ∀(r:Option Nat) (K:Act->World->Prop) (Q:Exit->Act->World->Prop),(∀v d, b v d ->K (a.put o.dst v) d)->o.wpIn (fw r) 0 P a w K Q
variable{o:Oper}{w': World}
def Fk{r:Option Nat}{a:Act}{w: World}{x:Next}(h:(execOp a.eval o).run P w = .ok x w') (e:∀d,x ≠ .defer d):(o.semAt (fw r).round a.eval).run P w = .ok x w' :=by
 rw[Oper.semAt_eq]
 .exact h
 .intro c g
  simp only[execOp,g,aW]at h;cases b:(resolve a.eval c o.type).run P w with
  |ok d i=>rw[b]at h;simp only[Result.andThen,bw,Result.ok.injEq]at h;exact e _ h.1.symm
  |halt _ _=>rw[b]at h;simp[Result.andThen]at h
variable{rm:Value->World->Prop}
def bI.val{a:Act}{w: World}{v:Value}(h:(execOp a.eval o).run P w = .ok (.value v) w') (hp:rm v w'):bI P o a w rm:=λr K Q hk=>
 ⟨λ_ _=>trivial,by rw[Fk h ab];exact hk _ _ hp⟩
def bI.skip{a:Act}{w: World}(h:(execOp a.eval o).run P w = .ok .skip w') (hp:rm undef w'):bI P o a w rm:=λr K Q hk=>
 ⟨λ_ _=>trivial,by rw[Fk h ab];exact hk _ _ hp⟩
variable{f:FuncId}{args:Array Value}
def Yi{r:Option Nat}{n:Nat}{w:World}{R:Ending->World->Prop}(h:Calls P f args w R):CallsIn (fw r) n P f args w R:=by
 cases r with
 |none=>exact callsIn_wide.2 h
 |some l=>exact CallsIn.inRound l (callsIn_wide.2 h)
def bI.call{a:Act}{w:World}(h:(execOp a.eval o).run P w = .ok (.enter f args) w)
  (hc:Calls P f args w λe w' =>∃v,e = .returned v/\rm v w'):bI P o a w rm:=λr K Q hk=>
 ⟨λ_ _=>trivial,by
  rw[Fk h ab,Oper.uponIn_enter]
  refine⟨λh=>by simp[fw,Fence.wide]at h,Yi (hc.mono ?_)⟩
  rintro e w' ⟨v,rfl,hp⟩;exact hk _ _ hp⟩
def bI.mono{a:Act}{w:World}{rm Em : Value->World->Prop}(h:bI P o a w rm) (hp:∀v w', rm v w' ->Em v w'):bI P o a w Em :=
 λr K Q hk=>h r K Q λv w' h' =>hk v w' (hp v w' h')
def cg (w:World) (o:Obj):World:={w with heap:=w.heap.push o}
def mL (w:World) (o:Obj){k:Nat}(h:k<w.heap.size):(cg w o).heap[k]? = w.heap[k]?:=by
 show(w.heap.push o)[k]? = _;rw[Array.getElem?_push,ad aa]
def oS (w:World) (o:Obj):(cg w o).heap[w.heap.size]? = some o:=by
 show(w.heap.push o)[w.heap.size]? = _;simp
theorem ym (w:World) (el:TypeId) (cs:Array Value):(newRow el cs).run P w = .ok ⟨w.heap.size,0,none⟩ (cg w (.cells cs el)):=rfl
theorem Be (w:World) (t:TypeId) (v:Value):(newVar t v).run P w = .ok ⟨w.heap.size,0,none⟩ (cg w (.cells v.cells t)):=rfl
def Good.grow{C:Ctx}{w: World}(hg:Good C w) (hs:w.heap.size<=w'.heap.size) (fC:∀k,k<w.heap.size->w'.heap[k]? = w.heap[k]?):Good C w' /\fZ C w.heap C w'.heap:=by
 have ev:fZ C w.heap C w'.heap:=by
  refine⟨λ_ h=>h,λk hk=>fC k (hg.I k hk),λ_ _ h=>h,λb u B' id _ ho=>⟨B', ho,rfl,rfl,λc el hc=>⟨c,?_,rfl⟩⟩⟩;rw[fC id (ke.1 hc).1];exact hc
 refine⟨⟨λk hk=>ui (hg.I k hk) hs,hg.lV,λb u B id ho hl=>?_,hg.apart,λb u B id es ho hl=>hg.df ev ho hl (fC id (hg.lt ⟨b,u,B,ho,l0 hl⟩)) (hg.maps b u B id es ho hl).1⟩,ev⟩;obtain⟨h1,c,el,h2,h3,h4⟩:=hg.live b u B id ho hl;refine⟨h1,c,el,by rw[fC id (ke.1 h2).1];exact h2,h3,λi x hi=>?_⟩
 obtain⟨y,g1,g2,g3⟩:=h4 i x hi;exact⟨y,g1,VR.mono ev _ _ g2,g3⟩
def Good.oT{C:Ctx}{w: World}(hg:Good C w) (hs:w.heap.size<=w'.heap.size) (fC:∀k,k<w.heap.size->w'.heap[k]? = w.heap[k]?) (I' : Nat->Prop) (h1:∀k,C.I k->I' k) (h2:∀k,I' k->k<w'.heap.size)
  (h3:∀k,I' k->C.I k\/w.heap.size<=k) (ho:w'.os=w.os) (ht:w'.tape=w.tape/\w.drawn<=w'.drawn) (Fl:w'.output=w.output):Good {C with I:=I'} w' /\Step C w {C with I:=I'} w' :=by
 have ev:fZ C w.heap {C with I:=I'} w'.heap:=by
  refine⟨h1,λk hk=>fC k (hg.I k hk),λ_ _ h=>h,λb u B' id _ ho=>⟨B', ho,rfl,rfl,λc el hc=>⟨c,?_,rfl⟩⟩⟩;rw[fC id (ke.1 hc).1];exact hc
 refine⟨⟨h2,hg.lV,λb u B id ho hl=>?_,hg.apart,λb u B id es ho hl=>hg.df ev ho hl (fC id (hg.lt ⟨b,u,B,ho,l0 hl⟩)) (λhi=>(h3 id hi).elim (hg.maps b u B id es ho hl).1 (λh=>by have:=hg.lt ⟨b,u,B,ho,l0 hl⟩;omega))⟩,⟨ev,hs,λk hk _=>fC k hk,λk hk=>.inl hk,λk hk=>(h3 k hk).elim .inl (λh=>.inr (.inr h)),ho,ht,Fl⟩⟩
 obtain⟨g1,c,el,g2,g3,g4⟩:=hg.live b u B id ho hl;have cm:=(ke.1 g2).1;refine⟨λhi=>(h3 id hi).elim g1 (λh=>aa),c,el,by rw[fC id cm];exact g2,g3,λi x hi=>?_⟩
 obtain⟨y,k1,k2,k3⟩:=g4 i x hi;exact⟨y,k1,VR.mono ev _ _ k2,k3⟩
def Fm{C:Ctx}{w:World}(b:Good C w) (c:Array Value) (el:TypeId):Good {C with I:=λk=>C.I k\/k=w.heap.size} (cg w (.cells c el))/\Step C w {C with I:=λk=>C.I k\/k=w.heap.size} (cg w (.cells c el)):=
 b.oT (by simp[cg]) (λk a=>mL w _ a) _ (λk a=>.inl a) (λk a=>a.elim (λh=>by have:=b.I k h;simp[cg];omega) (λh=>by simp[cg];omega))
  (λk a=>a.elim .inl (λh=>.inr aa)) rfl ⟨rfl,bd _⟩ rfl
def ay (C:Ctx) (b u:Nat) (e:al×Nat):Ctx where
 I:=C.I
 own:=λa d =>if a = b/\d = u then some e else C.own a d
 lim:=λa d =>(a = b/\d = u)\/C.lim a d
variable{b:Nat}
def Bg{C:Ctx}{w:World}(n:Good C w)(B:al) (T:¬C.lim b B.cells.length) (c:Array Value) (el:TypeId) (p:B.st = .live) (hle:B.cells.length<=c.size)
  (U:∀(i:Nat) x,B.cells[i]? = some x->∃y,c[i]? = some y/\VR C w.heap x y/\y.oneCell' = true) :
  Good (ay C b B.cells.length (B,w.heap.size)) (cg w (.cells c el))/\Step C w (ay C b B.cells.length (B,w.heap.size)) (cg w (.cells c el)):=by
 have ev:fZ C w.heap (ay C b B.cells.length (B,w.heap.size)) (cg w (.cells c el)).heap:=by
  refine⟨λ_ h=>h,λk j=>mL w _ (n.I k j),λ_ _ h=>.inr h,λd e m id l a=>?_⟩;have o:¬(d = b/\e = B.cells.length):=λ⟨u,z⟩=>T (u▸z▸l);simp only[ay,ad o]at a;refine⟨m, a,rfl,rfl,λJ D E =>⟨J, ?_,rfl⟩⟩;rw[mL w _ (ke.1 E).1];exact E
 have q:∀k,owned C k->k<w.heap.size:=λk j=>n.lt j;refine⟨⟨λk j=>by have:=n.I k j;simp[cg];omega,λd e m id a=>?_,λd e m id a l=>?_,λb1 K O i1 L M P Q r R s S o=>?_,λd e m id es a l=>?_⟩,
  ⟨ev,by simp[cg],λk j _=>mL w _ j,λk j=>?_,λk j=>.inl j,rfl,⟨rfl,bd _⟩,rfl⟩⟩
 .by_cases g:d = b/\e = B.cells.length
  .simp only[ay,ae g]at a
   simp at a;obtain⟨rfl,rfl⟩:=a;exact⟨.inl g,g.2,λh=>by rw[p]at h;simp at h,by rw[p];simp⟩
  .simp only[ay,ad g]at a
   obtain⟨F,A,G,N⟩:=n.lV d e m id a;exact⟨.inr F,A,G,N⟩
 .by_cases g:d = b/\e = B.cells.length
  .simp only[ay,ae g]at a
   simp at a;obtain⟨rfl,rfl⟩:=a;refine⟨λH=>Nat.lt_irrefl _ (n.I _ H),c,el,oS w _,hle,λi x H=>?_⟩;obtain⟨y,F,A,G⟩:=U i x H;exact⟨y,F,VR.mono ev _ _ A,G⟩
  .simp only[ay,ad g]at a
   obtain⟨F,J, D, A,G,N⟩:=n.live d e m id a l;refine⟨F,J, D, by rw[mL w _ (ke.1 A).1];exact A,G,λi x H=>?_⟩
   obtain⟨y,V,W,X⟩:=N i x H;exact⟨y,V,VR.mono ev _ _ W,X⟩
 .by_cases u:b1=b/\K=B.cells.length<;>by_cases z:L=b/\M=B.cells.length
  .exact absurd (u.1.trans z.1.symm) o
  .simp only[ay,ae u]at r;simp only[ay,ad z]at s
   simp at r;obtain⟨rfl,rfl⟩:=r;have:=q Q ⟨L,M,P,s,S⟩;omega
  .simp only[ay,ad u]at r;simp only[ay,ae z]at s
   simp at s;obtain⟨rfl,rfl⟩:=s;have:=q i1 ⟨b1,K,O,r,R⟩;omega
  .simp only[ay,ad u]at r;simp only[ay,ad z]at s
   exact n.apart b1 K O i1 L M P Q r R s S o
 .by_cases g:d = b/\e = B.cells.length
  .simp only[ay,ae g]at a
   simp at a;obtain⟨rfl,rfl⟩:=a;rw[p]at l;simp at l
  .simp only[ay,ad g]at a
   exact n.df (C' :=ay C b B.cells.length (B,w.heap.size)) (w' :=cg w (.cells c el)) ev a l (mL w _ (q id ⟨d, e, m, a,l0 l⟩)) (n.maps d e m id es a l).1
 .obtain⟨d, e, m, a,l⟩:=j
  by_cases g:d = b/\e = B.cells.length
  .simp only[ay,ae g]at a
   simp at a;right;omega
  .simp only[ay,ad g]at a
   exact .inl ⟨d, e, m, a,l⟩
def Yj{C:Ctx}{w:World}(n:Good C w)(R:¬C.lim b 0) :
  Good (ay C b 0 (⟨some 0,[],.map []⟩,w.heap.size)) (cg w (.map #[] 0))/\Step C w (ay C b 0 (⟨some 0,[],.map []⟩,w.heap.size)) (cg w (.map #[] 0)):=by
 have ev:fZ C w.heap (ay C b 0 (⟨some 0,[],.map []⟩,w.heap.size)) (cg w (.map #[] 0)).heap:=by
  refine⟨λ_ h=>h,λk l=>mL w _ (n.I k l),λ_ _ h=>.inr h,λd e m id j a=>?_⟩;have o:¬(d = b/\e = 0):=λ⟨s,u⟩=>R (s▸u▸j);simp only[ay,ad o]at a;refine⟨m, a,rfl,rfl,λD z A =>⟨D, ?_,rfl⟩⟩;rw[mL w _ (ke.1 A).1];exact A
 have p:∀k,owned C k->k<w.heap.size:=λk l=>n.lt l;refine⟨⟨λk l=>by have:=n.I k l;simp[cg];omega,λd e m id a=>?_,λd e m id a j=>?_,λb1 E M i1 F G N O q P r Q o=>?_,λd e m id es a j=>?_⟩,
  ⟨ev,by simp[cg],λk l _=>mL w _ l,λk l=>?_,λk l=>.inl l,rfl,⟨rfl,bd _⟩,rfl⟩⟩
 .by_cases g:d = b/\e = 0
  .simp only[ay,ae g]at a
   simp at a;obtain⟨rfl,rfl⟩:=a;exact⟨.inl g,g.2,λh=>eX,ab⟩
  .simp only[ay,ad g]at a
   obtain⟨H,B,J,K⟩:=n.lV d e m id a;exact⟨.inr H,B,J,K⟩
 .by_cases g:d = b/\e = 0
  .simp only[ay,ae g]at a
   simp at a;obtain⟨rfl,rfl⟩:=a;simp at j
  .simp only[ay,ad g]at a
   obtain⟨H,D, z, B,J,K⟩:=n.live d e m id a j;refine⟨H,D, z, by rw[mL w _ (ke.1 B).1];exact B,J,λi x L=>?_⟩
   obtain⟨y,S,T,U⟩:=K i x L;exact⟨y,S,VR.mono ev _ _ T,U⟩
 .by_cases s:b1=b/\E=0<;>by_cases u:F=b/\G=0
  .exact absurd (s.1.trans u.1.symm) o
  .simp only[ay,ae s]at q;simp only[ay,ad u]at r
   simp at q;obtain⟨rfl,rfl⟩:=q;have:=p O ⟨F,G,N,r,Q⟩;omega
  .simp only[ay,ad s]at q;simp only[ay,ae u]at r
   simp at r;obtain⟨rfl,rfl⟩:=r;have:=p i1 ⟨b1,E,M,q,P⟩;omega
  .simp only[ay,ad s]at q;simp only[ay,ad u]at r
   exact n.apart b1 E M i1 F G N O q P r Q o
 .by_cases g:d = b/\e = 0
  .simp only[ay,ae g]at a
   simp at a;obtain⟨rfl,rfl⟩:=a;simp at j;subst j;exact⟨λL=>Nat.lt_irrefl _ (n.I _ L),#[],0,oS w _,rfl⟩
  .simp only[ay,ad g]at a
   exact n.df (C' :=ay C b 0 (⟨some 0,[],.map []⟩,w.heap.size)) (w' :=cg w (.map #[] 0)) ev a j (mL w _ (p id ⟨d, e, m, a,l0 j⟩)) (n.maps d e m id es a j).1
 .obtain⟨d, e, m, a,j⟩:=l
  by_cases g:d = b/\e = 0
  .simp only[ay,ae g]at a
   simp at a;right;omega
  .simp only[ay,ad g]at a
   exact .inl ⟨d, e, m, a,j⟩
end Ab
set_option linter.all false
namespace Ab
open Go
variable{P:Program}
def cw (P:Program) (ce:CE):Prop:=
 ∀f args d r b, ce f args d=some (r,b)->∀(ids:Nat->Nat) (I:Nat->Prop) (w:World) (i:List Value),Good (af d ids I) w->cj (af d ids I) w.heap args i->
  Calls P f i.toArray w λe g =>∃v a h, e = .returned v/\Good (af b a h) g /\VR (af b a h) g.heap r v/\Step (af d ids I) w (af b a h) g
def dg (C:Ctx) (w:World) (x:AV) (v:Value) (w' : World):Prop:=
 ∃a, Good {C with I:=a} w' /\Step C w {C with I:=a} w' /\VR {C with I:=a} w'.heap x v
variable{x:AV}
def dg.same{C:Ctx}{w:World}{v:Value}(hg:Good C w) (h:VR C w.heap x v):dg C w x v w:=⟨C.I,hg,Step.refl _ _,h⟩
def MV{C:Ctx}{w:World}(a:Good C w) (ids:Nat->Nat):Good (af [] ids C.I) w:=
 ⟨a.I,λb u B id h=>fV,λb u B id h=>fV,λb u B id e g i d h=>fV,λb u B id es h=>fV⟩
def nW{ids:Nat->Nat}{I:Nat->Prop}{k:Nat}:¬owned (af [] ids I) k:=λ⟨b,u,B,h,_⟩=>fV
variable{f:Nat}{vs:List Value}
def yn{ce:CE}(l:cw P ce){args:List AV}(h:jq ce f args=some x){C:Ctx}{w:World}(r:Good C w)(s:cj C w.heap args vs) :
  Calls P f vs.toArray w λe w' =>∃v,e = .returned v/\dg C w x v w' :=by
 unfold jq at h;split at h<;>try(simp at h;done)
 rename_i y;cases m:ce f (args.map wk) []with
 |none=>simp[m]at h
 |some rs=>
  obtain⟨z,j⟩:=rs;simp only[m]at h;have n:cj (af [] (λ_=>0) C.I) w.heap (args.map wk) vs:=(cj.free (show oU C w.heap (af [] (λ_=>0) C.I) w.heap from⟨λ_ h=>h,λ_ _=>rfl⟩) _ _ y s).wk;refine(l f _ [] z j m (λ_=>0) C.I w vs (MV r _) n).mono ?_;rintro e w' ⟨v,d, o, rfl,i,A,g⟩;refine⟨v,rfl,?_⟩
  let p:Nat->Prop:=λk=>o k\/owned (af j d o) k
  have q:=MW (C2:={C with I:=p}) (λb u B _ D=>⟨_,nX d o D⟩) i (fr:=false) ⟨λ_ k a=>.inl a,λk a=>.inr a⟩ h A
  obtain⟨E,F⟩:=r.oT g.size (λk a=>g.frame k a nW) p (λk a=>.inl (g.ev.aF k a)) (λk a=>a.elim (i.I k) i.lt)
   (λk a=>a.elim (λh=>(g.gL k h).elim .inl (λh=>h.elim (λh=>absurd h nW) .inr)) (λh=>(g.gn k h).elim (λh=>absurd h nW) .inr)) g.os g.tape g.output
  exact⟨p,E,F,q⟩
def Yk{ce:CE}(o:cw P ce){σ:List al}{args d : List AV}{p:AV}{g : List al}(F:bJ (view σ false vd) args=some d) (G:ce f d []=some (p,g)) (H:bP g true p=some x)
  {C:Ctx} {w:World} (l:Good C w) (q:∀b u B,C.lim b u->upto σ b u=some B->∃id,C.own b u=some (B,id))  (r:cj C w.heap args vs) :
  Calls P f vs.toArray w λe w' =>∃v,e = .returned v/\dg C w x v w' :=by
 let n:Nat->Prop:=λk=>C.I k\/owned C k
 have s:Good (af [] (λ_=>0) n) w:=
  ⟨λk a=>a.elim (l.I k) l.lt,λb u B id h=>fV,λb u B id h=>fV,λb u B id Q R S J h=>fV,λb u B id es h=>fV⟩
 have z:cj (af [] (λ_=>0) n) w.heap d vs:=
  (yo (λx y v K r=>Bh (C2:=af [] (λ_=>0) n) q l (fr:=false) ⟨λ_ k a=>.inl a,λk a=>.inr a⟩ vd x y v K r) F r).2
 refine(o f d [] p g G (λ_=>0) n w vs s z).mono ?_;rintro e w' ⟨v,i, E, rfl,m,L,j⟩;refine⟨v,rfl,?_⟩
 let A:Nat->Prop:=λk=>C.I k\/owned (af g i E) k
 have D:=MW (C2:={C with I:=A}) (λb u B _ M=>⟨_,nX i E M⟩) m (fr:=true) ⟨λh=>eX,λk a=>.inr a⟩ H L
 obtain⟨N,O⟩:=l.oT j.size (λk a=>j.frame k a nW) A (λk a=>.inl a) (λk a=>a.elim (λh=>ui (l.I k h) j.size) m.lt)
  (λk a=>a.elim .inl (λh=>(j.gn k h).elim (λh=>absurd h nW) .inr)) j.os j.tape j.output
 exact⟨A,N,O,D⟩
section
variable{a:Act}{r:Rf->AV}{w:World}{C:Ctx}{R:Operand->Rf->Bool}{ce:CE}{σ:List al}{nl:Nat}{ps:List cQ}
variable{o:Oper}{x:AV}
def Plain.does(hg:Good C w) (h:Plain P a.eval o w C w.heap x):bI P o a w (dg C w x):=by
 obtain⟨v,h1,h2⟩:=h;exact bI.val h1 (dg.same hg h2)
variable{f:Nat}
def yp(h:cM P f=true) (args:Array Value) (w:World):(callFunc f args).run P w = .ok (.enter f args) w:=by
 unfold cM at h;cases a:P.funcs[f]? with
 |none=>simp[a]at h
 |some fn=>
  simp[a]at h;simp only[callFunc,aW,program,Sem.run,aZ,a];rw[ad (by simpa using h.2)]
  cases d:fn.body with
  |none=>simp[d]at h
  |some b=>simp
variable{ca:Call}
def Bj(b:o.op = .call ca) (d:ca.callee = .value (.func f)) (e:cM P f=true) (w:World) :
  (execOp a.eval o).run P w = .ok (.enter f (ca.args.toList.map a.eval).toArray) w:=by
 have:ca.args.map a.eval=(ca.args.toList.map a.eval).toArray:=rn
 simp only[execOp,b,resolve,d,aW,Act.eval,Deferred.ofValue,bw,aZ,invoke];simp only[Array.append_empty,Array.empty_append];rw[show Array.map a.eval ca.args=(ca.args.toList.map a.eval).toArray from this];exact yp e _ w
variable{ys:List Rf}{p:Option cQ}
def Yl(d:cw P ce) (g:o.op = .call ca) (h:ca.callee = .value (.func f)) (i:cM P f=true) (j:Good C w)
  (l:cj C w.heap (ys.map r) (ca.args.toList.map a.eval)) (b:ev ce σ nl ps r (.k9 f ys)=some (x,p)):bI P o a w (dg C w x)/\p=none:=by
 simp only[ev]at b;cases e:jq ce f (ys.map r)with
 |none=>simp[e]at b
 |some m =>
  simp[e]at b;obtain⟨rfl,rfl⟩:=b;exact⟨bI.call (Bj g h i w) (yn d e j l),rfl⟩
def MX(i:cw P ce) (z:o.op = .call ca) (A:ca.callee = .value (.func f)) (D:cM P f=true) (E:Good C w)
  (j:∀b u B,C.lim b u->upto σ b u=some B->∃id,C.own b u=some (B,id))
  (s:cj C w.heap (ys.map r) (ca.args.toList.map a.eval)) (d:ev ce σ nl ps r (.rp f ys)=some (x,p)):bI P o a w (dg C w x)/\p=none:=by
 simp only[ev]at d;cases g:bJ (λx=>view σ false vd (r x)) ys with
 |none=>simp[g]at d
 |some e =>
  simp only[g]at d;cases h:ce f e []with
  |none=>simp[h]at d
  |some q=>
   obtain⟨F,l⟩:=q;simp only[h]at d;cases m:bP l true F with
   |none=>simp[m]at d
   |some H =>
    simp[m]at d;obtain⟨rfl,rfl⟩:=d;have n : bJ (view σ false vd) (ys.map r)=some e :=by
     rw[<-g];clear g h s
     induction ys with
     |nil=>rfl
     |cons y ys G=>simp only[cS,bJ,G]
    exact⟨bI.call (Bj z A D w) (Yk i n h m E j s),rfl⟩
def dZ (P:Program) (ce:CE):Prop:=∀f args σ r,ce f args σ=some r->cM P f=true
def MY{x:Operand}{vs:List Value}(b:o.op = .call ca) (d:ca.callee = .value x) (e:a.eval x = .func (.func f) #[] vs.toArray) (g:cM P f=true) (w:World) :
  (execOp a.eval o).run P w = .ok (.enter f (ca.args.toList.map a.eval++vs).toArray) w:=by
 have:Array.map a.eval ca.args++vs.toArray=(ca.args.toList.map a.eval++vs).toArray:=rn
 simp only[execOp,b,resolve,d,aW,e,Deferred.ofValue,bw,aZ,invoke];simp only[Array.empty_append];rw[this];exact yp g _ w
variable{x0:Operand}{y:Rf}
def Ym(i:cw P ce) (j:dZ P ce) (n:o.op = .call ca) (s:ca.callee = .value x0) (u:Good C w)
  (l:VR C w.heap (r y) (a.eval x0)) (z:cj C w.heap (ys.map r) (ca.args.toList.map a.eval)) (g:ev ce σ nl ps r (.l5 y ys)=some (x,p)):bI P o a w (dg C w x)/\p=none:=by
 simp only[ev]at g;cases m:r y<;>simp only[m]at g<;>try(simp at g;done)
 rename_i f b;cases d:jq ce f (ys.map r++b)with
 |none=>simp[d]at g
 |some D =>
  simp[d]at g;obtain⟨rfl,rfl⟩:=g;rw[m]at l;unfold VR at l;obtain⟨vs,e,A⟩:=l;have B:cM P f=true:=by
   unfold jq at d;split at d<;>try(simp at d;done)
   cases h : ce f ((ys.map r++b).map wk) []with
   |none=>simp only[h]at d;simp at d
   |some q=>exact j _ _ _ _ h
  exact⟨bI.call (MY n s e B w) (yn i d u (z.append A)),rfl⟩
def MZ{m:String}:∀{qQ:List (Nat×Nat)}{t f:Nat},qR P m qQ=true->eY qQ t=some f->∀(w:World) (v:Value),(method (P.types.size+Made.depth) t v m).run P w = .ok (f,v) w
 | [],t,f,_,h=>by simp[eY]at h
 |(t', f')::rest,t,f,ht,h=>by
  simp only[qR,aH]at ht;simp only[eY]at h
  by_cases e:t' = t
  .subst e
   simp at h;subst h;intro w v;obtain⟨n,hn⟩:∃n,P.types.size+Made.depth=n+1:=⟨P.types.size+Made.depth-1,(by have:0<Made.depth:=bO;omega)⟩
   rw[hn];have h1:=ht.1;cases hi:P.info? t' with
   |none=>simp[hi]at h1
   |some i=>
    simp only[hi]at h1;cases hm:i.methods.find? (λx=>x.name==m)with
    |none=>simp[hm]at h1
    |some x=>
     simp only[hm,aH]at h1;obtain⟨hp,h1⟩:=h1;have Ma:x.path = #[]:=by simpa using hp
     cases hf:x.func with
     |none=>simp[hf]at h1
     |some gp=>
      obtain⟨g,ptr⟩:=gp;simp only[hf,aH,cT]at h1;obtain⟨rfl,h1⟩:=h1;cases hu:P.underlying t' with
      |none=>simp[hu]at h1
      |some d=>
       simp only[hu]at h1;have hr:(receiverAt t' (.val v) ptr (if x.path.isEmpty then some ((m.splitOn ".").getLastD m)else none)).run P w = .ok v w:=by
        unfold receiverAt;simp only[aW,run_underlying hu,aZ];cases d<;>cases ptr<;>simp_all [Place.get]
       simp only[method,aW,run_typeInfo w hi,aZ,hm,Ma,follow,bw,hf];rw[Ma]at hr;simp only[hr,aZ,bw]
  .have e' : (t' == t)=false:=by simpa using e
   simp only[e', ef,eI]at h;exact MZ ht.2 h
variable{m:String}{qQ:List (Nat×Nat)}{v:Value}
def Yn{t:Nat}(b:o.op = .call ca) (d:ca.callee = .invoke x0 m) (e:a.eval x0 = .iface t v)
  (g:qR P m qQ=true) (h:eY qQ t=some f) (i:cM P f=true) (w:World) :
  (execOp a.eval o).run P w = .ok (.enter f (v::ca.args.toList.map a.eval).toArray) w:=by
 have j:=MZ g h w v;have l:(#[Value.iface t v]++Array.map a.eval ca.args)[0]? = some (.iface t v):=by rw[lq (by show 0<1;omega)];rfl
 have n:(#[Value.iface t v]++Array.map a.eval ca.args).extract 1 (#[Value.iface t v]++Array.map a.eval ca.args).size=Array.map a.eval ca.args:=by
  rw[<-Array.toList_inj];simp;rw[eZ ab]
 have p : #[v]++Array.map a.eval ca.args=(v::ca.args.toList.map a.eval).toArray:=rn
 simp only[execOp,b,resolve,d,aW,bw,aZ,invoke,e,l,n,callMethod,program,Sem.run,j];rw[p];exact yp i _ w
def Yo(h:cw P ce) (i:dZ P ce) (s:o.op = .call ca) (u:ca.callee = .invoke x0 m) (z:qR P m qQ=true) (A:Good C w)
  (j:VR C w.heap (r y) (a.eval x0)) (B:cj C w.heap (ys.map r) (ca.args.toList.map a.eval)) (b:ev ce σ nl ps r (.inv y qQ ys)=some (x,p)):bI P o a w (dg C w x)/\p=none:=by
 simp only[ev]at b;cases n:r y<;>simp only[n]at b<;>try(simp at b;done)
 rename_i t q;cases l:eY qQ t with
 |none=>simp[l]at b
 |some f=>
  simp only[l]at b;cases d:jq ce f (q::ys.map r)with
  |none=>simp[d]at b
  |some F =>
   simp[d]at b;obtain⟨rfl,rfl⟩:=b;rw[n]at j;unfold VR at j;obtain⟨v,e,D⟩:=j;have E:cM P f=true:=by
    unfold jq at d;split at d<;>try(simp at d;done)
    cases g : ce f ((q::ys.map r).map wk) []with
    |none=>simp only[g]at d;simp at d
    |some q=>exact i _ _ _ _ g
   exact⟨bI.call (Yn s u e z l E w) (yn h d A ⟨v,_,rfl,D,B⟩),rfl⟩
def Yp(b:Good C w) (d:aR x=true) (e:VR C w.heap x v) (t:TypeId):dg C w (.a8 x) (.pointer (some ⟨w.heap.size,0,none⟩)) (cg w (.cells v.cells t)):=by
 obtain⟨g,a⟩:=Fm b v.cells t;refine⟨_,g,a,?_⟩;unfold VR;exact⟨d,w.heap.size,0,v.cells,t,(0,0),v,rfl,.inr rfl,oS w _,VR.mono a.ev _ _ e,λj h=>ab⟩
def Yq{t:TypeId}(d:o.op = .box t x0) (e:Good C w) (g:VR C w.heap (r y) (a.eval x0)) (b:ev ce σ nl ps r (.fD y)=some (x,p)) :
  bI P o a w (dg C w x)/\p=none:=by
 simp only[ev]at b;split at b<;>simp at b
 rename_i h;obtain⟨rfl,rfl⟩:=b;refine⟨bI.val (v:=.pointer (some ⟨w.heap.size,0,none⟩)) (w' :=cg w (.cells (a.eval x0).cells t)) ?_ (Yp e h g t),rfl⟩;simp only[execOp,d,Instr.box,aW,Be,aZ,bw]
def Yr{s d:TypeId}(L:o.op = .convert s d x0)
  (A:(match P.underlying s,P.underlying d with|some .string,some (.slice e)=>(match P.underlying e with|some (.int .u8)=>true|_=>false)|_,_=>false)=true)
  (J:Good C w) (B:VR C w.heap (r y) (a.eval x0)) (m:ev ce σ nl ps r (.Mb y)=some (x,p)):bI P o a w (dg C w x)/\p=none:=by
 have M:∃e,P.underlying s=some .string/\P.underlying d=some (.slice e)/\P.underlying e=some (.int .u8):=by
  split at A
  .rename_i e D N
   split at A
   .rename_i O;exact⟨e,D,N,O⟩
   .simp at A
  .simp at A
 obtain⟨e,Q,hd,E⟩:=M;simp only[ev]at m;cases K:r y<;>simp only[K]at m<;>try(simp at m;done)
 rename_i t;simp at m;obtain⟨R,S⟩:=m;subst R S;rw[K]at B;unfold VR at B;have g:=Go.Lib.run_convert_string_bytes (P:=P) w s d e ⟨t.toArray⟩ Q hd E;have F:(⟨t.toArray⟩:ByteArray).size=t.length:=by show t.toArray.size=_;simp
 rw[F]at g;have W:=Go.Lib.bytesWorld_size w e ⟨t.toArray⟩;have n:=Go.Lib.bytesWorld_at_new w e ⟨t.toArray⟩;have hold:=λk l=>Go.Lib.bytesWorld_at_old w e ⟨t.toArray⟩ k l;have G:∀(i:Nat) b,t[i]? = some b->(Go.Lib.bytesCells w e ⟨t.toArray⟩)[i]? = some (.int .u8 (b.toNat:Int)):=λi b u=>by
  have H:=(dC.1 u).1;unfold Go.Lib.bytesCells;rw[lq (by simpa using H)]
  simp[u]
 have z:t.length<=grownCap w t.length 0 e:=grownCap_ge w _ _ _;obtain⟨T,U⟩:=J.oT (w' :=Go.Lib.bytesWorld w e ⟨t.toArray⟩) aa hold (λk=>C.I k\/k=w.heap.size) (λk l=>.inl l)
  (λk l=>l.elim (λh=>by have:=J.I k h;omega) (λh=>aa)) (λk l=>l.elim .inl (λh=>.inr aa)) rfl ⟨rfl,Nat.le_succ _⟩ rfl
 refine⟨bI.val (v:=.slice (some ⟨w.heap.size,0,none⟩) t.length (grownCap w t.length 0 e)) (w' :=Go.Lib.bytesWorld w e ⟨t.toArray⟩) ?_ ⟨_,T,U,?_⟩,rfl⟩
 .simp only[execOp,L,B,aW,g,aZ,bw]
 .unfold VR
  refine⟨Bk λq V=>?_,.inr ⟨w.heap.size,0,grownCap w t.length 0 e,1,_,e,_,?_,?_,.inr rfl,n,jS.of λi q u=>?_⟩⟩
  .obtain⟨b,_,rfl⟩:=cx.1 V;rfl
  .simp
  .simpa using z
  .rw[iv]at u
   obtain⟨b,D,rfl⟩:=nY.1 u;refine⟨.int .u8 (b.toNat:Int),Bl,rfl,λj X=>?_⟩;obtain rfl:j=0:=aa
   rw[show 0+i*1+0=i by omega,G i b D];rfl
end
end Ab
set_option linter.all false
namespace Ab
open Go
variable{P:Program}
section
variable{a:Act}{ρ:Operand->Value}{r:Rf->AV}{w:World}{C:Ctx}{R:Operand->Rf->Bool}{ce:CE}{σ:List al}{nl:Nat}{ps:List cQ}
def M0 (a:Nat):∀(vs:List Value) (k:Nat) (c:Array Value),(∀v,v∈vs->v.cells.size=a)->(k+vs.length)*a<=c.size->
  ∃c', Instr.fill (λi=>some (i*a,a)) c ((vs.zipIdx k).map λp=>(p.2,p.1))=some c' /\c'.size=c.size/\(∀i,i<k*a->c'[i]? = c[i]?)/\
   ∀(i:Nat) v,vs[i]? = some v->∀j,j<a->c'[(k+i)*a+j]? = v.cells[j]?
 | [],k,c,_,_=>⟨c,rfl,rfl,λ_ _=>rfl,λi v h=>eX⟩
 |v::vs,k,c,e,l=>by
  have m:=e v ab
  have s:k*a+a<=c.size:=by
   have:(k+1)*a<=(k+(v::vs).length)*a:=lr _ ab
   rw[fh]at this;omega
  simp only[List.zipIdx_cons,cS,Instr.fill];rw[ad (by rw[m];simp;omega)]
  have d:∀i,(v.cells.zipIdx.foldl (λcs (c,j)=>cs.setIfInBounds (k*a+j) c) c).size=c.size/\(v.cells.zipIdx.foldl (λcs (c,j)=>cs.setIfInBounds (k*a+j) c) c)[i]? = if k*a<=i/\i<k*a+v.cells.size then v.cells[i-k*a]? else c[i]?:=λi=>by
   have:=Fo (k*a) v.cells.toList 0 c i ax
   rw[<-Array.foldl_toList];simp only[Array.toList_zipIdx];simpa using this
  obtain⟨c', n,o,g,q⟩:=M0 a vs (k+1) (v.cells.zipIdx.foldl (λcs (c,j)=>cs.setIfInBounds (k*a+j) c) c) (λu b=>e u fj) (by
   rw[(d 0).1];have:(k+(v::vs).length)=k+1+vs.length:=ax
   rwa [this]at l)
  refine⟨c', n,by rw[o,(d 0).1],λi w=>?_,λi u b j r=>?_⟩
  .rw[g i (by rw[fh];omega),(d i).2,ad aa]
  .cases i with
   |zero=>
    simp at b;subst b;simp only[kf];rw[g _ (by rw[fh];omega),(d _).2,ae aa]
    congr 1;omega
   |succ i=>
    have:=q i u (by simpa using b) j r
    rw[show k+(i+1)=k+1+i by omega]
    exact this
def wh{st:Nat}:∀{l:List AV},fitAll st l=true->∀x∈l,x.cells.length=st/\iY x
 | [],_,x,a=>by simp at a
 |y::l,h,x,a=>by
  simp only[fitAll,aH,cT]at h;rcases b5.1 a with rfl|a
  .exact⟨h.1.1,Bm h.1.2⟩
  .exact wh h.2 x a
def M1:∀{k:Nat}{ps:List (Nat×Operand)},gq k ps=true->∀(f:Operand->Value),ps.map (λp=>(p.1,f p.2))=((ps.map λp=>f p.2).zipIdx k).map λp=>(p.2,p.1)
 |_,[],_,_=>rfl
 |k,(i,x)::r,h,f=>by
  simp only[gq,aH,cT]at h;simp only[cS,List.zipIdx_cons,h.1];rw[M1 h.2 f]
def cj.get'{H:Array Obj}:∀{l:List AV}{vs:List Value},cj C H l vs->∀(i:Nat) v,vs[i]? = some v->∃x,l[i]? = some x/\VR C H x v
 | [],vs,h,i,v,hi=>by rw[show vs=[]from h]at hi;simp at hi
 |x::l,_,⟨v0,s,e,hx,hr⟩,0,v,hi=>by rw[e]at hi;simp at hi;subst hi;exact⟨x,rfl,hx⟩
 |x::l,_,⟨v0,s,e,hx,hr⟩,i+1,v,hi=>by rw[e]at hi;exact cj.get' hr i v mM
variable{t:TypeId}{st:Nat}{xs:Array (Nat×Operand)}{ys:List Rf}
def Fp{e:TypeId}{n:Nat}(L:aT P t=some e) (y:cD P e st=true) (s:cX P e=true) (V:n*st<=2^24) (M:(n==xs.size)=true) (N:gq 0 xs.toList=true)
  (u:cj C w.heap (ys.map r) ((xs.toList.map (·.2)).map ρ)) (H:fitAll st (ys.map r)=true) :
  ∃c:Array Value,(Instr.buildSlice t n (xs.map λ(i,x)=>(i,ρ x))).run P w = .ok (.slice (some ⟨w.heap.size,0,none⟩) ys.length ys.length) (cg w (.cells c e))/\c.size=ys.length*st/\
   ∀(i:Nat) x,(ys.map r)[i]? = some x->∃v,VR C w.heap x v/\v.cells.size=st/\iY x/\∀j,j<st->c[i*st+j]? = v.cells[j]?:=by
 have hlen:ys.length=n:=by
  have a:=cj.length u;simp at a M;omega
 have A:(xs.map λ(i,x)=>(i,ρ x)).toList=(((xs.toList.map (·.2)).map ρ).zipIdx 0).map λp=>(p.2,p.1):=by
  have:=M1 N ρ;simp only[Array.toList_map,List.map_map]at this ⊢;exact this
 have B:∀v,v∈(xs.toList.map (·.2)).map ρ->v.cells.size=st:=λv O=>by
  obtain⟨i,b⟩:=List.getElem?_of_mem O;obtain⟨x,a,d⟩:=cj.get' u i v b;obtain⟨h,D⟩:=wh H x (sA a);rw[VR.size D d,h]
 obtain⟨z,E⟩:∃z,(zeroValue e).run P w = .ok z w:=by
  unfold cX at s;cases b:P.info? e with
  |none=>simp[b]at s
  |some i=>
   simp only[b]at s;cases l:i.zero with
   |none=>simp[l]at s
   |some z=>exact⟨z,by simp only[zeroValue,aW,run_typeInfo w b,aZ,l,bw]⟩
 have I:=mN L w;have m:=lu y w;have F:((xs.toList.map (·.2)).map ρ).length=n:=by have:=cj.length u;simp at this;simp;omega
 -- g Q zero cells R
 have key:∀o:Array Value,∃c,Instr.fill (λi=>some (i*st,st)) ((Array.range (n*st)).map λq=>o[q%o.size]!) (xs.map λ(i,x)=>(i,ρ x)).toList=some c/\c.size=ys.length*st/\
   ∀(i:Nat) x,(ys.map r)[i]? = some x->∃v,VR C w.heap x v/\v.cells.size=st/\iY x/\∀j,j<st->c[i*st+j]? = v.cells[j]?:=λo=>by
  obtain⟨c,a,d,_,D⟩:=M0 st ((xs.toList.map (·.2)).map ρ) 0 ((Array.range (n*st)).map λq=>o[q%o.size]!) B (by rw[F];simp)
  refine⟨c,by rw[A];exact a,by rw[d,hlen];simp,λi x b=>?_⟩
  obtain⟨v,S,J⟩:=u.get i x b;obtain⟨T,K⟩:=wh H x (sA b);exact⟨v,J,by rw[VR.size K J,T],K,λj U=>by have:=D i v S j U;simpa using this⟩
 by_cases G:n*st=0
 .obtain⟨c,a,d,h⟩:=key #[]
  refine⟨c,?_,d,h⟩;simp only[Instr.buildSlice,aW,I,m,aZ];rw[ad aa]
  simp only[G,dD,aW,bw,aZ];simp only[G]at a;simp only[a,ym,aW,bw,aZ,hlen]
 .obtain⟨c,a,d,h⟩:=key z.cells
  refine⟨c,?_,d,h⟩;simp only[Instr.buildSlice,aW,I,m,aZ];rw[ad aa]
  simp only[G,eI,aW,E, bw,aZ];simp only[a,ym,aW,bw,aZ,hlen]
variable{o:Oper}{x:AV}{p:Option cQ}
def Yt{e:TypeId}{n:Nat}(m:o.op = .buildSlice t n xs) (q:aT P t=some e) (d:cD P e st=true) (s:cX P e=true) (u:n*st<=2^24) (y:(n==xs.size)=true) (g:gq 0 xs.toList=true)
  (z:Good C w) (A:cj C w.heap (ys.map r) ((xs.toList.map (·.2)).map a.eval)) (b:ev ce σ nl ps r (.bN ys st)=some (x,p)):bI P o a w (dg C w x)/\p=none:=by
 simp only[ev]at b;split at b<;>simp at b
 rename_i h;obtain⟨rfl,rfl⟩:=b;simp only[aH]at h;obtain⟨c,B,K,D⟩:=Fp q d s u y g A h.2;refine⟨bI.val (v:=.slice (some ⟨w.heap.size,0,none⟩) ys.length ys.length) (w' :=cg w (.cells c e)) ?_ ?_,rfl⟩
 .simp only[execOp,m,aW,B,aZ,bw]
 .obtain⟨E,l⟩:=Fm z c e
  refine⟨_,E,l,?_⟩;unfold VR;refine⟨h.1,.inr ⟨w.heap.size,0,ys.length,st,c,e,(0,0),ab,ab,.inr rfl,oS w _,jS.of λi x F=>?_⟩⟩
  obtain⟨v,G,H,_,I⟩:=D i x F;exact⟨v,VR.mono l.ev _ _ G,H,λj J=>by rw[gX];exact I j J⟩
def M3{e:TypeId}{n:Nat}(l:o.op = .buildSlice t n xs) (m:aT P t=some e) (d:cD P e st=true) (q:cX P e=true) (s:n*st<=2^24) (u:(n==xs.size)=true) (g:gq 0 xs.toList=true)
  (y:Good C w) (z:cj C w.heap (ys.map r) ((xs.toList.map (·.2)).map a.eval)) (b:ev ce σ nl ps r (.bW ys st)=some (x,p)):bI P o a w (dg C w x)/\p=none:=by
 simp only[ev]at b;split at b<;>simp at b
 rename_i A;obtain⟨rfl,rfl⟩:=b;obtain⟨c,B,K,D⟩:=Fp m d q s u g z A;refine⟨bI.val (v:=.slice (some ⟨w.heap.size,0,none⟩) ys.length ys.length) (w' :=cg w (.cells c e)) ?_ ?_,rfl⟩
 .simp only[execOp,l,aW,B,aZ,bw]
 .obtain⟨E,h⟩:=Fm y c e
  refine⟨_,E,h,?_⟩;unfold VR;refine⟨w.heap.size,0,st,c,e,(0,0),ab,.inr rfl,oS w _,jS.of λi x F=>?_⟩
  obtain⟨v,G,H,_,I⟩:=D i x F;exact⟨v,VR.mono h.ev _ _ G,H,λj J=>by rw[gX];exact I j J⟩
def Ext (nl:Nat):Option cQ->Ctx->Ctx->Prop
 |none,C,C' =>C'.own=C.own/\C'.lim=C.lim
 |some (.new B),C,C' =>∃id,C'.own=(ay C nl B.cells.length (B,id)).own/\C'.lim=(ay C nl B.cells.length (B,id)).lim
 |some (.news l),C,C' =>∃ids:Nat->Nat,C'.own=(λb u=>if nl<=b/\b<nl+l.length then(af l ids C.I).own (b-nl) u else C.own b u)/\C'.lim=(λb u=>(nl<=b/\(af l ids C.I).lim (b-nl) u)\/C.lim b u)
 |some (.grow b cs),C,C' =>∃a d id,cs ≠ []/\C.own b a.cells.length=some (a,d)/\C'.own=(ay C b (a.cells++cs).length (⟨a.k,a.cells++cs,.live⟩,id)).own/\C'.lim=(ay C b (a.cells++cs).length (⟨a.k,a.cells++cs,.live⟩,id)).lim
def iZ (nl:Nat) (C:Ctx) (w:World) (x:AV) (p:Option cQ) (v:Value) (w' : World):Prop:=
 ∃a, Good a w' /\Step C w a w' /\VR a w'.heap x v/\Ext nl p C a
def Yu{e:TypeId}{n:Nat}(j:o.op = .buildSlice t n xs) (l:aT P t=some e) (d:cD P e st=true) (m:cX P e=true) (g:n=0) (b:xs.size=0)
  (q:Good C w) (h:ev ce σ nl ps r (.sB st)=some (x,p)):bI P o a w (dg C w x)/\p=none:=by
 simp only[ev,bT,Prod.mk.injEq]at h;obtain⟨rfl,rfl⟩:=h;obtain⟨s,_⟩:=M3 (P:=P) (a:=a) (r:=r) (ce:=ce) (σ:=σ) (nl:=nl) (ps:=ps) (ys:=[]) (x:=.arr []) (p:=none) j l d m (by subst g;simp) (by rw[b,g];rfl) (by
  have:xs.toList=[]:=by rw[<-List.length_eq_zero_iff];simpa using b
  rw[this];rfl) q (by
  have:xs.toList=[]:=by rw[<-List.length_eq_zero_iff];simpa using b
  rw[this];rfl) (by simp[ev,fitAll])
 refine⟨s.mono λv D ⟨u, y,z,i⟩=>⟨u, y,z,?_⟩,rfl⟩;unfold VR at i ⊢;obtain⟨aq,off,A, c,el,E,B,_⟩:=i;exact⟨_,B⟩
variable{v:Value}
def dg.e{nl:Nat}{w' : World}(h:dg C w x v w'):iZ nl C w x none v w' :=by
 obtain⟨I', h1,h2,h3⟩:=h;exact⟨_,h1,h2,h3,rfl,rfl⟩
variable{B:al}{c:Array Value}{el:TypeId}
def Bn(b:Good C w) (d:∀u,¬C.lim nl u) (a:B.st = .live) (hle:B.cells.length<=c.size)
  (e:∀(i:Nat) x,B.cells[i]? = some x->∃y,c[i]? = some y/\VR C w.heap x y/\y.oneCell' = true)
  (g:∀C', C'.own nl B.cells.length=some (B,w.heap.size)->C'.lim nl B.cells.length->VR C' (cg w (.cells c el)).heap x v):iZ nl C w x (some (.new B)) v (cg w (.cells c el)):=by
 obtain⟨h,j⟩:=Bg b B (d _) c el a hle e;exact⟨_,h,j,g _ (by simp[ay]) (.inl ⟨rfl,rfl⟩),w.heap.size,rfl,rfl⟩
def Fq{H:Array Obj}(b:iY x) (h:VR C H x v):∀(i:Nat) q,x.cells[i]? = some q->∃y,v.cells[i]? = some y/\VR C H q y/\y.oneCell' = true:=λi q d=>by
 obtain⟨e,g⟩:=VR.cells b h;obtain⟨y,a,j⟩:=e.get i q d;rw[ja]at a;exact⟨y,a,j,g y (by rw[uj];exact Array.mem_of_getElem? a)⟩
variable{id b u:Nat}
def M4{C' : Ctx}{H:Array Obj}(a:C'.own b u=some (B,id)) (d:C'.lim b u):VR C' H (.ptr b u 0) (.pointer (some ⟨id,0,none⟩)):=by
 unfold VR;exact⟨⟨id,rfl⟩,d,λg e h _=>by rw[a]at h;simp at h;rw[h.2]⟩
def wi{C' : Ctx}{H:Array Obj}{len cap:Nat}(d:C'.own b u=some (B,id)) (e:C'.lim b u) (g:B.st = .live) (i:H[id]? = some (.cells c el (0,0))) (a:len<=cap)
  (l:cap*aM B.k=c.size):VR C' H (.sl b u 0 len) (.slice (some ⟨id,0,none⟩) len cap):=by
 unfold VR;refine⟨⟨_,_,rfl,a,λ_=>⟨id,rfl⟩⟩,e,λm j h=>?_⟩;rw[d]at h;simp at h;obtain⟨rfl,rfl⟩:=h;simp only[g];exact⟨c,el,0,cap,i,rfl,λ_=>rfl,a,aa⟩
variable{k:Option Nat}
def Yv{d:Operand}{y:Rf}(l:o.op = .box t d) (m:Good C w) (n:∀u,¬C.lim nl u) (g:VR C w.heap (r y) (a.eval d))
  (b:ev ce σ nl ps r (.vw y k)=some (x,p)):bI P o a w (iZ nl C w x p):=by
 simp only[ev]at b;split at b<;>simp at b
 rename_i e;simp only[aH,cT]at e;obtain⟨rfl,rfl⟩:=b;have h:=Bm e.2;refine bI.val (v:=.pointer (some ⟨w.heap.size,0,none⟩)) (w' :=cg w (.cells (a.eval d).cells t)) ?_ (Bn m n rfl ?_ ?_ ?_)
 .simp only[execOp,l,Instr.box,aW,Be,aZ,bw]
 .rw[VR.size h g];exact bd _
 .exact Fq h g
 .intro q i j
  simp only[e.1]at i j;exact M4 i j
def Yw{z:List AV}(l:o.op = .alloc t) (m:iG P t z=true) (n:Good C w) (s:∀u,¬C.lim nl u)
  (b:ev ce σ nl ps r (.lW z k)=some (x,p)):bI P o a w (iZ nl C w x p):=by
 simp only[ev]at b;split at b<;>simp at b
 rename_i e;simp only[cT]at e;obtain⟨rfl,rfl⟩:=b;obtain⟨v,A,g,B⟩:=Bo (C:=C) m w;refine bI.val (v:=.pointer (some ⟨w.heap.size,0,none⟩)) (w' :=cg w (.cells v.cells t)) ?_ (Bn n s rfl ?_ ?_ ?_)
 .simp only[execOp,l,Instr.alloc,aW,A,Be,aZ,bw]
 .have:=cj.length g;simp at this;simp[this]
 .intro i q D
  obtain⟨y,d,E⟩:=g.get i q D;rw[ja]at d;exact⟨y,d,E,B y (by rw[uj];exact Array.mem_of_getElem? d)⟩
 .intro F h j
  simp only[e]at h j;exact M4 h j
def Bp{st:Nat}:∀{l:List AV},(∀x∈l,x.cells.length=st)->(l.flatMap AV.cells).length=l.length*st/\∀(i:Nat) x j,l[i]? = some x->j<st->(l.flatMap AV.cells)[i*st+j]? = x.cells[j]?
 | [],_=>⟨ab,λi x j h=>eX⟩
 |y::l,h=>by
  obtain⟨d,e⟩:=Bp (l:=l) λx g=>h x iH
  have a:=h y ab
  refine⟨by simp only[iI,aU,d,a,cO];rw[fh];omega,λi x j b m=>?_⟩
  simp only[iI];cases i with
  |zero=>
   simp at b;subst b;rw[eJ aa];simp
  |succ i=>
   rw[gA (by rw[a,fh];omega),a,<-e i x j (by simpa using b) m]
   congr 1
   rw[fh];omega
def M5{H:Array Obj}{l:List AV}{off:Nat}(g:∀x∈l,x.cells.length=st)
  (h:∀(i:Nat) x,l[i]? = some x->∃v,VR C H x v/\v.cells.size=st/\iY x/\∀j,j<st->c[off+(i*st+j)]? = v.cells[j]?) :
  ∀(i:Nat) q,(l.flatMap AV.cells)[i]? = some q->∃y,c[off+i]? = some y/\VR C H q y/\y.oneCell' = true:=λi q d=>by
 obtain⟨p,r⟩:=Bp g;have b:=(dC.1 d).1;rw[p]at b;have a:0<st:=by
  rcases uk st with m|m
  .subst m;simp at b
  .exact m
 have n:i/st<l.length:=(oV a).2 b;have o:=l6 i a;have e:i=i/st*st+i%st:=by rw[mO];exact(Nat.div_add_mod i st).symm
 obtain⟨v,s,z,u,w⟩:=h (i/st) l[i/st] (by simp[n])
 rw[e]at d ⊢;rw[r (i/st) l[i/st] (i%st) (by simp[n]) o]at d
 rw[w _ o];exact Fq u s _ q d
def Yx{e:TypeId}{n:Nat}(ho:o.op = .buildSlice t n xs) (ht:aT P t=some e) (gG:bF P e k=true) (hz:cX P e=true) (Xj : n*aM k<=2^24) (hn:(n==xs.size)=true) (hio:gq 0 xs.toList=true)
  (hg:Good C w) (hb:∀u,¬C.lim nl u) (hx:cj C w.heap (ys.map r) ((xs.toList.map (·.2)).map a.eval)) (he:ev ce σ nl ps r (.lz ys k)=some (x,p)):bI P o a w (iZ nl C w x p):=by
 simp only[ev]at he;split at he
 case isFalse=>simp at he
 rename_i hc;simp only[bT,Prod.mk.injEq]at he;obtain⟨rfl,rfl⟩:=he;obtain⟨c,h1,h2,h3⟩:=Fp ht (nZ gG) hz Xj hn hio hx hc;have wj:∀x∈ys.map r,x.cells.length=aM k:=λx hx=>(wh hc x hx).1;obtain⟨f1,f2⟩:=Bp wj;refine bI.val (v:=.slice (some ⟨w.heap.size,0,none⟩) ys.length ys.length) (w' :=cg w (.cells c e)) ?_ (Bn hg hb rfl ?_ ?_ ?_)
 .simp only[execOp,ho,aW,h1,aZ,bw]
 .simp only[f1,h2];simp
 .intro i q hi
  have:=M5 (off:=0) wj (λi x hi=>by obtain⟨v,g1,g2,g3,g4⟩:=h3 i x hi;exact⟨v,g1,g2,g3,λj hj=>by rw[gX];exact g4 j hj⟩) i q hi
  simpa using this
 .intro C' k1 k2
  exact wi k1 k2 rfl (oS w _) (bd _) h2.symm
end
end Ab
set_option linter.all false
namespace Ab
open Go
variable{P:Program}
variable{w': World}
def Good.heap{C:Ctx}{w: World}(hg:Good C w) (h:w'.heap=w.heap):Good C w' :=
 ⟨by rw[h];exact hg.I,hg.lV,by rw[h];exact hg.live,hg.apart,by rw[h];exact hg.maps⟩
def Step.heap{C:Ctx}{w: World}(h:w'.heap=w.heap) (ho:w'.os=w.os) (ht:w'.tape=w.tape/\w.drawn<=w'.drawn) (Fl:w'.output=w.output):Step C w C w' :=
 ⟨by rw[h];exact fZ.refl _ _,by rw[h];exact bd _,λ_ _ _=>by rw[h],λ_ h=>.inl h,λ_ h=>.inl h,ho,ht,Fl⟩
section
variable{a:Act}{ρ:Operand->Value}{r:Rf->AV}{w:World}{C:Ctx}{R:Operand->Rf->Bool}{ce:CE}{σ:List al}{nl:Nat}{ps:List cQ}
def Fs (z:List AV):∀(n:Nat),(eK n z).length=n*z.length/\∀i,i<n*z.length->(eK n z)[i]? = z[i%z.length]?
 |0=>⟨by simp[eK],λi b=>by simp at b⟩
 |n+1=>by
  obtain⟨d,g⟩:=Fs z n;have e:eK (n+1) z=z++eK n z:=by simp[eK,sC]
  refine⟨by rw[e,aU,d,fh];omega,λi b=>?_⟩
  rw[e]
  by_cases a:i<z.length
  .rw[eJ a,Nat.mod_eq_of_lt a]
  .rw[gA aa,g _ (by rw[fh]at b;omega)]
   congr 1
   rw[Nat.mod_eq_sub_mod (by omega:z.length<=i)]
def M6{n:Int}(a:0<=n) (h:n<=dK):IntKind.i64.wrap n=n:=by
 unfold dK at h;exact IntWalk.i64_in n ⟨aa,aa⟩
def M7{e:TypeId}(h:fJ P e=true):∃i,P.info? e=some i/\i.bytes<=4096:=by
 unfold fJ at h;cases a:P.info? e with
 |none=>simp[a]at h
 |some i=>simp[a]at h;exact⟨i,rfl,h⟩
set_option maxRecDepth 100000 in
def Yy{o:Oper}{t e:TypeId}{l c:Operand}{l' c' : Rf}{z:List AV}{k:Option Nat}{x:AV}{p:Option cQ}(ho:o.op = .makeSlice t l c) (ht:aT P t=some e) (hk:bF P e k=true) (hz:iG P e z=true) (vy:fJ P e=true)
  (hg:Good C w) (hb:∀u,¬C.lim nl u) (hl:VR C w.heap (r l') (a.eval l)) (hc:VR C w.heap (r c') (a.eval c)) (he:ev ce σ nl ps r (.jc l' c' z k)=some (x,p)):bI P o a w (iZ nl C w x p):=by
 simp only[ev]at he;cases jL : r l' <;>simp only[jL]at he<;>try(simp at he;done)
 cases yq : r c' <;>simp only[yq]at he<;>try(simp at he;done)
 rename_i n m;split at he
 case isFalse=>simp at he
 rename_i gY;simp only[bT,Prod.mk.injEq]at he;obtain⟨rfl,rfl⟩:=he;rw[jL]at hl;rw[yq]at hc;have hl:=hl.bt;have hc:=hc.bt;obtain⟨h1,h2,h3,hzl⟩:=gY;obtain⟨M,rfl⟩:=gM (by omega:0<=m)
 obtain⟨N,rfl⟩:=gM h1;obtain⟨i,hi,vy⟩:=M7 vy;have Mc:=lu (nZ hk) w;obtain⟨zv,z1,z2,z3⟩:=Bo (C:=C) hz w;have M8:zv.cells.size=aM k:=by have:=cj.length z2;simp at this;omega
 have hM:(M:Int)<=1073741824:=h3;have M9:∀q:Nat,q<=1073741824->(i.bytes:Int)*(q:Int)<=4398046511104:=λq hq=>by
  have h1:i.bytes*q<=4096*1073741824:=jT vy hq;have h2:((i.bytes*q:Nat):Int)<=((4398046511104:Nat):Int):=Int.ofNat_le.2 aa
  rw[qb]at h2;omega
 have hbm:=M9 M aa
 let zc:Array Value:=if M*aM k=0 then #[]else zv.cells
 have dU:(Instr.makeSlice t (a.eval l) (a.eval c)).run P w = .ok (.slice (some ⟨w.heap.size,0,none⟩) N M) (cg w (.cells ((Array.range (M*aM k)).map λq=>zc[q%zc.size]!) e)):=by
  rw[hl,hc];have ha:(askRoom (M*i.bytes)).run P w = .ok () w:=by
   unfold askRoom roomBytes;have:M*i.bytes<=1073741824*4096:=jT aa vy
   rw[ad aa];rfl
  simp only[Instr.makeSlice,aW,mN ht,aZ,asInt,asIntOf,bw,run_typeInfo w hi];rw[M6 (by omega:(0:Int)<=N) aa,M6 (by omega:(0:Int)<=M) h3]
  have Yz : ¬((i.bytes:Int)*M>2^48):=by
   have:(2:Int)^48=281474976710656:=bO
   omega
  have aqd : ¬((i.bytes:Int)*N>2^48):=by
   have h48:(2:Int)^48=281474976710656:=bO
   have:=M9 N aa
   omega
  have c1:¬((M:Int)<0):=aa
  have c2:¬((N:Int)<0):=aa
  have c3:¬((N:Int)>(M:Int)):=aa
  simp only[c1,c2,c3,Yz, decide_false,Bool.or_self,ef,eI,or_self,lA];simp only[aW,ha,Mc,aZ]
  by_cases h0:M*aM k=0
  .simp only[h0,dD,aW,bw,aZ,ym]
   simp[zc,h0]
  .simp only[h0,eI,aW,z1,bw,aZ,ym]
   simp[zc,h0]
 simp only[lA];obtain⟨d1,d2⟩:=Fs z M;rw[hzl]at d1 d2;refine bI.val (v:=.slice (some ⟨w.heap.size,0,none⟩) N M) ?_ (Bn (c:=(Array.range (M*aM k)).map λq=>zc[q%zc.size]!) (el:=e) hg hb rfl ?_ ?_ ?_)
 .simp only[execOp,ho,aW,dU,aZ,bw]
 .simp[d1]
 .intro j q hj
  have cm:=(dC.1 hj).1;simp only[d1]at cm;have tW : (eK M z)[j]? = some q:=hj;rw[d2 j cm]at tW;have eP:M*aM k ≠ 0:=aa
  have Ft:0<aM k:=Nat.pos_of_ne_zero λh=>eP (by rw[h];simp)
  obtain⟨y,g1,g2⟩:=z2.get (j%aM k) q tW;rw[ja]at g1;refine⟨y,?_,g2,z3 y (by rw[uj];exact Array.mem_of_getElem? g1)⟩
  have:zc=zv.cells:=by simp[zc,eP]
  rw[this,M8];have hm:=l6 j Ft;rw[lB (by omega:j%aM k<zv.cells.size)]at g1
  simp at g1;simp[cm,getElem!_def,lB (by omega:j%aM k<zv.cells.size),g1]
 .intro C' k1 k2
  exact wi k1 k2 rfl (oS w _) aa ab
variable{o:Oper}{x:AV}{p:Option cQ}
def YA{t:TypeId}(d:o.op = .makeMap t none) (e:Good C w) (g:∀u,¬C.lim nl u)
  (b:ev ce σ nl ps r .yr=some (x,p)):bI P o a w (iZ nl C w x p):=by
 simp only[ev,bT,Prod.mk.injEq]at b;obtain⟨rfl,rfl⟩:=b;obtain⟨i,j⟩:=Yj e (g 0);refine bI.val (v:=.map (some w.heap.size)) (w' :=cg w (.map #[] 0)) ?_ ⟨_,i,j,?_,w.heap.size,rfl,rfl⟩
 .simp only[execOp,d,Instr.makeMap,aW]
  rfl
 .unfold VR
  refine⟨⟨_,rfl⟩,.inl ⟨rfl,rfl⟩,λB id h _=>?_⟩;simp[ay]at h;rw[<-h.2]
def Na{A:Operand}{k:Option Nat}(Q:o.op = .assign A) (R:kg A=true) (n:Good C w) (S:∀u,¬C.lim nl u)
  (D:ev ce σ nl ps r (.nl k)=some (x,p)):bI P o a w (iZ nl C w x p):=by
 simp only[ev]at D;simp only[bT,Prod.mk.injEq]at D;obtain⟨rfl,rfl⟩:=D;have T:a.eval A = .slice none 0 0:=Fu (ρ:=a.eval) R rfl;refine bI.val (v:=.slice none 0 0) (w' :=w) (by simp only[execOp,Q,T,bw]) ?_
 have l : fZ C w.heap (ay C nl 0 (⟨k,[],.gN⟩,0)) w.heap:=by
  refine⟨λ_ h=>h,λ_ _=>rfl,λ_ _ h=>.inr h,λe d j id g b =>?_⟩;have m:¬(e = nl/\d = 0):=λ⟨z,_⟩=>S d (z▸g);simp only[ay,ad m]at b;exact⟨j, b, rfl,rfl,λc el U=>⟨c,U,rfl⟩⟩
 refine⟨ay C nl 0 (⟨k,[],.gN⟩,0),⟨n.I,λe d j id b =>?_,λe d j id b g=>?_,λb1 J V i1 K L W X q M s N m=>?_,λe d j id es b g=>?_⟩,
  ⟨l, bd _,λ_ _ _=>rfl,λk' Y=>?_,λ_ h=>.inl h,rfl,⟨rfl,bd _⟩,rfl⟩,?_,0,rfl,rfl⟩
 .by_cases h:e = nl/\d = 0
  .simp only[ay,ae h]at b
   simp at b; obtain⟨rfl,rfl⟩:=b;exact⟨.inl h,h.2,λ_=>rfl,ab⟩
  .simp only[ay,ad h]at b
   obtain⟨E,F,G,H⟩:=n.lV e d j id b;exact⟨.inr E,F,G,H⟩
 .by_cases h:e = nl/\d = 0
  .simp only[ay,ae h]at b
   simp at b; obtain⟨rfl,rfl⟩:=b;simp at g
  .simp only[ay,ad h]at b
   obtain⟨E,c,el,F,G,H⟩:=n.live e d j id b g;refine⟨E,c,el,F,G,λi x Z=>?_⟩;obtain⟨y,m1,m2,m3⟩:=H i x Z;exact⟨y,m1,VR.mono l _ _ m2,m3⟩
 .by_cases z:b1=nl/\J=0
  .simp only[ay,ae z]at q;simp at q;obtain⟨rfl,rfl⟩:=q;simp[fb.jU]at M
  .by_cases O:K=nl/\L=0
   .simp only[ay,ae O]at s;simp at s;obtain⟨rfl,rfl⟩:=s;simp[fb.jU]at N
   .simp only[ay,ad z]at q;simp only[ay,ad O]at s
    exact n.apart b1 J V i1 K L W X q M s N m
 .by_cases h:e = nl/\d = 0
  .simp only[ay,ae h]at b
   simp at b; obtain⟨rfl,rfl⟩:=b; simp at g
  .simp only[ay,ad h]at b
   exact n.df (C' :=ay C nl 0 (⟨k,[],.gN⟩,0)) l b g rfl (n.maps e d j id es b g).1
 .obtain⟨e, d, j, b, g⟩:=Y
  by_cases h:e = nl/\d = 0
  .simp only[ay,ae h]at b
   simp at b; obtain⟨rfl,rfl⟩:=b; simp[fb.jU]at g
  .simp only[ay,ad h]at b
   exact .inl ⟨e, d, j, b, g⟩
 .unfold VR
  refine⟨⟨none,0,rfl,bd _,λh=>absurd h (Nat.lt_irrefl 0)⟩,.inl ⟨rfl,rfl⟩,λB id h=>?_⟩;simp[ay]at h;obtain⟨rfl,rfl⟩:=h;exact⟨rfl,rfl,rfl⟩
end
end Ab
set_option linter.all false
namespace Ab
open Go
variable{P:Program}
section
variable{w:World}{C:Ctx}
variable{cs:List AV}
def Fv{aq off:Nat}{c:Array Value}{el:TypeId}{m:Nat×Nat}(h:w.heap[aq]? = some (.cells c el m))
  (g:∀(i:Nat) q,cs[i]? = some q->∃y,c[off+i]? = some y/\VR C w.heap q y/\y.oneCell' = true) :
  ∃vals:List Value,(∀a:World,a.heap=w.heap->(loadCells ⟨aq,off,none⟩ cs.length).run P a = .ok vals.toArray a)/\vals.length=cs.length/\∀(i:Nat) q,cs[i]? = some q->∃y,vals[i]? = some y/\VR C w.heap q y/\y.oneCell' = true:=by
 refine⟨(List.range cs.length).map λj=>(c[off+j]?).getD undef,λa b=>run_loadCells a _ _ _ λj n=>?_,ab,λi q l=>?_⟩
 .obtain⟨y,d,_⟩:=g j cs[j] (by simp[n])
  rw[rq];simp[World.cell?,b,h,d]
 .obtain⟨y,b,d⟩:=g i q l
  have e:=(dC.1 l).1;exact⟨y,by simp[e,b],d⟩
def Nb{st:Nat}{l:List AV}(h:fitAll st l=true):∀x∈l,x.cells.length=st:=λx a=>(wh h x a).1
variable{k:Option Nat}
def rr{σ:List al}{X:AV}{v:Value}{n:Nat}(h:aP σ k X=some (n,cs)) (hg:Good C w) (jV:∀b u B,C.lim b u->upto σ b u=some B->∃id,C.own b u=some (B,id)) (hv:VR C w.heap X v) :
  ∃vals:List Value,(∃q m,v = .slice q n m)/\(∀w1:World,w1.heap=w.heap->(Builtin.firstCells (aM k) n v).run P w1 = .ok vals.toArray w1)/\cs.length=n*aM k/\vals.length=cs.length/\∀(i:Nat) q,cs[i]? = some q->∃y,vals[i]? = some y/\VR C w.heap q y/\y.oneCell' = true:=by
 have yt:∀(a:Option Addr) m (w1:World),w1.heap=w.heap->(Builtin.firstCells (aM k) 0 (.slice a 0 m)).run P w1 = .ok ([]:List Value).toArray w1:=λa m w1 _=>by
  cases a<;>simp[Builtin.firstCells,loadCells,loadCellsFrom]
 have wm:=yt none
 -- elements of an Md slice
 have Nc:∀(l:List AV) (aq off Br cap:Nat) (c:Array Value) (el:TypeId) (fz:Nat×Nat),fitAll (aM k) l=true->v = .slice (some ⟨aq,off,none⟩) l.length cap->w.heap[aq]? = some (.cells c el fz)->jS C w.heap c Br l off->
   ∃vals:List Value,(∃q m,v = .slice q l.length m)/\(∀w1:World,w1.heap=w.heap->(Builtin.firstCells (aM k) l.length v).run P w1 = .ok vals.toArray w1)/\(l.flatMap AV.cells).length=l.length*aM k/\vals.length=(l.flatMap AV.cells).length/\∀(i:Nat) q,(l.flatMap AV.cells)[i]? = some q->∃y,vals[i]? = some y/\VR C w.heap q y/\y.oneCell' = true:=by
  intro l aq off Br cap c el fz hf e hH hl;obtain⟨f1,f2⟩:=Bp (Nb hf);have hc:=M5 (C:=C) (H:=w.heap) (c:=c) (off:=off) (Nb hf) (λi x hi=>by
   obtain⟨val,g1,g2,g3⟩:=hl.get i x hi;obtain⟨h1,h2⟩:=wh hf x (sA hi);have gG:Br = aM k:=by rw[<-g2,VR.size h2 g1,h1]
   subst gG;exact⟨val,g1,g2,h2,λj hj=>by rw[<-g3 j hj,Nat.add_assoc]⟩)
  obtain⟨vals,k1,k2,k3⟩:=Fv (P:=P) hH hc;exact⟨vals,⟨_,_,e⟩,λw1 h1=>by rw[e];simp only[Builtin.firstCells];rw[<-f1];exact k1 w1 h1,f1,k2,k3⟩
 cases X<;>simp only[aP]at h<;>try(simp at h;done)
 .simp at h;obtain⟨rfl,rfl⟩:=h
  have hv:v = .slice none 0 0:=hv;subst hv;exact⟨[],⟨_,_,rfl⟩,wm 0,ab,rfl,λi q h=>eX⟩
 .simp at h;obtain⟨rfl,rfl⟩:=h
  unfold VR at hv;obtain⟨a0,hv⟩:=hv;subst hv;exact⟨[],⟨_,_,rfl⟩,yt a0 0,ab,rfl,λi q h=>eX⟩
 .rename_i nn l
  split at h
  case isFalse=>simp at h
  rename_i hf;simp only[bT,Prod.mk.injEq]at h;obtain⟨rfl,rfl⟩:=h;unfold VR at hv;rcases hv.2 with⟨rfl,_,rfl,_⟩|⟨aq,off,cap,st,c,el,fz,e,_,_,hH,hl⟩
  .exact⟨[],⟨_,_,rfl⟩,yt _ 0,ab,rfl,λi q h=>eX⟩
  .exact Nc l aq off st cap c el fz hf e hH hl
 .rename_i l
  split at h
  case isFalse=>simp at h
  rename_i hf;simp only[bT,Prod.mk.injEq]at h;obtain⟨rfl,rfl⟩:=h;unfold VR at hv;obtain⟨aq,off,st,c,el,fz,e,_,hH,hl⟩:=hv;exact Nc l aq off st l.length c el fz hf e hH hl
 .rename_i b u off len
  cases hu:upto σ b u with
  |none=>simp[hu]at h
  |some B=>
   simp only[hu]at h;split at h
   case isFalse=>simp at h
   rename_i hle;simp only[bT,Prod.mk.injEq]at h;obtain⟨rfl,rfl⟩:=h;obtain⟨id,ho⟩:=jV b u B (Bt hv) hu;obtain⟨_,e1,e3,e4⟩:=hg.lV b u B id ho;unfold VR at hv;have hv:=hv.2.2 B id ho;have hlen:((B.cells.drop off).take (len*aM k)).length=len*aM k:=ax
   cases hs:B.st with
   |dead=>exact absurd hs e4
   |map es=>have:=yu hu;rw[hs]at this;simp[fb.je]at this
   |gN=>
    simp only[hs]at hv;obtain⟨rfl,rfl,rfl⟩:=hv;exact⟨[],⟨_,_,rfl⟩,wm 0,ab,ab,λi q h=>eX⟩
   |live=>
    simp only[hs]at hv;obtain⟨c,el,o,cap,g1,rfl,g3,g4,g5⟩:=hv;obtain⟨_,c', AM, n2,n3,n4⟩:=hg.live b u B id ho hs;rw[g1]at n2;simp only[bT,lC]at n2;obtain⟨rfl,rfl,_⟩:=n2
    by_cases h0:len=0
    .subst h0
     refine⟨[],⟨_,_,rfl⟩,?_,ab,ab,λi q h=>eX⟩
     intro w1 _;have:=run_loadCells (P:=P) w1 ⟨id,o,none⟩ 0 (λ_=>undef) (λj hj=>absurd hj (Nat.not_lt_zero j));simpa[Builtin.firstCells]using this
    .obtain rfl:=g3 aa
     obtain⟨vals,k1,k2,k3⟩:=Fv (P:=P) (cs:=(B.cells.drop o).take (len*aM k)) (off:=o) g1 (λi q hi=>by
      have cm:=(dC.1 hi).1;rw[hlen]at cm;rw[List.getElem?_take_of_lt cm,mP]at hi;exact n4 (o+i) q hi)
     exact⟨vals,⟨_,_,rfl⟩,λw1 h1=>by simp only[Builtin.firstCells];rw[<-hlen];exact k1 w1 h1,hlen,k2,k3⟩
def YB{x:AV}{b:UInt8}(h:byteOf x=some b):∃n:Int,x = .ik 4 n/\(0<=n/\n<=255)/\b=UInt8.ofNat n.toNat:=by
 unfold byteOf at h;split at h
 .rename_i n
  split at h
  .rename_i a
   injection h with h
   exact⟨n,rfl,a,h.symm⟩
  .simp at h
 .simp at h
def Nd{C:Ctx}{H:Array Obj}:∀{cs:List AV}{s:List UInt8}{vals:List Value},bytesOf cs=some s->vals.length=cs.length->(∀(i:Nat) q,cs[i]? = some q->∃y,vals[i]? = some y/\VR C H q y/\y.oneCell' = true)->∃ns:List Int,vals=ns.map (Value.int .u8)/\ns.map (λn=>UInt8.ofNat n.toNat)=s
 | [],s,vals,h,a,_=>by
  simp[bytesOf]at h;subst h;obtain rfl:=dY a;exact⟨[],rfl,rfl⟩
 |x::cs,s,vals,h,a,g=>by
  obtain⟨y,j,l,_⟩:=g 0 x rfl;cases vals with
  |nil=>simp at a
  |cons v vals=>
   simp at j;subst j;cases d:byteOf x with
   |none=>simp[bytesOf,d]at h
   |some b=>
   cases e:bytesOf cs with
   |none=>simp[bytesOf,d,e]at h
   |some w =>
    simp[bytesOf,d,e]at h;subst h;obtain⟨n,rfl,z,rfl⟩:=YB d;obtain⟨ns,o,p⟩:=Nd e iJ (λi q r=>g (i+1) q r)
    unfold VR at l;obtain⟨K,m,u⟩:=l;rw[show kh 4=some IntKind.u8 from rfl]at m;cases m
    exact⟨n::ns,by rw[o,u];rfl,by rw[<-p];rfl⟩
def Nf:∀(ns:List Int) (b:ByteArray),ns.foldl (λr n=>r.push (UInt8.ofNat n.toNat)) b=⟨b.data++(ns.map λn=>UInt8.ofNat n.toNat).toArray⟩
 | [],b=>by simp
 |n::ns,b=>by
  rw[jW,Nf ns];simp[ByteArray.push]
def Ng{ce:CE}{σ:List al}{nl:Nat}{ps:List cQ}{r:Rf->AV}{o:Oper}{s d:TypeId}{x:Operand}{y:Rf}{z:AV}{p:Option cQ}{ρ:Operand->Value}(N:o.op = .convert s d x)
  (j:(match P.underlying s,P.underlying d with|some (.slice e),some .string=>(match P.underlying e with|some (.int .u8)=>true|_=>false)|_,_=>false)=true) (O:Good C w) (D:∀b u B,C.lim b u->upto σ b u=some B->∃id,C.own b u=some (B,id)) (Q:VR C w.heap (r y) (ρ x)) (a:ev ce σ nl ps r (.Bu y)=some (z,p)):Plain P ρ o w C w.heap z/\p=none:=by
 have R:∃e,P.underlying s=some (.slice e)/\P.underlying d=some .string/\P.underlying e=some (.int .u8):=by
  split at j
  .rename_i e E l
   split at j
   .rename_i F;exact⟨e,E,l,F⟩
   .simp at j
  .simp at j
 obtain⟨e,M,hd,h⟩:=R;simp only[ev]at a;cases G:aP σ none (r y)with
 |none=>rw[G]at a;simp at a
 |some q=>
  obtain⟨n,cs⟩:=q;rw[G]at a;simp only at a;cases H:bytesOf cs with
  |none=>rw[H]at a;simp at a
  |some S=>
   rw[H]at a;simp at a;obtain⟨T,U⟩:=a;subst T U;obtain⟨g,⟨q,m,V⟩,i,E,l,F⟩:=rr (P:=P) G O D Q;obtain⟨ns,I,J⟩:=Nd H l F;have A:=i w rfl;have W:g.length=n:=by rw[l,E];simp[aM]
   refine⟨fI (s:=Go.convert s d (ρ x)) (v:=.string ⟨S.toArray⟩) (by simp only[execOp,N]) ?_ gB,rfl⟩
   rw[V]at A ⊢;cases q with
   |none=>
    rw[run_convert_bytes_string w s d e none n m M h hd];have K:g=[]:=by
     simp only[Builtin.firstCells,bw,Result.ok.injEq,and_true]at A;simpa using A.symm
    rw[K]at I;have:ns=[]:=by simpa using I.symm
    subst this;simp at J;subst J;simp[Conv.bytesToString]
    rfl
   |some L=>
    rw[run_convert_bytes_string w s d e (some L) n m M h hd];have X:(loadCells L n).run P w = .ok (ns.map (Value.int .u8)).toArray w:=by
     rw[<-I];simpa[Builtin.firstCells,aM]using A
    rw[run_bytesToString w L n m ns X,Nf];simp[J,ByteArray.empty,ByteArray.emptyWithCapacity]
    rfl
def Nh (n:Nat):∀(m c:Nat),Builtin.growBy n m c<=2^m*(c+768)
 |0,c=>by simp[Builtin.growBy]
 |m+1,c=>by
  unfold Builtin.growBy;split
  .have:1*(c+768)<=2^(m+1)*(c+768):=lr _ (Nat.one_le_two_pow)
   omega
  .refine Nat.le_trans (Nh n m _) ?_
   rw[Nat.pow_succ,Nat.mul_assoc];refine Nat.mul_le_mul_left _ ?_;omega
variable{cap:Nat}
def YC{a:Nat}(h:a<=1073741824) (d:cap<a):Builtin.nextslicecap a cap<=17179881472:=by
 unfold Builtin.nextslicecap;split
 .omega
 .split
  .omega
  .have b:Builtin.growBy a 4 cap<=16*(cap+768):=Nh a 4 cap
   exact Nat.le_trans b (Nat.le_trans (Nat.mul_le_mul_left 16 (show cap+768<=1073742592 by omega)) bO)
variable{T T' ty:TypeId}{x:Value}{len m:Nat}{q base:Option Addr}{vals:List Value}
def Fw{e:TypeId}(j:aT P T=some e) (h : (aT P T').isSome=true) (l:bF P e k=true){n:Nat}{w' : World}
  (p:x = .slice q n m) (o:(Builtin.firstCells (aM k) n x).run P w = .ok vals.toArray w) (a:len+n<=cap)
  (d:∀b,base=some b->(storeCells (b.add (len*aM k)) vals).run P w = .ok () w') (i:base=none->w' = w) :
  (Builtin.append_ #[T,T'] ty #[.slice base len cap,x]).run P w = .ok (.slice base (len+n) cap) w' :=by
 obtain⟨r, g⟩:=ru.1 h;subst p;cases base with
 |none=>simp[Builtin.append_,mN j,mN g, lu (nZ l),Builtin.lenOf,a,o,i rfl]
 |some b=>
  have d:=d b rfl;simp[Builtin.append_,mN j,mN g, lu (nZ l),Builtin.lenOf,a,o,d]
def YD{e:TypeId}(K:aT P T=some e) (r : (aT P T').isSome=true) (J:bF P e k=true) (j:fJ P e=true) (p:cX P e=true){n:Nat}
  {olds:List Value} (L:x = .slice q n m) (M:∀a:World,a.heap=w.heap->(Builtin.firstCells (aM k) n x).run P a = .ok vals.toArray a) (N:∀a:World,a.heap=w.heap->(Builtin.firstCells (aM k) len (.slice base len cap)).run P a = .ok olds.toArray a)
  (s:cap<len+n) (O:len+n<=1073741824) :
  ∃(g:Nat) (rest:Array Value),len+n<=g/\rest.size=(g-(len+n))*aM k/\
   (Builtin.append_ #[T,T'] ty #[.slice base len cap,x]).run P w = .ok (.slice (some ⟨w.heap.size,0,none⟩) (len+n) g) (cg w.drew (.cells (olds.toArray++vals.toArray++rest) e)):=by
 obtain⟨V, u⟩:=ru.1 r;obtain⟨i,l,j⟩:=M7 j;subst L;have y : ∃z,i.zero=some z/\z.cells.size=aM k:=by
  unfold cX at p;simp only[l]at p;cases d:i.zero with
  |none=>simp[d]at p
  |some z=>
   simp[d]at p;have:=nZ J;simp[cD,l]at this;exact⟨z,rfl,aa⟩
 obtain⟨z,d,A⟩:=y;have B:∀a:World,(zeroValue e).run P a = .ok z a:=λa=>by
  simp only[zeroValue,aW,run_typeInfo a l,aZ,d,bw]
 have Q:¬(len+n<=cap):=aa
 have W:¬(((len+n:Nat):Int)>IntKind.i64.max):=by
  have:IntKind.i64.max=9223372036854775807:=bO
  rw[this];omega
 have X:¬(Builtin.nextslicecap (len+n) cap*i.bytes>2^48):=by
  have R:=YC O s;have S:Builtin.nextslicecap (len+n) cap*i.bytes<=17179881472*4096:=jT R j;have U:17179881472*4096<=2^48:=bO
  exact Nat.not_lt.2 (Nat.le_trans S U)
 let g:Nat:=(Question.appendCap (len+n) cap e).cut (w.tape w.drawn (.appendCap (len+n) cap e))
 have C:len+n<=g:=by show _<=_+_;omega
 have D:(choose (.appendCap (len+n) cap e)).run P w = .ok g w.drew:=by
  rfl
 have o:∀(b:Nat) (a:World),(askRoom b).run P a = .ok () a:=λb a=>by
  unfold askRoom;split<;>rfl
 have E:=lu (nZ J) (P:=P);refine⟨g,Builtin.zeroCells z.cells (g-(len+n)),C,?_,?_⟩
 .simp[Builtin.zeroCells,A]
 .have hold:=N w.drew rfl
  have F:=M w.drew rfl;have G : ¬((9223372036854775807:Int)<(len:Int)+(n:Int)):=aa
  have H:(Question.appendCap (len+n) cap e).forced=false:=rfl;have I : Builtin.nextslicecap (len+n) cap*i.bytes<=281474976710656:=by
   have:(2:Nat)^48=281474976710656:=bO
   omega
  simp[Builtin.append_,mN K,mN u, E,Builtin.lenOf,Q,G, run_typeInfo w l,I, H,D,run_typeInfo w.drew l,o,hold,F,B,ym];rw[ad aa]
  have h:∀Z:Array Value,olds.toArray++(vals.toArray++Z)=(olds++vals).toArray++Z:=λZ=>by rw[<-Array.append_assoc];simp
  first
   |(rw[h];done)
   |(rw[h];rfl)
   |rfl
end
end Ab
set_option linter.all false
namespace Ab
open Go
variable{P:Program}
def ki (w:World) (g:Nat) (c:Array Value){k:Nat}(h:k ≠ g):(w.setRow g c).heap[k]? = w.heap[k]?:=by
 simp only[World.setRow,sD];rw[ad aa]
def od (w:World) (g:Nat) (c:Array Value):(w.setRow g c).heap.size=w.heap.size:=by simp[World.setRow]
def Ni{C:Ctx}{w:World}(l:Good C w){id:Nat}{c c' : Array Value}{el:TypeId}(h:owned C id) (j:w.heap[id]? = some (.cells c el (0,0))) (m:c'.size=c.size) (C' : Ctx) (n:∀k,C.I k->C'.I k) (a:∀b u,C.lim b u->C'.lim b u)
  (d:∀b u B' i,C.lim b u->C'.own b u=some (B', i)->∃B,C.own b u=some (B,i)/\B.st=B'.st/\B.k=B'.k):fZ C w.heap C' (w.setRow id c').heap:=by
 refine⟨n,λk o=>ki w id c' λe=>l.YE h (e▸o),a,λb u B' i p r=>?_⟩;obtain⟨B,s,x,y⟩:=d b u B' i p r;refine⟨B,s,by rw[x],y,λq z g=>?_⟩
 by_cases e:i=id
 .subst e
  rw[j]at g;simp only[bT,lC]at g;obtain⟨rfl,rfl,_⟩:=g;exact⟨c', setRow_heap w i c c' el (0,0) j,m⟩
 .exact⟨q,by rw[ki w id c' e];exact g,rfl⟩
section
variable{a:Act}{ρ:Operand->Value}{r:Rf->AV}{w:World}{C:Ctx}{R:Operand->Rf->Bool}{ce:CE}{σ:List al}{nl:Nat}{ps:List cQ}
variable{o:Oper}{ca:Call}
def YF{bi:Builtin}(b:o.op = .call ca) (d:ca.callee = .builtin bi) (w:World) :
  (execOp a.eval o).run P w=(builtin bi ca.argTypes o.type (ca.args.map fun | .const _=>true|_=>false) (ca.args.map a.eval)).run P w:=by
 simp only[execOp,b,resolve,d,aW,bw,aZ,invoke]
 rfl
def kj{s x:Operand}{t e : TypeId}{b:Value->World->Prop}{v:Value}{w' : World}(j:o.op = .call ca) (l:ca.callee = .builtin .append) (m:ca.args.toList=[s,x]) (g:ca.argTypes.toList=[t,e])
  (h:(Builtin.append_ #[t,e] o.type #[a.eval s,a.eval x]).run P w = .ok v w') (n:b v w'):bI P o a w b:=by
 have i : ca.args = #[s,x]:=by rw[<-Array.toList_inj];simpa using m
 have d : ca.argTypes = #[t,e]:=by rw[<-Array.toList_inj];simpa using g
 refine bI.val (v:=v) (w' :=w') ?_ n;rw[YF j l];simp only[builtin,i, d, aW];have:Array.map a.eval #[s,x] = #[a.eval s,a.eval x]:=ab
 rw[this,h];simp
variable{cs:List AV}{vals:List Value}
def YG{cells:List AV}{olds:List Value}{rest:Array Value}{H:Array Obj}(g:olds.length=cells.length) (m:vals.length=cs.length)
  (h:∀(i:Nat) q,cells[i]? = some q->∃y,olds[i]? = some y/\VR C H q y/\y.oneCell' = true) (j:∀(i:Nat) q,cs[i]? = some q->∃y,vals[i]? = some y/\VR C H q y/\y.oneCell' = true) :
  (cells++cs).length<=(olds.toArray++vals.toArray++rest).size/\∀(i:Nat) q,(cells++cs)[i]? = some q->∃y,(olds.toArray++vals.toArray++rest)[i]? = some y/\VR C H q y/\y.oneCell' = true:=by
 refine⟨ax,λi q a=>?_⟩
 have b:=(dC.1 a).1;simp at b;rw[lq ax]
 by_cases l:i<cells.length
 .rw[eJ l]at a
  obtain⟨y,d,e⟩:=h i q a;exact⟨y,by rw[lq ax];simpa using d,e⟩
 .rw[gA aa]at a
  obtain⟨y,d,e⟩:=j _ q a;exact⟨y,by rw[um ax];simpa[g]using d,e⟩
variable{B:al}{b:Nat}{c:Array Value}{el:TypeId}
def YH(d:Good C w) (e:¬C.lim b B.cells.length) (a:B.st = .live) (hle:B.cells.length<=c.size) (g:∀(i:Nat) x,B.cells[i]? = some x->∃y,c[i]? = some y/\VR C w.heap x y/\y.oneCell' = true) :
  Good (ay C b B.cells.length (B,w.heap.size)) (cg w.drew (.cells c el))/\Step C w (ay C b B.cells.length (B,w.heap.size)) (cg w.drew (.cells c el)):=by
 have h:Good C w.drew:=d.heap rfl;obtain⟨j,l⟩:=Bg h B e c el a hle g;exact⟨j,(Step.heap (C:=C) (w:=w) (w' :=w.drew) rfl rfl ⟨rfl,Nat.le_succ _⟩ rfl).trans l⟩
def YI{id:Nat}(m:Good C w) (D:C.own b B.cells.length=some (B,id)) (E:B.st = .live) (H:¬C.lim b (B.cells++cs).length)
  (n:∀u' B' id', C.own b u' = some (B', id')->u' = B.cells.length) (L:w.heap[id]? = some (.cells c el (0,0))) (Y:B.cells.length+vals.length<=c.size) (xR:vals.length=cs.length)
  (hv:∀(i:Nat) q,cs[i]? = some q->∃y,vals[i]? = some y/\VR C w.heap q y/\y.oneCell' = true) :
  Good (ay C b (B.cells++cs).length (⟨B.k,B.cells++cs,.live⟩,id)) (w.setRow id (c.toList.take B.cells.length++vals++c.toList.drop (B.cells.length+vals.length)).toArray)/\
  Step C w (ay C b (B.cells++cs).length (⟨B.k,B.cells++cs,.live⟩,id)) (w.setRow id (c.toList.take B.cells.length++vals++c.toList.drop (B.cells.length+vals.length)).toArray):=by
 have o:owned C id:=⟨b,_,B,D,l7 E⟩;generalize J : (c.toList.take B.cells.length++vals++c.toList.drop (B.cells.length+vals.length)).toArray=c';have Z:c'.size=c.size:=by subst J; simp;omega
 have r:∀i,c'[i]? = if B.cells.length<=i/\i<B.cells.length+vals.length then vals[i-B.cells.length]? else c[i]?:=λi=>by
  subst J;simp only[List.getElem?_toArray]
  by_cases P:i<B.cells.length
  .rw[ad aa,gZ,eJ ax,List.getElem?_take_of_lt P];simp
  .by_cases h2:i<B.cells.length+vals.length
   .rw[ae ⟨aa,h2⟩,eJ ax,gA ax]
    congr 1;simp;omega
   .rw[ad aa,gA ax,mP]
    simp
    congr 1;omega
 have ev:=Ni (c' :=c') m o L Z (ay C b (B.cells++cs).length (⟨B.k,B.cells++cs,.live⟩,id)) (λ_ h=>h) (λ_ _ h=>.inr h) (λg u' B' i Q a =>by
  have s:¬(g = b/\u' = (B.cells++cs).length):=λ⟨e1,e2⟩=>H (e1▸e2▸Q);simp only[ay,ad s]at a;exact⟨B', a, rfl,rfl⟩)
 obtain⟨n1,c0,el0,R,n3,n4⟩:=m.live b _ B id D E;rw[L]at R;simp only[bT,lC]at R;obtain⟨rfl,rfl,_⟩:=R;have j:(w.setRow id c').heap[id]? = some (.cells c' el (0,0)):=setRow_heap w id c c' el (0,0) L;refine⟨⟨λk F=>by rw[od];exact m.I k F,λg u' B' i a =>?_,λg u' B' i a d =>?_,λb1 u1 B1 i1 b2 u2 B2 i2 k1 l1 k2 l2 s=>?_,λg u' B' i es a d =>?_⟩,
  ⟨ev,by rw[od];exact bd _,λk F S=>ki w id c' λe=>S (e▸o),λk F=>?_,λk F=>.inl F,rfl,⟨rfl,bd _⟩,rfl⟩⟩
 .by_cases e:g = b/\u' = (B.cells++cs).length
  .simp only[ay,ae e]at a
   simp at a; obtain⟨rfl,rfl⟩:=a;exact⟨.inl e,e.2,λh=>eX,ab⟩
  .simp only[ay,ad e]at a
   obtain⟨M,G,T,N⟩:=m.lV g u' B' i a;exact⟨.inr M,G,T,N⟩
 .by_cases e:g = b/\u' = (B.cells++cs).length
  .simp only[ay,ae e]at a
   simp at a; obtain⟨rfl,rfl⟩:=a;refine⟨n1,c', el,j,by rw[Z];simp;omega,λi q p=>?_⟩
   rw[r]
   by_cases P:i<B.cells.length
   .have l : (B.cells++cs)[i]? = some q:=p
    rw[eJ P]at l;obtain⟨y,u,x,z⟩:=n4 i q l;exact⟨y,by rw[ad aa];exact u,VR.mono ev _ _ x,z⟩
   .have l : (B.cells++cs)[i]? = some q:=p
    rw[gA aa]at l
    have U:=(dC.1 l).1;obtain⟨y,u,x,z⟩:=hv _ q l;exact⟨y,by rw[ae ⟨aa,aa⟩];exact u,VR.mono ev _ _ x,z⟩
  .simp only[ay,ad e]at a
   obtain⟨M,c1,V,G,T,N⟩:=m.live g u' B' i a d
   by_cases p:i=id
   .subst p
    have A:g = b:=Decidable.byContradiction λh=>m.apart g u' B' i b _ B i a (l7 d) D (l7 E) h rfl;subst A;have hu:=n u' B' i a;have hlen:=(m.lV g u' B' i a).2.1;rw[L]at G;simp only[bT,lC]at G;obtain⟨rfl,rfl,_⟩:=G;refine⟨M,c', el,j,aa,λW q O=>?_⟩
    have U:=(dC.1 O).1;obtain⟨y,u,x,z⟩:=N W q O;exact⟨y,by rw[r,ad aa];exact u,VR.mono ev _ _ x,z⟩
   .refine⟨M,c1,V,by rw[ki w id c' p];exact G,T,λW q O=>?_⟩
    obtain⟨y,u,x,z⟩:=N W q O;exact⟨y,u,VR.mono ev _ _ x,z⟩
 .have hb:∀g u' B' i,(ay C b (B.cells++cs).length (⟨B.k,B.cells++cs,.live⟩,id)).own g u' = some (B', i)->B'.st.jU=true->∃X K, C.own g X = some (K, i)/\K.st.jU=true:=by
   intro g u' B' i a d
   by_cases e:g = b/\u' = (B.cells++cs).length
   .simp only[ay,ae e]at a
    simp at a; obtain⟨rfl,rfl⟩:=a;exact⟨_,B,by rw[e.1];exact D,l7 E⟩
   .simp only[ay,ad e]at a
    exact⟨u', B', a, d⟩
  obtain⟨_,_,q1,q2⟩:=hb b1 u1 B1 i1 k1 l1;obtain⟨_,_,q3,q4⟩:=hb b2 u2 B2 i2 k2 l2;exact m.apart _ _ _ _ _ _ _ _ q1 q2 q3 q4 s
 .by_cases e:g = b/\u' = (B.cells++cs).length
  .simp only[ay,ae e]at a
   simp at a; obtain⟨rfl,rfl⟩:=a;simp at d
  .simp only[ay,ad e]at a
   have p:i ≠ id:=λp=>by
    subst p;have A:g = b:=Decidable.byContradiction λh=>m.apart g u' B' i b _ B i a (l0 d) D (l7 E) h rfl;subst A;have hu:=n u' B' i a;rw[hu,D]at a;simp at a;rw[<-a, E]at d;simp at d
   exact m.df (C' :=ay C b (B.cells++cs).length (⟨B.k,B.cells++cs,.live⟩,id)) ev a d (ki w id c' p) (m.maps g u' B' i es a d).1
 .obtain⟨g, u', B', a, d⟩:=F
  by_cases e:g = b/\u' = (B.cells++cs).length
  .simp only[ay,ae e]at a
   simp at a; obtain⟨rfl,rfl⟩:=a;exact .inl o
  .simp only[ay,ad e]at a
   exact .inl ⟨g, u', B', a, d⟩
end
end Ab
set_option linter.all false
namespace Ab
open Go
variable{P:Program}
def Good.shrink{C C2:Ctx}{w:World}(hg:Good C w) (hI:C2.I=C.I) (da:∀b u e,C2.own b u=some e->C.own b u=some e) (iw:∀b u,C.lim b u->C2.lim b u):Good C2 w/\Step C w C2 w:=by
 have ev:fZ C w.heap C2 w.heap:=⟨λk h=>by rw[hI];exact h,λ_ _=>rfl,iw,λb u B' id _ ho=>⟨B', da _ _ _ ho,rfl,rfl,λc el hc=>⟨c,hc,rfl⟩⟩⟩
 refine⟨⟨by rw[hI];exact hg.I,λb u B id ho=>?_,λb u B id ho hl=>?_,λb1 u1 B1 i1 b2 u2 B2 i2 h1 l1 h2 l2 eP=>hg.apart _ _ _ _ _ _ _ _ (da _ _ _ h1) l1 (da _ _ _ h2) l2 eP,λb u B id es ho hl=>hg.df ev (da _ _ _ ho) hl rfl (by rw[hI];exact(hg.maps b u B id es (da _ _ _ ho) hl).1)⟩,
  ⟨ev,bd _,λ_ _ _=>rfl,λk ⟨b,u,B,ho,hl⟩=>.inl ⟨b,u,B,da _ _ _ ho,hl⟩,λk h=>.inl (by rw[hI]at h;exact h),rfl,⟨rfl,bd _⟩,rfl⟩⟩
 .obtain⟨h1,h2,h3,h4⟩:=hg.lV b u B id (da _ _ _ ho)
  exact⟨iw _ _ h1,h2,h3,h4⟩
 .obtain⟨h1,c,el,h2,h3,h4⟩:=hg.live b u B id (da _ _ _ ho) hl
  refine⟨by rw[hI];exact h1,c,el,h2,h3,λi x hi=>?_⟩
  obtain⟨y,k1,k2,k3⟩:=h4 i x hi;exact⟨y,k1,VR.mono ev _ _ k2,k3⟩
section
variable{a:Act}{ρ:Operand->Value}{r:Rf->AV}{w:World}{C:Ctx}{R:Operand->Rf->Bool}{ce:CE}{σ:List al}{nl:Nat}{ps:List cQ}
variable{T T' ty:TypeId}{k:Option Nat}{X:AV}{vx:Value}{cs:List AV}{b len:Nat}
def rA{e:TypeId}{k0:Option Nat}(I:aT P T=some e) (j : (aT P T').isSome=true) (J:bF P e k=true) (l:fJ P e=true) (K:cX P e=true){n:Nat}{cells:List AV}(E:Good C w)
  (o:∀b u B,C.lim b u->upto σ b u=some B->∃id,C.own b u=some (B,id)) (d:aP σ k X=some (n,cs)) (L:VR C w.heap X vx) {cap:Nat} {base:Option Addr} {olds:List Value} (M:¬C.lim b (cells++cs).length) (p:aM k0=aM k)
  (hlen:cells.length=len*aM k) (r:olds.length=cells.length) (hold:∀s:World,s.heap=w.heap->(Builtin.firstCells (aM k) len (.slice base len cap)).run P s = .ok olds.toArray s)
  (x:∀(i:Nat) q,cells[i]? = some q->∃y,olds[i]? = some y/\VR C w.heap q y/\y.oneCell' = true) (z:cap<len+n) (g:len+n<=dK) :
  ∃v w' id', (Builtin.append_ #[T,T'] ty #[.slice base len cap,vx]).run P w = .ok v w' /\Good (ay C b (cells++cs).length (⟨k0,cells++cs,.live⟩,id')) w' /\Step C w (ay C b (cells++cs).length (⟨k0,cells++cs,.live⟩,id')) w' /\
    VR (ay C b (cells++cs).length (⟨k0,cells++cs,.live⟩,id')) w'.heap (.sl b (cells++cs).length 0 (len+n)) v:=by
 obtain⟨h,⟨q,m,A⟩,N,O,D,a⟩:=rr (P:=P) d E o L;obtain⟨F,rest,G,Y,Q⟩:=YD (P:=P) (w:=w) (ty:=ty) (olds:=olds) I j J l K A N hold z g;obtain⟨R,S⟩:=YG (rest:=rest) (C:=C) (H:=w.heap) r D x a;have Z:(⟨k0,cells++cs,.live⟩:al).cells.length=(cells++cs).length:=rfl;obtain⟨U,V⟩:=YH (b:=b) (B:=⟨k0,cells++cs,.live⟩) (c:=olds.toArray++h.toArray++rest) (el:=e) E M rfl R S;refine⟨_,_,w.heap.size,Q,U,V,wi (B:=⟨k0,cells++cs,.live⟩) (id:=w.heap.size) (by simp[ay]) (.inl ⟨rfl,rfl⟩) rfl (oS w.drew _) G ?_⟩
 simp only[p];have W:(F-(len+n))*aM k+(len+n)*aM k=F*aM k:=by rw[<-Nat.add_mul,Nat.sub_add_cancel G]
 rw[fh len n]at W;simp;omega
def Nj{e:TypeId}(Q:aT P T=some e) (x : (aT P T').isSome=true) (R:bF P e k=true) (E:fJ P e=true) (Z:cX P e=true){n:Nat}(F:Good C w)
  (z:∀b u B,C.lim b u->upto σ b u=some B->∃id,C.own b u=some (B,id)) (g:aP σ k X=some (n,cs)) (S:VR C w.heap X vx)  {vs:Value} {B:al} {id:Nat} (U:C.own b B.cells.length=some (B,id)) (V:B.cells.length=len*aM k) (p:aM B.k=aM k)
  (G:VR C w.heap (.sl b B.cells.length 0 len) vs) (hn:0<n) (D:len+n<=dK) (K:B.st.je=false) (H:¬C.lim b (B.cells++cs).length) (I:∀u' B' id', C.own b u' = some (B', id')->u' = B.cells.length) :
  ∃v w' id', (Builtin.append_ #[T,T'] ty #[vs,vx]).run P w = .ok v w' /\Good (ay C b (B.cells++cs).length (⟨B.k,B.cells++cs,.live⟩,id')) w' /\Step C w (ay C b (B.cells++cs).length (⟨B.k,B.cells++cs,.live⟩,id')) w' /\
    VR (ay C b (B.cells++cs).length (⟨B.k,B.cells++cs,.live⟩,id')) w'.heap (.sl b (B.cells++cs).length 0 (len+n)) v:=by
 obtain⟨_,_,e3,e4⟩:=F.lV b _ B id U;unfold VR at G;have G:=G.2.2 B id U;cases d:B.st with
 |dead=>exact absurd d e4
 |map es=>rw[d]at K;simp[fb.je]at K
 |gN=>
  simp only[d]at G;obtain⟨_,rfl,rfl⟩:=G;have l:=e3 d;have:=rA (P:=P) (σ:=σ) (cells:=B.cells) (k0:=B.k) (b:=b) (len:=0) (cap:=0) (base:=none) (olds:=[]) (ty:=ty) Q x R E Z F z g S H p (by rw[l];simp) (by rw[l];rfl) (λW _=>by simp[Builtin.firstCells]) (by rw[l];simp) aa aa
  simpa using this
 |live=>
  simp only[d]at G;obtain⟨c,el,o,cap,L,rfl,g3,g4,g5⟩:=G;obtain⟨_,c', AM, n2,n3,n4⟩:=F.live b _ B id U d;rw[L]at n2;simp only[bT,lC]at n2;obtain⟨rfl,rfl,_⟩:=n2
  by_cases r:len+n<=cap
  .have M:0<cap:=by omega
   have YJ:=g3 M;subst YJ;obtain⟨a,⟨q,m,YK⟩,hf,ss,xR,s⟩:=rr (P:=P) g F z S;have J : B.cells.length+a.length<=c.size:=by
    have:(len+n)*aM k<=cap*aM k:=lr _ r;rw[fh]at this;rw[p]at g5;omega
   obtain⟨p1,p2⟩:=YI F U d H I L J xR s;have N:∀v∈a,v.oneCell' = true:=λv hv=>by
    obtain⟨i,Y⟩:=List.getElem?_of_mem hv;have cm:=(dC.1 Y).1;obtain⟨y,m1,m2,m3⟩:=s i cs[i] (db aa)
    rw[Y]at m1;simp at m1;subst m1;exact m3
   have A:=run_storeCells_at P id B.cells.length el a 0 c w L aa N
   have O:=Fw (P:=P) (w:=w) (ty:=ty) (base:=some ⟨id,0,none⟩) Q x R YK (hf w rfl) r (λb H=>by
    simp at H;subst H;rw[rq,gX,<-V];exact A) (λh=>eX)
   refine⟨_,_,id,O,p1,p2,?_⟩;have wq : (w.setRow id (c.toList.take B.cells.length++a++c.toList.drop (B.cells.length+a.length)).toArray).heap[id]? = some (.cells _ el (0,0)):=setRow_heap w id c _ el (0,0) L;refine wi (B:=⟨B.k,B.cells++cs,.live⟩) (id:=id) (by simp[ay]) (.inl ⟨rfl,rfl⟩) rfl wq r ?_
   rw[p]at g5 ⊢;simp only[List.size_toArray,aU,og,List.length_drop,oh];omega
  .by_cases h0:len=0
   .subst h0
    have l:B.cells=[]:=dY aa
    refine rA (P:=P) (σ:=σ) (cells:=B.cells) (k0:=B.k) (b:=b) (olds:=[]) (ty:=ty) Q x R E Z F z g S H p V (by rw[l];rfl) (λW h1=>?_) (by rw[l];simp) aa D
    have:=run_loadCells (P:=P) W ⟨id,o,none⟩ 0 (λ_=>undef) (λj hj=>absurd hj (Nat.not_lt_zero j));simpa[Builtin.firstCells]using this
   .obtain rfl:=g3 aa
    obtain⟨olds,k1,k2,k3⟩:=Fv (P:=P) (cs:=B.cells) (off:=0) L (λi q Y=>by rw[gX];exact n4 i q Y)
    exact rA (P:=P) (σ:=σ) (cells:=B.cells) (k0:=B.k) (b:=b) (olds:=olds) (ty:=ty) Q x R E Z F z g S H p V k2 (λW h1=>by simp only[Builtin.firstCells];rw[<-V];exact k1 W h1) k3 aa D
end
end Ab
namespace Ab
open Go
variable{P:Program}
section
variable{a:Act}{ρ:Operand->Value}{r:Rf->AV}{w:World}{C:Ctx}{R:Operand->Rf->Bool}{ce:CE}{σ:List al}{nl:Nat}{ps:List cQ}
def Bv{a b:Option Nat}(h:tX a b=true):a=b:=by
 cases a<;>cases b<;>simp[tX]at h<;>simp[h]
variable{k:Option Nat}
def sF{T p e:TypeId}(s:aT P T=some e) (h : (aT P p).isSome=true) (x:bF P e k=true){ty:TypeId}{X:AV}{r vs:Value}{cs:List AV}(y:Good C w)
  (i:∀b u B,C.lim b u->upto σ b u=some B->∃id,C.own b u=some (B,id)) (d:aP σ k X=some (0,cs)) (z:VR C w.heap X r) (A:∃a l c,vs = .slice a l c/\l<=c) :
  (Builtin.append_ #[T,p] ty #[vs,r]).run P w = .ok vs w:=by
 obtain⟨base,l,c,rfl,D⟩:=A;obtain⟨g,⟨q,m,j⟩,E,F,G,n⟩:=rr (P:=P) d y i z;have o:g=[]:=dY aa
 subst o;have:=Fw (P:=P) (w:=w) (w' :=w) (ty:=ty) (base:=base) (len:=l) (cap:=c) s h x j (E w rfl) aa (λb _=>rfl) (λ_=>rfl)
 simpa using this
def YL{o:Oper}{ca:Call}{s x:Operand}{t t' e:TypeId}{s' x' : Rf}{z:AV}{p:Option cQ}(ho:o.op = .call ca) (hc:ca.callee = .builtin .append) (ha:ca.args.toList=[s,x]) (l8:ca.argTypes.toList=[t,t'])
  (ht:aT P t=some e) (om : (aT P t').isSome=true) (hk:bF P e k=true) (vy:fJ P e=true) (hz:cX P e=true) (hg:Good C w)
  (jV:∀b u B,C.lim b u->upto σ b u=some B->∃id,C.own b u=some (B,id)) (hb:∀u,¬C.lim nl u)
  (YM:∀b u B cs,upto σ b u=some B->p=some (.grow b cs)->oW b ps=false->(∀n,u<n->¬C.lim b n)/\∀u' B' id', C.own b u' = some (B', id')->u' = u)
  (hs:VR C w.heap (r s') (a.eval s)) (hx:VR C w.heap (r x') (a.eval x)) (he:ev ce σ nl ps r (.app s' x' k)=some (z,p)):bI P o a w (iZ nl C w z p):=by
 simp only[ev]at he;cases ga:aP σ k (r x')with
 |none=>simp[ga]at he
 |some YN=>
  obtain⟨n,cs⟩:=YN;simp only[ga]at he;cases j8 : r s' <;>simp only[j8]at he<;>try(simp at he;done)
  .-- nil
   rw[j8]at hs;have hv:a.eval s = .slice none 0 0:=hs
   by_cases hn:n=0
   .subst hn
    simp at he;obtain⟨rfl,rfl⟩:=he;refine kj ho hc ha l8 (sF ht om hk hg jV ga hx ⟨none,0,0,hv,bd 0⟩) ?_;exact(dg.same hg (by rw[hv];exact rfl)).e
   .have l9 : (n==0)=false:=by simpa using hn
    simp only[l9, ef,eI]at he;split at he
    case isFalse=>simp at he
    rename_i oX;simp only[bT,Prod.mk.injEq]at he;obtain⟨rfl,rfl⟩:=he;obtain⟨v,w', id', h1,h2,h3,h4⟩:=rA (P:=P) (σ:=σ) (cells:=[]) (k0:=k) (b:=nl) (len:=0) (cap:=0) (base:=none) (olds:=[]) (ty:=o.type) ht om hk vy hz hg jV ga hx (hb _) rfl ab rfl (λw1 _=>by simp[Builtin.firstCells]) ab aa aa
    rw[<-hv]at h1;simp only[mQ,gX]at h2 h3 h4;exact kj ho hc ha l8 h1 ⟨_,h2,h3,h4,id', rfl,rfl⟩
  .-- an empty slice Xk room
   rw[j8]at hs;have wv:=hs;unfold VR at hs;obtain⟨a0,hv⟩:=hs
   by_cases hn:n=0
   .subst hn
    simp at he;obtain⟨rfl,rfl⟩:=he;refine kj ho hc ha l8 (sF ht om hk hg jV ga hx ⟨_,_,_,hv,bd 0⟩) ?_;exact(dg.same hg wv).e
   .have l9 : (n==0)=false:=by simpa using hn
    simp only[l9, ef,eI]at he;split at he
    case isFalse=>simp at he
    rename_i oX;simp only[bT,Prod.mk.injEq]at he;obtain⟨rfl,rfl⟩:=he;obtain⟨olds,_,k1,k2,k3,k4⟩:=rr (P:=P) (σ:=σ) (k:=k) (X:=.emp) (v:=a.eval s) (n:=0) (cs:=[]) (by simp[aP]) hg jV wv
    rw[hv]at k1;obtain⟨v,w', id', h1,h2,h3,h4⟩:=rA (P:=P) (σ:=σ) (cells:=[]) (k0:=k) (b:=nl) (len:=0) (cap:=0) (base:=a0) (olds:=olds) (ty:=o.type) ht om hk vy hz hg jV ga hx (hb _) rfl k2 k3 k1 k4 aa aa
    rw[<-hv]at h1;simp only[mQ,gX]at h2 h3 h4;exact kj ho hc ha l8 h1 ⟨_,h2,h3,h4,id', rfl,rfl⟩
  .-- a literal
   rename_i l;rw[j8]at hs;have wv:=hs;unfold VR at hs;obtain⟨aq,off,st,c,el,fz,hv,hI,hH,hl⟩:=hs
   by_cases hn:n=0
   .subst hn
    simp at he;obtain⟨rfl,rfl⟩:=he;refine kj ho hc ha l8 (sF ht om hk hg jV ga hx ⟨_,_,_,hv,bd _⟩) ?_;refine(dg.same hg ?_).e;split
    .rename_i Me
     unfold VR;exact⟨Me,.inr ⟨aq,off,l.length,st,c,el,fz,hv,bd _,hI,hH,hl⟩⟩
    .exact wv
   .have l9 : (n==0)=false:=by simpa using hn
    simp only[l9, ef,eI]at he;split at he
    case isFalse=>simp at he
    rename_i gY;simp only[aH,eo]at gY;simp only[bT,Prod.mk.injEq]at he;obtain⟨rfl,rfl⟩:=he;obtain⟨olds,_,k1,k2,k3,k4⟩:=rr (P:=P) (σ:=σ) (k:=k) (X:=.arr l) (v:=a.eval s) (n:=l.length) (cs:=l.flatMap AV.cells) (by simp only[aP,gY.1,dD]) hg jV wv
    rw[hv]at k1;obtain⟨v,w', id', h1,h2,h3,h4⟩:=rA (P:=P) (σ:=σ) (cells:=l.flatMap AV.cells) (k0:=k) (b:=nl) (olds:=olds) (ty:=o.type) ht om hk vy hz hg jV ga hx (hb _) rfl k2 k3 k1 k4 aa gY.2
    rw[<-hv]at h1;exact kj ho hc ha l8 h1 ⟨_,h2,h3,h4,id', rfl,rfl⟩
  .-- an owned slice
   rename_i b u off len;cases hu:upto σ b u with
   |none=>simp[hu]at he
   |some B=>
    simp only[hu]at he;split at he
    case isFalse=>simp at he
    rename_i gY;simp only[aH,cT,eo,Bool.not_eq_true']at gY;obtain⟨⟨⟨⟨rfl,qc⟩,oX⟩,YO⟩,sG⟩:=gY;have sG:=Bv sG;rw[j8]at hs;obtain⟨id,da⟩:=jV b u B (Bt hs) hu;have YP :=(hg.lV b u B id da).2.1
    by_cases hn:n=0
    .subst hn
     simp at he;obtain⟨rfl,rfl⟩:=he;have xS:∃a' l' c', a.eval s = .slice a' l' c' /\l' <=c' :=by
      unfold VR at hs;obtain⟨⟨q,c,e1,e2,_⟩,_⟩:=hs;exact⟨_,_,_,e1,e2⟩
     exact kj ho hc ha l8 (sF ht om hk hg jV ga hx xS) (dg.same hg hs).e
    .have l9 : (n==0)=false:=by simpa using hn
     simp only[l9, ef,eI]at he;split at he
     case isTrue=>simp at he
     rename_i xT;simp at xT;simp only[bT,Prod.mk.injEq]at he;obtain⟨rfl,rfl⟩:=he;subst YP;obtain⟨q1,q2⟩:=YM b _ B cs hu rfl YO;have cm:B.cells.length<(B.cells++cs).length:=by
      have:0<cs.length:=mR.2 xT;simp;omega
     obtain⟨v,w', id', h1,h2,h3,h4⟩:=Nj (P:=P) (σ:=σ) (ty:=o.type) ht om hk vy hz hg jV ga hx da qc (by rw[sG]) hs aa oX (yu hu) (q1 _ cm) q2
     have e1:B.cells.length+cs.length=(B.cells++cs).length:=ab
     rw[e1];exact kj ho hc ha l8 h1 ⟨_,h2,h3,h4,B,id,id', xT,da,rfl,rfl⟩
end
end Ab
set_option linter.all false
namespace Ab
open Go
variable{P:Program}
def kl (σ:List al) (ids:Nat->Nat) (I:Nat->Prop) (w:World) (x:AV) (b : List al) (v:Value) (w' : World):Prop:=
 ∃a d, Good (af b a d) w' /\Step (af σ ids I) w (af b a d) w' /\VR (af b a d) w'.heap x v
def Nk{c:Array Value}{off:Nat}{vals:List Value}(a:off+vals.length<=c.size) :
  (c.toList.take off++vals++c.toList.drop (off+vals.length)).toArray.size=c.size/\∀i,(c.toList.take off++vals++c.toList.drop (off+vals.length)).toArray[i]? = if off<=i/\i<off+vals.length then vals[i-off]? else c[i]?:=by
 refine⟨ax,λi=>?_⟩
 simp only[List.getElem?_toArray]
 by_cases b:i<off
 .rw[ad aa,gZ,eJ ax,List.getElem?_take_of_lt b];simp
 .by_cases d:i<off+vals.length
  .rw[ae ⟨aa,d⟩,eJ ax,gA ax]
   congr 1;simp;omega
  .rw[ad aa,gA ax,mP]
   simp
   congr 1;omega
section
variable{a:Act}{ρ:Operand->Value}{r:Rf->AV}{w:World}{C:Ctx}{R:Operand->Rf->Bool}{ce:CE}{σ:List al}{nl:Nat}{ps:List cQ}
variable{B:al}{b id:Nat}
def wz{off:Nat}{new:List AV}{c:Array Value}{el:TypeId}{vals:List Value}(n:Good C w) (A:C.own b B.cells.length=some (B,id)) (K:B.st = .live)
  (o:∀u' B' id', C.own b u' = some (B', id')->u' = B.cells.length) (S:w.heap[id]? = some (.cells c el (0,0))) (m:off+new.length<=B.cells.length) (xR:vals.length=new.length)
  (hv:∀(i:Nat) q,new[i]? = some q->∃y,vals[i]? = some y/\VR C w.heap q y/\y.oneCell' = true) :
  Good {C with own:=λd u' =>if d = b/\u' = B.cells.length then some (⟨B.k,putAt B.cells off new,B.st⟩,id)else C.own d u'} (w.setRow id (c.toList.take off++vals++c.toList.drop (off+vals.length)).toArray)/\
  Step C w {C with own:=λd u' =>if d = b/\u' = B.cells.length then some (⟨B.k,putAt B.cells off new,B.st⟩,id)else C.own d u'} (w.setRow id (c.toList.take off++vals++c.toList.drop (off+vals.length)).toArray):=by
 have D:owned C id:=⟨b,_,B,A,l7 K⟩;obtain⟨n1,c0,el0,T,n3,n4⟩:=n.live b _ B id A K;rw[S]at T;simp only[bT,lC]at T;obtain⟨rfl,rfl,_⟩:=T;obtain⟨hs,L⟩:=Nk (c:=c) (off:=off) (vals:=vals) aa
 generalize (c.toList.take off++vals++c.toList.drop (off+vals.length)).toArray=c' at *;obtain⟨pl,pg⟩:=sH B.cells new off m;obtain⟨_,_,M,U⟩:=n.lV b _ B id A;generalize G : ({C with own:=λd u' =>if d = b/\u' = B.cells.length then some (⟨B.k,putAt B.cells off new,B.st⟩,id)else C.own d u'}:Ctx)=N
 have j : ∀d u', N.own d u' = if d = b/\u' = B.cells.length then some (⟨B.k,putAt B.cells off new,B.st⟩,id)else C.own d u' :=λd u' =>by subst G; rfl
 have p : N.I=C.I:=by subst G; rfl
 have r : N.lim=C.lim:=by subst G; rfl
 have ev:=Ni (c' :=c') n D S hs N (λk h=>by rw[p];exact h) (λb u h=>by rw[r];exact h) (λd u' B' i Mf a =>by
  rw[j]at a
  by_cases e:d = b/\u' = B.cells.length
  .rw[ae e]at a
   simp at a; obtain⟨rfl,rfl⟩:=a;exact⟨B,by rw[e.1,e.2];exact A,rfl,rfl⟩
  .rw[ad e]at a
   exact⟨B', a, rfl,rfl⟩)
 have x:(w.setRow id c').heap[id]? = some (.cells c' el (0,0)):=setRow_heap w id c c' el (0,0) S;have l:∀d u' B' i,N.own d u' = some (B', i)->B'.st.jU=true->∃H z, C.own d H = some (z, i)/\z.st.jU=true:=by
  intro d u' B' i a g;rw[j]at a
  by_cases e:d = b/\u' = B.cells.length
  .rw[ae e]at a
   simp at a; obtain⟨rfl,rfl⟩:=a;exact⟨_,B,by rw[e.1];exact A,l7 K⟩
  .rw[ad e]at a
   exact⟨u', B', a, g⟩
 refine⟨⟨λk E=>by rw[od];rw[p]at E;exact n.I k E,λd u' B' i a =>?_,λd u' B' i a g =>?_,λb1 u1 B1 i1 b2 u2 B2 i2 k1 l1 k2 l2 V=>?_,λd u' B' i es a g =>?_⟩,
  ⟨ev,by rw[od];exact bd _,λk E W=>ki w id c' λe=>W (e▸D),λk E=>?_,λk E=>.inl (by rw[p]at E;exact E),rfl,⟨rfl,bd _⟩,rfl⟩⟩
 .rw[r]
  rw[j]at a
  by_cases e:d = b/\u' = B.cells.length
  .rw[ae e]at a
   simp at a; obtain⟨rfl,rfl⟩:=a;refine⟨by rw[e.1,e.2];exact(n.lV b _ B id A).1,by rw[e.2];exact pl.symm,λh=>?_,U⟩
   have h0:=M h;have:new=[]:=by
    have:new.length=0:=by rw[h0]at m;simp at m;simp[m]
    exact dY this
   have hz:(putAt B.cells off new).length=0:=by rw[pl,h0];rfl
   exact dY hz
  .rw[ad e]at a
   exact n.lV d u' B' i a
 .rw[p]
  rw[j]at a
  by_cases e:d = b/\u' = B.cells.length
  .rw[ae e]at a
   simp at a; obtain⟨rfl,rfl⟩:=a;refine⟨n1,c', el,x,by rw[hs];show(putAt B.cells off new).length<=_;omega,λi q F=>?_⟩
   have s : (putAt B.cells off new)[i]? = some q:=F;rw[pg]at s;rw[L]
   by_cases O:off<=i/\i<off+new.length
   .rw[ae O]at s
    obtain⟨y,P,Q,R⟩:=hv _ q s;exact⟨y,by rw[ae aa];exact P,VR.mono ev _ _ Q,R⟩
   .rw[ad O]at s
    obtain⟨y,P,Q,R⟩:=n4 i q s;exact⟨y,by rw[ad aa];exact P,VR.mono ev _ _ Q,R⟩
  .rw[ad e]at a
   obtain⟨j1,c1,X,j2,j3,j4⟩:=n.live d u' B' i a g
   by_cases F:i=id
   .subst F
    have J:d = b:=Decidable.byContradiction λh=>n.apart d u' B' i b _ B i a (l7 g) A (l7 K) h rfl;subst J;exact absurd ⟨rfl,o u' B' i a⟩ e
   .refine⟨j1,c1,X,by rw[ki w id c' F];exact j2,j3,λi' q hq=>?_⟩
    obtain⟨y,P,Q,R⟩:=j4 i' q hq;exact⟨y,P,VR.mono ev _ _ Q,R⟩
 .obtain⟨_,_,Y,Z⟩:=l b1 u1 B1 i1 k1 l1
  obtain⟨_,_,q3,q4⟩:=l b2 u2 B2 i2 k2 l2;exact n.apart _ _ _ _ _ _ _ _ Y Z q3 q4 V
 .rw[j]at a
  by_cases e:d = b/\u' = B.cells.length
  .rw[ae e]at a
   simp at a; obtain⟨rfl,rfl⟩:=a;rw[show(⟨B.k,putAt B.cells off new,B.st⟩:al).st=B.st from rfl,K]at g;simp at g
  .rw[ad e]at a
   have F:i ≠ id:=λF=>by
    subst F;have J:d = b:=Decidable.byContradiction λh=>n.apart d u' B' i b _ B i a (l0 g) A (l7 K) h rfl;subst J;exact e ⟨rfl,o u' B' i a⟩
   exact n.df ev a g (ki w id c' F) (by rw[p];exact(n.maps d u' B' i es a g).1)
 .obtain⟨d, u', B', a, g⟩:=E
  obtain⟨H, z, Y,Z⟩:=l d u' B' k a g;exact .inl ⟨d, H, z, Y,Z⟩
variable{es xU: List (AV×AV)}{l l': Array MapEntry}
def Nl{clock clock' : Nat}(x:Good C w) (G:C.own b 0=some (B,id)) (K:B.st = .map es)
  (A:∀u' B' id', C.own b u' = some (B', id')->u' = 0) (P:w.heap[id]? = some (.map l clock)) (Z:MR C w.heap xU l'.toList) :
  Good {C with own:=λd u' =>if d = b/\u' = 0 then some (⟨B.k,B.cells,.map xU⟩,id)else C.own d u'} {w with heap:=w.heap.setIfInBounds id (.map l' clock')}/\
  Step C w {C with own:=λd u' =>if d = b/\u' = 0 then some (⟨B.k,B.cells,.map xU⟩,id)else C.own d u'} {w with heap:=w.heap.setIfInBounds id (.map l' clock')}:=by
 have L:owned C id:=⟨b,_,B,G,l0 K⟩;obtain⟨Y,_⟩:=x.maps b _ B id es G K;obtain⟨M,m⟩:=Go.MapKept.heap_set (o' :=.map l' clock') P;have N:(w.heap.setIfInBounds id (.map l' clock')).size=w.heap.size:=ab
 generalize w.heap.setIfInBounds id (.map l' clock')=H at *;obtain⟨e1,e2,_,_⟩:=x.lV b _ B id G;generalize D : ({C with own:=λd u' =>if d = b/\u' = 0 then some (⟨B.k,B.cells,.map xU⟩,id)else C.own d u'}:Ctx)=O
 have j : ∀d u', O.own d u' = if d = b/\u' = 0 then some (⟨B.k,B.cells,.map xU⟩,id)else C.own d u' :=λd u' =>by subst D; rfl
 have o : O.I=C.I:=by subst D; rfl
 have p : O.lim=C.lim:=by subst D; rfl
 have E:∀k,C.I k->H[k]? = w.heap[k]?:=λk s=>m k λe=>Y (e▸s);have ev:fZ C w.heap O H :=by
  refine⟨λk h=>by rw[o];exact h,E,λb u h=>by rw[p];exact h,λd u' B' i Mf a =>?_⟩
  rw[j]at a
  by_cases e:d = b/\u' = 0
  .rw[ae e]at a
   simp at a; obtain⟨rfl,rfl⟩:=a;refine⟨B,by rw[e.1,e.2];exact G,by rw[K];rfl,rfl,λc el J=>?_⟩
   rw[P]at J;simp at J
  .rw[ad e]at a
   refine⟨B', a, rfl,rfl,λc el J=>⟨c,?_,rfl⟩⟩;have r:i ≠ id:=λr=>by subst r;rw[P]at J;simp at J
   rw[m i r];exact J
 have n:∀d u' B' i,O.own d u' = some (B', i)->B'.st.jU=true->∃F z, C.own d F = some (z, i)/\z.st.jU=true:=by
  intro d u' B' i a g;rw[j]at a
  by_cases e:d = b/\u' = 0
  .rw[ae e]at a
   simp at a; obtain⟨rfl,rfl⟩:=a;exact⟨_,B,by rw[e.1];exact G,l0 K⟩
  .rw[ad e]at a
   exact⟨u', B', a, g⟩
 refine⟨⟨λk s=>by show k<H.size;rw[N];rw[o]at s;exact x.I k s,λd u' B' i a =>?_,λd u' B' i a g =>?_,λb1 u1 B1 i1 b2 u2 B2 i2 k1 l1 k2 l2 Q=>?_,λd u' B' i R a g =>?_⟩,
  ⟨ev,by show w.heap.size<=H.size;rw[N];exact bd _,λk s S=>m k λe=>S (e▸L),λk s=>?_,λk s=>.inl (by rw[o]at s;exact s),rfl,⟨rfl,bd _⟩,rfl⟩⟩
 .rw[p]
  rw[j]at a
  by_cases e:d = b/\u' = 0
  .rw[ae e]at a
   simp at a; obtain⟨rfl,rfl⟩:=a;exact⟨by rw[e.1,e.2];exact e1,by rw[e.2];exact e2,λh=>eX,ab⟩
  .rw[ad e]at a
   exact x.lV d u' B' i a
 .rw[o]
  rw[j]at a
  by_cases e:d = b/\u' = 0
  .rw[ae e]at a
   simp at a; obtain⟨rfl,rfl⟩:=a;simp at g
  .rw[ad e]at a
   obtain⟨j1,c1,T,U,j3,j4⟩:=x.live d u' B' i a g;have r:i ≠ id:=λr=>by subst r;rw[P]at U;simp at U
   refine⟨j1,c1,T,by show H[i]? = _;rw[m i r];exact U,j3,λi' q hq=>?_⟩
   obtain⟨y,m1,m2,m3⟩:=j4 i' q hq;exact⟨y,m1,VR.mono ev _ _ m2,m3⟩
 .obtain⟨_,_,V,W⟩:=n b1 u1 B1 i1 k1 l1
  obtain⟨_,_,q3,q4⟩:=n b2 u2 B2 i2 k2 l2;exact x.apart _ _ _ _ _ _ _ _ V W q3 q4 Q
 .rw[j]at a
  by_cases e:d = b/\u' = 0
  .rw[ae e]at a
   simp at a; obtain⟨rfl,rfl⟩:=a;simp at g; subst g;exact⟨by rw[o];exact Y,l', clock', M,Z.mono ev⟩
  .rw[ad e]at a
   have r:i ≠ id:=λr=>by
    subst r;have X:d = b:=Decidable.byContradiction λh=>x.apart d u' B' i b _ B i a (l0 g) G (l0 K) h rfl;subst X;exact e ⟨rfl,A u' B' i a⟩
   exact x.df (w' :={w with heap:=H}) ev a g (m i r) (by rw[o];exact(x.maps d u' B' i R a g).1)
 .obtain⟨d, u', B', a, g⟩:=s
  obtain⟨F, z, V,W⟩:=n d u' B' k a g;exact .inl ⟨d, F, z, V,W⟩
variable{ids:Nat->Nat}{I:Nat->Prop}
def oo{u:Nat}(h:aq σ b=some B):∀u' B' id', (af σ ids I).own b u' = some (B', id')->u' = B.cells.length:=λu' B' id' a =>by
 simp only[af,h]at a;cases d:B.st<;>simp only[d]at a <;>first
  |(split at a <;>simp_all)
  |simp at a
def sI{u:Nat}(h:upto σ b u=some B):aq σ b=some B/\B.cells.length=u/\B.st ≠ .dead:=by
 unfold upto at h;cases d:aq σ b with
 |none=>simp[d]at h
 |some e =>
  simp only[d]at h;cases g:e.st<;>simp only[g]at h<;>first
   |(simp at h;done)
   |(by_cases a:e.cells.length=u
     .simp[a]at h;subst h;exact⟨rfl,a,by rw[g];simp⟩
     .simp[a]at h)
def yw{b a : Nat}(h:b<σ.length):aq (ar σ b B) a = if a = b then some B else aq σ a :=by
 rw[dt,YQ,dt,List.getElem?_set]
 by_cases e:a = b
 .subst e;simp[h]
 .rw[ad (λd =>e d.symm),ad e]
variable{B': al}
def qd{B: al}{id' : Nat}(l:aq σ b=some B) (g:B'.st ≠ .dead):∀b1 d e,(af (ar σ b B') (λq=>if q=b then id' else ids q) I).own b1 d=some e->
  (if b1=b/\d=B'.cells.length then some (B', id')else(af σ ids I).own b1 d)=some e:=λb1 d e h=>by
 have i:b<σ.length:=by rw[dt]at l;exact(dC.1 l).1
 simp only[af,yw i]at h ⊢
 by_cases j:b1=b
 .subst j
  simp only[dD]at h;cases m:B'.st with
  |dead=>exact absurd m g
  |gN=>
   by_cases a:B'.cells.length=d
   .simp only[a,dD]at h
    rw[ae ⟨rfl,a.symm⟩];exact h
   .simp[a]at h
  |live=>
   by_cases a:B'.cells.length=d
   .simp only[a,dD]at h
    rw[ae ⟨rfl,a.symm⟩];exact h
   .simp[a]at h
  |map es=>
   by_cases a:B'.cells.length=d
   .simp only[a,dD]at h
    rw[ae ⟨rfl,a.symm⟩];exact h
   .simp[a]at h
 .rw[ad (λn =>j n.1)]
  simp only[ad j]at h;exact h
def qf{ids a : Nat->Nat}{B: al}(e:aq σ b=some B) (hle:B.cells.length<=B'.cells.length):∀b1 g,(af σ ids I).lim b1 g->(af (ar σ b B') a I).lim b1 g:=λb1 g ⟨j,d,l⟩=>by
 have h:b<σ.length:=by rw[dt]at e;exact(dC.1 e).1
 simp only[af,yw h]
 by_cases i:b1=b
 .subst i
  rw[e]at d;simp at d;subst d;exact⟨B', by simp,aa⟩
 .exact⟨j,by rw[ad i];exact d,l⟩
variable{o:Oper}{t:TypeId}{x:Operand}{x': Rf}{z:AV}{cR: List al}
def Nn{p:Operand}{p': Rf}{n:Nat}(ho:o.op = .store t p x) (hn:cD P t n=true) (hg:Good (af σ ids I) w)
  (hp:VR (af σ ids I) w.heap (r p') (a.eval p)) (hx:VR (af σ ids I) w.heap (r x') (a.eval x)) (he:gf ce σ r (.st p' x' n)=some (z,cR)):bI P o a w (kl σ ids I w z cR):=by
 simp only[gf]at he;cases hp' : r p' <;>simp only[hp']at he<;>try(simp at he;done)
 rename_i b u off;cases hu:upto σ b u with
 |none=>simp[hu]at he
 |some B=>
  simp only[hu]at he;split at he
  case isFalse=>simp at he
  rename_i hc;simp only[aH,cT,eo]at hc;obtain⟨⟨⟨c1,c2⟩,c3⟩,c4⟩:=hc;simp only[bT,Prod.mk.injEq]at he;obtain⟨rfl,rfl⟩:=he;obtain⟨hb,qc,qS⟩:=sI hu;have hs:B.st = .live:=by revert c3;cases B.st<;>simp[fb.isLive]
  have da:=nX ids I hu;subst qc;rw[hp']at hp;unfold VR at hp;have e:=hp.2.2 B _ da hs;obtain⟨_,c,el,hH,hle,oY⟩:=hg.live b _ B _ da hs;have Fx:=Bm c4;have Mc:=VR.size Fx hx;have hv:=Fq Fx hx;obtain⟨g1,g2⟩:=wz (vals:=(a.eval x).cells.toList) (new:=(r x').cells) (off:=off) hg da hs (oo (u:=0) hb) hH aa (by simpa using Mc) (λi q hi=>by
   obtain⟨y,k1,k2,k3⟩:=hv i q hi;exact⟨y,by rw[ja];exact k1,k2,k3⟩)
  obtain⟨pl,_⟩:=sH B.cells (r x').cells off aa
  have iK:=qd (ids:=ids) (I:=I) (id' :=ids b) (B' :=⟨B.k,putAt B.cells off (r x').cells,B.st⟩) hb qS;have oZ:(λq=>if q=b then ids b else ids q)=ids:=km
  rw[oZ]at iK;obtain⟨f1,f2⟩:=Good.shrink (C2:=af (ar σ b ⟨B.k,putAt B.cells off (r x').cells,B.st⟩) ids I) g1 rfl (λb1 u1 e1 h1=>by
   have:=iK b1 u1 e1 h1;simp only[pl]at this;exact this) (λb1 u1 h1=>qf (ids:=ids) (I:=I) hb (by show _<=(putAt B.cells off (r x').cells).length;omega) b1 u1 h1)
  have sJ:∀v∈(a.eval x).cells.toList,v.oneCell' = true:=(VR.cells Fx hx).2;have lD:=run_storeCells_at P (ids b) off el (a.eval x).cells.toList 0 c w hH ax sJ
  refine bI.skip (w' :=w.setRow (ids b) (c.toList.take off++(a.eval x).cells.toList++c.toList.drop (off+(a.eval x).cells.toList.length)).toArray) ?_ ⟨ids,I,f1,g2.trans f2,by unfold VR;trivial⟩
  have YR:=lu hn w;simp only[execOp,ho,Instr.storeAt,e,Instr.sureAddr,storeVar,aW,bw,aZ,YR];rw[ad (by rw[Mc,c1];simp)]
  simp only[kf]at lD;rw[lD]
  rfl
variable{kt:TypeId}{m k:Operand}{m' k': Rf}{kd:Nat}
def No{e:TypeId}(ho:o.op = .mapUpdate t m k x\/o.op = .insert t m k x) (ht:P.underlying t=some (.map kt e)) (hk:dL P kt kd=true) (hg:Good (af σ ids I) w)
  (Np:VR (af σ ids I) w.heap (r m') (a.eval m)) (tY:VR (af σ ids I) w.heap (r k') (a.eval k)) (hx:VR (af σ ids I) w.heap (r x') (a.eval x)) (he:gf ce σ r (.vz m' kd k' x')=some (z,cR)):bI P o a w (kl σ ids I w z cR):=by
 simp only[gf]at he;cases tZ : r m' <;>simp only[tZ]at he<;>try(simp at he;done)
 rename_i b;rw[tZ]at Np;cases hm:fc σ b with
 |none=>simp[hm]at he
 |some es=>
  simp only[hm]at he;split at he
  case isFalse=>simp at he
  rename_i hf;simp only[aH]at hf;cases hq:cL es (r k')with
  |none=>simp[hq]at he
  |some q=>
   cases q with
   |some _=>simp[hq]at he
   |none=>
    simp only[hq,bT,Prod.mk.injEq]at he;obtain⟨rfl,rfl⟩:=he;obtain⟨id,l,c,e1,hH,hM,B,hB,hs⟩:=Bw hg (λb u B _ hu=>⟨_,sK ids I hu⟩) hm Np;obtain⟨q', h1,h2⟩:=Fy hk hf.1 tY w hM hq;cases q' with
    |some _=>exact h2.elim
    |none=>
     have hc:=Fz hk hf.1 tY w false;obtain⟨hb,rfl⟩:=yx hB;have hu0:=oo (ids:=ids) (I:=I) (u:=0) hb 0 B _ hB;have Nq : MR (af σ ids I) w.heap (es ++ [(r k', r x')]) (l.push {key:=a.eval k,val:=a.eval x,born:=c}).toList:=by
      rw[Array.toList_push];exact hM.push (Nr hf.1) tY hx
     obtain⟨g1,g2⟩:=Nl (l' :=l.push {key:=a.eval k,val:=a.eval x,born:=c}) (clock' :=c+1) hg hB hs (λu' B' id' h=>by
      have:=oo (ids:=ids) (I:=I) (u:=0) hb u' B' id' h;omega) hH Nq
     have iK:=qd (ids:=ids) (I:=I) (id' :=ids b) (B' :=⟨B.k,B.cells,.map (es ++ [(r k', r x')])⟩) hb ab
     have oZ:(λq=>if q=b then ids b else ids q)=ids:=km
     rw[oZ]at iK;have YS:o5 σ b (es ++ [(r k', r x')])=ar σ b ⟨B.k,B.cells,.map (es ++ [(r k', r x')])⟩:=by simp only[o5,hb]
     rw[YS];obtain⟨f1,f2⟩:=Good.shrink (C2:=af (ar σ b ⟨B.k,B.cells,.map (es ++ [(r k', r x')])⟩) ids I) g1 rfl (λb1 u1 e1 h1=>by
      have:=iK b1 u1 e1 h1;simp only[<-hu0]at this;exact this) (λb1 u1 h1=>qf (ids:=ids) (I:=I) hb (by show _<=B.cells.length;omega) b1 u1 h1)
     refine bI.skip (w' :={w with heap:=w.heap.setIfInBounds (ids b) (.map (l.push {key:=a.eval k,val:=a.eval x,born:=c}) (c+1))}) ?_ ⟨ids,I,f1,g2.trans f2,by unfold VR;trivial⟩
     have dU:(Instr.mapUpdate t (a.eval m) (a.eval k) (a.eval x)).run P w = .ok () {w with heap:=w.heap.setIfInBounds (ids b) (.map (l.push {key:=a.eval k,val:=a.eval x,born:=c}) (c+1))}:=by
      rw[e1];simp only[Instr.mapUpdate,aW,run_underlying ht,aZ,wA hH,hc,h1,Go.MapKept.run_setObj_map _ hH]
     rcases ho with ho|ho
     .simp only[execOp,ho,aW,dU,aZ,bw]
     .simp only[execOp,ho,aW,dU,aZ,bw]
def Ns{c c' : Nat}(o:Good (af σ ids I) w) (d:aq σ b=some B) (n:(af σ ids I).own b 0=some (B,ids b)) (p:B.st = .map es)
  (r:w.heap[ids b]? = some (.map l c)) (s:MR (af σ ids I) w.heap xU l'.toList) :
  Good (af (o5 σ b xU) ids I) {w with heap:=w.heap.setIfInBounds (ids b) (.map l' c')}/\Step (af σ ids I) w (af (o5 σ b xU) ids I) {w with heap:=w.heap.setIfInBounds (ids b) (.map l' c')}:=by
 have i:=oo (ids:=ids) (I:=I) (u:=0) d 0 B _ n;obtain⟨x,y⟩:=Nl (l' :=l') (clock' :=c') o n p (λz B' id' h=>by
  have:=oo (ids:=ids) (I:=I) (u:=0) d z B' id' h;omega) r s
 have a:=qd (ids:=ids) (I:=I) (id' :=ids b) (B' :=⟨B.k,B.cells,.map xU⟩) d ab
 have e:(λq=>if q=b then ids b else ids q)=ids:=km
 rw[e]at a;have g:o5 σ b xU = ar σ b ⟨B.k,B.cells,.map xU⟩:=by simp only[o5,d]
 rw[g];obtain⟨f1,A⟩:=Good.shrink (C2:=af (ar σ b ⟨B.k,B.cells,.map xU⟩) ids I) x rfl (λb1 j C m=>by
  have:=a b1 j C m;simp only[<-i]at this;exact this) (λb1 j m=>qf (ids:=ids) (I:=I) d (by show _<=B.cells.length;omega) b1 j m)
 exact⟨f1,y.trans A⟩
def Nt{e:TypeId}(ho:o.op = .mapUpdate t m k x\/o.op = .insert t m k x) (ht:P.underlying t=some (.map kt e)) (hk:dL P kt kd=true) (pS:kd<2) (hg:Good (af σ ids I) w)
  (Np:VR (af σ ids I) w.heap (r m') (a.eval m)) (tY:VR (af σ ids I) w.heap (r k') (a.eval k)) (hx:VR (af σ ids I) w.heap (r x') (a.eval x)) (he:gf ce σ r (.xV m' kd k' x')=some (z,cR)):bI P o a w (kl σ ids I w z cR):=by
 simp only[gf]at he;cases tZ : r m' <;>simp only[tZ]at he<;>try(simp at he;done)
 rename_i b;rw[tZ]at Np;cases hm:fc σ b with
 |none=>simp[hm]at he
 |some es=>
  simp only[hm]at he;split at he
  case isFalse=>simp at he
  rename_i hf;simp only[aH]at hf;have hc:=Fz hk hf.1 tY w false;obtain⟨id,l,c,e1,hH,hM,B,hB,hs⟩:=Bw hg (λb u B _ hu=>⟨_,sK ids I hu⟩) hm Np;obtain⟨hb,rfl⟩:=yx hB;have fin:∀{w'},(Instr.mapUpdate t (a.eval m) (a.eval k) (a.eval x)).run P w = .ok () w' ->kl σ ids I w .aO cR undef w' ->bI P o a w (kl σ ids I w .aO cR):=λdU hp=>by
   refine bI.skip ?_ hp;rcases ho with ho|ho
   .simp only[execOp,ho,aW,dU,aZ,bw]
   .simp only[execOp,ho,aW,dU,aZ,bw]
  cases hq:cL es (r k')with
  |none=>simp[hq]at he
  |some q=>
   cases q with
   |none=>
    simp only[hq,bT,Prod.mk.injEq]at he;obtain⟨rfl,rfl⟩:=he;obtain⟨q', h1,h2⟩:=Fy hk hf.1 tY w hM hq;cases q' with
    |some _=>exact h2.elim
    |none=>
     have Nq : MR (af σ ids I) w.heap (es ++ [(r k', r x')]) (l.push {key:=a.eval k,val:=a.eval x,born:=c}).toList:=by
      rw[Array.toList_push];exact hM.push (Nr hf.1) tY hx
     obtain⟨f1,f2⟩:=Ns (c' :=c+1) hg hb hB hs hH Nq;refine fin (w' :={w with heap:=w.heap.setIfInBounds (ids b) (.map (l.push {key:=a.eval k,val:=a.eval x,born:=c}) (c+1))}) ?_ ⟨ids,I,f1,f2,by unfold VR;trivial⟩
     rw[e1];simp only[Instr.mapUpdate,aW,run_underlying ht,aZ,wA hH,hc,h1,Go.MapKept.run_setObj_map _ hH]
   |some y=>
    simp only[hq,bT,Prod.mk.injEq]at he;obtain⟨rfl,rfl⟩:=he;obtain⟨j,en,h1,h2,h3,h4⟩:=YT hk pS hf.1 tY hx w hM hq;have Nq : MR (af σ ids I) w.heap (jf es (r k') (r x')) (l.modify j λe=>{e with key:=a.eval k,val:=a.eval x}).toList:=by
     have:(l.modify j λe=>{e with key:=a.eval k,val:=a.eval x}).toList=l.toList.set j {en with key:=a.eval k,val:=a.eval x}:=by
      rw[Array.toList_modify];apply List.ext_getElem?;intro i;rw[List.getElem?_modify,List.getElem?_set]
      by_cases hi:j=i
      .subst hi
       have cm:=(dC.1 h2).1;simp only[dD,h2,mS,ae cm]
       rfl
      .simp only[ad hi]
       cases l.toList[i]?<;>rfl
     rw[this];exact h4
    obtain⟨f1,f2⟩:=Ns (c' :=c) hg hb hB hs hH Nq;refine fin (w' :={w with heap:=w.heap.setIfInBounds (ids b) (.map (l.modify j λe=>{e with key:=a.eval k,val:=a.eval x}) c)}) ?_ ⟨ids,I,f1,f2,by unfold VR;trivial⟩
    have hj:l[j]? = some en:=by rw[<-Array.getElem?_toList];exact h2
    have gG:(Instr.keyThatStays (((l[j]?).map (·.key)).getD (a.eval k)) (a.eval k)).run P w = .ok (a.eval k) w:=by
     rw[hj];simp only[mS,Option.getD_some,h3];exact YU hk pS hf.1 tY w
    rw[e1];simp only[Instr.mapUpdate,aW,run_underlying ht,aZ,wA hH,hc,h1,gG,Go.MapKept.run_setObj_map _ hH]
end
end Ab
set_option linter.all false
namespace Ab
open Go
variable{P:Program}
section
variable{a:Act}{ρ:Operand->Value}{r:Rf->AV}{w:World}{C:Ctx}{R:Operand->Rf->Bool}{ce:CE}{σ:List al}{nl:Nat}{ps:List cQ}
variable{B:al}
def Nu{b:Nat}:aq (σ ++ [B]) b=if b=σ.length then some B else aq σ b:=by
 rw[dt,dt]
 by_cases e:b=σ.length
 .subst e;simp
 .rw[ad e]
  by_cases h:b<σ.length
  .rw[eJ h]
  .rw[gA aa,jg ax,jg aa]
variable{ids:Nat->Nat}{I:Nat->Prop}{id:Nat}
def Bx(g:B.st ≠ .dead):∀b u e,(af (σ ++ [B]) (λq=>if q=σ.length then id else ids q) I).own b u=some e->(ay (af σ ids I) σ.length B.cells.length (B,id)).own b u=some e:=λb u e h=>by
 simp only[af,ay,Nu]at h ⊢
 by_cases d:b=σ.length
 .simp only[d,dD]at h
  cases i:B.st with
  |dead=>exact absurd i g
  |gN=>
   by_cases a:B.cells.length=u
   .simp only[a,dD]at h
    rw[ae ⟨d,a.symm⟩];exact h
   .simp[a]at h
  |live=>
   by_cases a:B.cells.length=u
   .simp only[a,dD]at h
    rw[ae ⟨d,a.symm⟩];exact h
   .simp[a]at h
  |map es=>
   by_cases a:B.cells.length=u
   .simp only[a,dD]at h
    rw[ae ⟨d,a.symm⟩];exact h
   .simp[a]at h
 .rw[ad (λj =>d j.1)]
  simp only[ad d]at h;exact h
def By{ids a : Nat->Nat}:∀b u,(ay (af σ ids I) σ.length B.cells.length (B,id)).lim b u->(af (σ ++ [B]) a I).lim b u:=λb u h=>by
 simp only[af,ay,Nu]at h ⊢;rcases h with⟨rfl,rfl⟩|⟨g,d,i⟩
 .exact⟨B,ab,bd _⟩
 .have:b ≠ σ.length:=λe=>by
   rw[dt,jg aa]at d;simp at d
  exact⟨g,by rw[ad this];exact d,i⟩
def wC:∀u,¬(af σ ids I).lim σ.length u:=λu ⟨b,a,_⟩=>by
 rw[dt,jg aa]at a;simp at a
def YV{o:Oper}{ca:Call}{s x:Operand}{t t' e:TypeId}{s' x' : Rf}{k:Option Nat}{z:AV}{cR : List al}(ho:o.op = .call ca) (hc:ca.callee = .builtin .append) (ha:ca.args.toList=[s,x]) (l8:ca.argTypes.toList=[t,t'])
  (ht:aT P t=some e) (om : (aT P t').isSome=true) (hk:bF P e k=true) (vy:fJ P e=true) (hz:cX P e=true) (hg:Good (af σ ids I) w)
  (hs:VR (af σ ids I) w.heap (r s') (a.eval s)) (hx:VR (af σ ids I) w.heap (r x') (a.eval x)) (he:gf ce σ r (.cp s' x' k)=some (z,cR)):bI P o a w (kl σ ids I w z cR):=by
 have jV:∀b u B,(af σ ids I).lim b u->upto σ b u=some B->∃id,(af σ ids I).own b u=some (B,id):=λb u B _ h=>⟨_,nX ids I h⟩
 -- a new block at the YW end
 have FA:∀(B:al) (x1:AV) v w' id', B.st = .live->Good (ay (af σ ids I) σ.length B.cells.length (B,id')) w' ->Step (af σ ids I) w (ay (af σ ids I) σ.length B.cells.length (B,id')) w' ->
   VR (ay (af σ ids I) σ.length B.cells.length (B,id')) w'.heap x1 v->kl σ ids I w x1 (σ ++ [B]) v w' :=λB x1 v w' id' gG h2 h3 h4=>by
  obtain⟨f1,f2⟩:=Good.shrink (C2:=af (σ ++ [B]) (λq=>if q=σ.length then id' else ids q) I) h2 rfl (Bx (by rw[gG];simp)) By
  exact⟨_,I,f1,h3.trans f2,VR.mono f2.ev _ _ h4⟩
 simp only[gf]at he;cases ga:aP σ k (r x')with
 |none=>simp[ga]at he
 |some YN=>
  obtain⟨n,cs⟩:=YN;simp only[ga]at he;cases j8 : r s' <;>simp only[j8]at he<;>try(simp at he;done)
  .rw[j8]at hs
   have hv:a.eval s = .slice none 0 0:=hs
   by_cases hn:n=0
   .subst hn
    simp at he;obtain⟨rfl,rfl⟩:=he;exact kj ho hc ha l8 (sF ht om hk hg jV ga hx ⟨none,0,0,hv,bd 0⟩) ⟨ids,I,hg,Step.refl _ _,by rw[hv];exact rfl⟩
   .have l9 : (n==0)=false:=by simpa using hn
    simp only[l9, ef,eI]at he;split at he
    case isFalse=>simp at he
    rename_i oX;simp only[bT,Prod.mk.injEq]at he;obtain⟨rfl,rfl⟩:=he;obtain⟨v,w', id', h1,h2,h3,h4⟩:=rA (P:=P) (σ:=σ) (cells:=[]) (k0:=k) (b:=σ.length) (len:=0) (cap:=0) (base:=none) (olds:=[]) (ty:=o.type) ht om hk vy hz hg jV ga hx (wC _) rfl ab rfl (λw1 _=>by simp[Builtin.firstCells]) ab aa aa
    rw[<-hv]at h1;simp only[mQ,gX]at h2 h3 h4;exact kj ho hc ha l8 h1 (FA ⟨k,cs,.live⟩ _ _ _ id' rfl h2 h3 h4)
  .rw[j8]at hs
   have wv:=hs;unfold VR at hs;obtain⟨a0,hv⟩:=hs
   by_cases hn:n=0
   .subst hn
    simp at he;obtain⟨rfl,rfl⟩:=he;exact kj ho hc ha l8 (sF ht om hk hg jV ga hx ⟨_,_,_,hv,bd 0⟩) ⟨ids,I,hg,Step.refl _ _,wv⟩
   .have l9 : (n==0)=false:=by simpa using hn
    simp only[l9, ef,eI]at he;split at he
    case isFalse=>simp at he
    rename_i oX;simp only[bT,Prod.mk.injEq]at he;obtain⟨rfl,rfl⟩:=he;obtain⟨olds,_,k1,k2,k3,k4⟩:=rr (P:=P) (σ:=σ) (k:=k) (X:=.emp) (v:=a.eval s) (n:=0) (cs:=[]) (by simp[aP]) hg jV wv
    rw[hv]at k1;obtain⟨v,w', id', h1,h2,h3,h4⟩:=rA (P:=P) (σ:=σ) (cells:=[]) (k0:=k) (b:=σ.length) (len:=0) (cap:=0) (base:=a0) (olds:=olds) (ty:=o.type) ht om hk vy hz hg jV ga hx (wC _) rfl k2 k3 k1 k4 aa aa
    rw[<-hv]at h1;simp only[mQ,gX]at h2 h3 h4;exact kj ho hc ha l8 h1 (FA ⟨k,cs,.live⟩ _ _ _ id' rfl h2 h3 h4)
  .rename_i l
   rw[j8]at hs;have wv:=hs;unfold VR at hs;obtain⟨YX, off,st,c,el,fz,hv,hI,hH,hl⟩:=hs
   by_cases hn:n=0
   .subst hn
    simp at he;obtain⟨rfl,rfl⟩:=he;refine kj ho hc ha l8 (sF ht om hk hg jV ga hx ⟨_,_,_,hv,bd _⟩) ⟨ids,I,hg,Step.refl _ _,?_⟩;split
    .rename_i Me
     unfold VR;exact⟨Me,.inr ⟨YX, off,l.length,st,c,el,fz,hv,bd _,hI,hH,hl⟩⟩
    .exact wv
   .have l9 : (n==0)=false:=by simpa using hn
    simp only[l9, ef,eI]at he;split at he
    case isFalse=>simp at he
    rename_i gY;simp only[aH,eo]at gY;simp only[bT,Prod.mk.injEq]at he;obtain⟨rfl,rfl⟩:=he;obtain⟨olds,_,k1,k2,k3,k4⟩:=rr (P:=P) (σ:=σ) (k:=k) (X:=.arr l) (v:=a.eval s) (n:=l.length) (cs:=l.flatMap AV.cells) (by simp only[aP,gY.1,dD]) hg jV wv
    rw[hv]at k1;obtain⟨v,w', id', h1,h2,h3,h4⟩:=rA (P:=P) (σ:=σ) (cells:=l.flatMap AV.cells) (k0:=k) (b:=σ.length) (olds:=olds) (ty:=o.type) ht om hk vy hz hg jV ga hx (wC _) rfl k2 k3 k1 k4 aa gY.2
    rw[<-hv]at h1;exact kj ho hc ha l8 h1 (FA ⟨k,l.flatMap AV.cells++cs,.live⟩ _ _ _ id' rfl h2 h3 h4)
  .rename_i b u off len
   cases hu:upto σ b u with
   |none=>simp[hu]at he
   |some B=>
    simp only[hu]at he;split at he
    case isFalse=>simp at he
    rename_i gY;simp only[aH,cT,eo]at gY;obtain⟨⟨rfl,oX⟩,sG⟩:=gY;have sG:=Bv sG;obtain⟨hb,qc,qS⟩:=sI hu;have da:=nX ids I hu;subst qc;rw[j8]at hs
    by_cases hn:n=0
    .subst hn
     simp at he;obtain⟨rfl,rfl⟩:=he;have xS:∃a' l' c', a.eval s = .slice a' l' c' /\l' <=c' :=by
      unfold VR at hs;obtain⟨⟨q,c,e1,e2,_⟩,_⟩:=hs;exact⟨_,_,_,e1,e2⟩
     exact kj ho hc ha l8 (sF ht om hk hg jV ga hx xS) ⟨ids,I,hg,Step.refl _ _,hs⟩
    .have l9 : (n==0)=false:=by simpa using hn
     simp only[l9, ef,eI]at he;split at he
     case isTrue=>simp at he
     rename_i xT;simp at xT;have aqe : 0<cs.length:=mR.2 xT;split at he
     .rename_i qc
      simp only[cT]at qc;simp only[bT,Prod.mk.injEq]at he;obtain⟨rfl,rfl⟩:=he;obtain⟨v,w', id', h1,h2,h3,h4⟩:=Nj (P:=P) (σ:=σ) (ty:=o.type) ht om hk vy hz hg jV ga hx da qc (by rw[sG]) hs aa oX (yu hu) (λ⟨B1,q1,q2⟩=>by rw[hb]at q1;simp at q1;subst q1;simp at q2;omega) (oo (u:=0) hb)
      have iK:=qd (ids:=ids) (I:=I) (id' :=id') (B' :=⟨B.k,B.cells++cs,.live⟩) hb ab
      obtain⟨f1,f2⟩:=Good.shrink (C2:=af (ar σ b ⟨B.k,B.cells++cs,.live⟩) (λq=>if q=b then id' else ids q) I) h2 rfl (λb1 u1 e1 h1=>iK b1 u1 e1 h1) (λb1 u1 h1=>by
       rcases h1 with⟨e1,e2⟩|h1
       .have cm:b<σ.length:=by rw[dt]at hb;exact(dC.1 hb).1
        exact⟨⟨B.k,B.cells++cs,.live⟩,by rw[yw cm,ae e1],by rw[e2];exact bd _⟩
       .exact qf (ids:=ids) (I:=I) hb (by show _<=(B.cells++cs).length;simp) b1 u1 h1)
      have e1:B.cells.length+cs.length=(B.cells++cs).length:=ab
      rw[e1];exact kj ho hc ha l8 h1 ⟨_,I,f1,h3.trans f2,VR.mono f2.ev _ _ h4⟩
     .split at he
      case isFalse=>simp at he
      rename_i hle;simp only[bT,Prod.mk.injEq]at he;obtain⟨rfl,rfl⟩:=he;obtain⟨vals,⟨q,m,YK⟩,hf,ss,xR,En⟩:=rr (P:=P) ga hg jV hx;have FB:len*aM k+cs.length<=B.cells.length:=by rw[ss,<-Nat.add_mul];exact hle
      obtain⟨_,_,YY,_⟩:=hg.lV b _ B _ da;have jM:B.st = .live:=by
       cases gG:B.st with
       |dead=>exact absurd gG qS
       |map es=>have:=yu hu;rw[gG]at this;simp[fb.je]at this
       |live=>rfl
       |gN=>
        have h0:B.cells.length=0:=by rw[YY gG];rfl
        omega
      have Bz:=hs;unfold VR at Bz;have Bz:=Bz.2.2 B _ da;simp only[jM]at Bz;obtain⟨c,el,o', cap,g1,hv,g3,g4,g5⟩:=Bz;obtain⟨_,c', AM, n2,n3,n4⟩:=hg.live b _ B _ da jM;rw[g1]at n2;simp only[bT,lC]at n2;obtain⟨rfl,rfl,_⟩:=n2;rw[sG]at g5;have Ft:0<aM k:=Nat.pos_of_ne_zero λh=>by rw[h,Nat.mul_zero]at ss;omega
      have yy:len+n<=cap:=by
       have:(len+n)*aM k<=cap*aM k:=aa
       exact Nat.le_of_mul_le_mul_right this Ft
      have YZ:0<cap:=aa
      have YJ:=g3 YZ;subst YJ;have sJ:∀v∈vals,v.oneCell' = true:=λv hv=>by
       obtain⟨i,hi⟩:=List.getElem?_of_mem hv;have cm:=(dC.1 hi).1;obtain⟨y,m1,m2,m3⟩:=En i cs[i] (db aa)
       rw[hi]at m1;simp at m1;subst m1;exact m3
      have lD:=run_storeCells_at P (ids b) (len*aM k) el vals 0 c w g1 aa sJ
      have Nv:=Fw (P:=P) (w:=w) (ty:=o.type) (base:=some ⟨ids b,0,none⟩) ht om hk YK (hf w rfl) yy (λb' Xj =>by
       simp at Xj; subst Xj;rw[rq,gX];exact lD) (λh=>eX)
      rw[<-hv]at Nv;obtain⟨p1,p2⟩:=wz (vals:=vals) (new:=cs) (off:=len*aM k) hg da jM (oo (u:=0) hb) g1 FB xR En;obtain⟨pl,_⟩:=sH B.cells cs (len*aM k) FB;have iK:=qd (ids:=ids) (I:=I) (id' :=ids b) (B' :=⟨B.k,putAt B.cells (len*aM k) cs,B.st⟩) hb qS;have oZ:(λq=>if q=b then ids b else ids q)=ids:=km
      rw[oZ]at iK;obtain⟨f1,f2⟩:=Good.shrink (C2:=af (ar σ b ⟨B.k,putAt B.cells (len*aM k) cs,B.st⟩) ids I) p1 rfl (λb1 u1 e1 h1=>by
       have:=iK b1 u1 e1 h1;simp only[pl]at this;exact this) (λb1 u1 h1=>qf (ids:=ids) (I:=I) hb (by show _<=(putAt B.cells (len*aM k) cs).length;omega) b1 u1 h1)
      refine kj ho hc ha l8 Nv ⟨ids,I,f1,p2.trans f2,?_⟩;have cm:b<σ.length:=by rw[dt]at hb;exact(dC.1 hb).1
      unfold VR;refine⟨⟨_,_,rfl,yy,λ_=>⟨_,rfl⟩⟩,⟨_,by rw[yw cm,ae rfl],by show _<=(putAt B.cells (len*aM k) cs).length;omega⟩,λB2 AN h2=>?_⟩
      have yz :=iK b _ _ h2;rw[ae ⟨rfl,pl.symm⟩]at yz;simp at yz;obtain⟨rfl,rfl⟩:=yz;simp only[jM];refine⟨_,el,0,cap,setRow_heap w (ids b) c _ el (0,0) g1,rfl,λ_=>rfl,yy,?_⟩;rw[(Nk aa).1,sG]
      exact g5
end
end Ab
set_option linter.all false
namespace Ab
open Go
variable{P:Program}
def yA (n:Nat):∀l:List AV,kL n l=l.map (js n)
 | []=>rfl
 |x::r=>by simp only[kL,yA n r,cS]
structure sL (n:Nat) (C1 C' : Ctx):Prop where
 aF:∀k,C1.I k->C'.I k
 lim:∀b u,C1.lim b u->C'.lim (b+n) u
 own:∀b u B' id,C1.lim b u->C'.own (b+n) u=some (B', id)->∃B,C1.own b u=some (B,id)/\B'.st=pV n B.st/\B.k=B'.k
def Y0{n:Nat}{B:al}{es:List (AV×AV)}(h:(gH n B).st = .map es):∃a,B.st = .map a/\es=Nw n a:=by
 have h:pV n B.st = .map es:=h;cases b:B.st with
 |map a=>rw[b]at h;simp[pV]at h;exact⟨a,rfl,h.symm⟩
 |gN=>rw[b]at h;simp[pV]at h
 |live=>rw[b]at h;simp[pV]at h
 |dead=>rw[b]at h;simp[pV]at h
variable{s:fb}
def Y1{n:Nat}:(pV n s).je=s.je:=by cases s<;>rfl
def yB{n:Nat}:(pV n s).jU=s.jU:=by cases s<;>rfl
def Nx{n:Nat}(h:pV n s = .live):s = .live:=by cases s<;>simp_all [pV]
def Y2{n:Nat}(h:pV n s = .gN):s = .gN:=by cases s<;>simp_all [pV]
def Y3{n:Nat}(h:pV n s = .dead):s = .dead:=by cases s<;>simp_all [pV]
section
variable{n:Nat}{C1 C' : Ctx}{H:Array Obj}
mutual
theorem VR.shift (h:sL n C1 C'):∀(x:AV) (v:Value),VR C1 H x v->VR C' H (js n x) v
 |.int _,_,hv=>hv
 |.ik _ _,_,hv=>hv
 |.bool _,_,hv=>hv
 |.str _,_,hv=>hv
 |.agg l,_,⟨vs,e,hl,hc⟩=>⟨vs,e,cj.shift h l vs hl,hc⟩
 |.bM l,_,⟨vs,e,hl⟩=>⟨vs,e,cj.shift h l vs hl⟩
 |.ag,_,hv=>hv
 |.emp,_,hv=>hv
 |.aF nn l,v,hv=>VR.free (show oU C1 H C' H from⟨h.aF,λ_ _=>rfl⟩) (.aF nn l) v rfl hv
 |.arr l,v,hv=>by
  unfold VR at hv;unfold js VR;obtain⟨b,off,st,c,el,fz,e,hI,hH,hl⟩:=hv;refine⟨b,off,st,c,el,fz,?_,h.aF b hI,hH,jS.shift h c st l off hl⟩;rw[yA];simpa using e
 |.sl b u off len,v,hv=>by
  unfold VR at hv;unfold js VR;obtain⟨h0,h1,h3⟩:=hv;refine⟨h0,h.lim b u h1,λB' id ho=>?_⟩;obtain⟨B,g1,g2,g3⟩:=h.own b u B' id h1 ho;have:=h3 B id g1;rw[g3]at this;rw[g2];cases hs:B.st<;>rw[hs]at this<;>simpa[pV]using this
 |.iy,_,hv=>hv
 |.a8 x,v,hv=>VR.free (show oU C1 H C' H from⟨h.aF,λ_ _=>rfl⟩) (.a8 x) v rfl hv
 |.ptr b u off,v,hv=>by
  unfold VR at hv;unfold js VR;obtain⟨h0,h1,h3⟩:=hv;refine⟨h0,h.lim b u h1,λB' id ho hl=>?_⟩;obtain⟨B,g1,g2,g3⟩:=h.own b u B' id h1 ho;exact h3 B id g1 (Nx (g2.symm.trans hl))
 |.kS,_,hv=>hv
 |.func _ l,_,⟨vs,e,hl⟩=>⟨vs,e,cj.shift h l vs hl⟩
 |.hY,_,hv=>hv
 |.iface _ x,_,⟨y,e,hx⟩=>⟨y,e,VR.shift h x y hx⟩
 |.cP b,v,hv=>by
  unfold VR at hv;unfold js VR;obtain⟨h0,h1,h3⟩:=hv;refine⟨h0,h.lim b 0 h1,λB' id ho hl=>?_⟩;obtain⟨B,g1,g2,g3⟩:=h.own b 0 B' id h1 ho;exact h3 B id g1 (by rw[g2,Y1]at hl;exact hl)
 |.qh,_,hv=>hv
 |.aO,_,_=>trivial
theorem cj.shift (h:sL n C1 C'):∀(l:List AV) (vs:List Value),cj C1 H l vs->cj C' H (kL n l) vs
 | [],_,hv=>hv
 |x::r,_,⟨v,s,e,hx,hr⟩=>⟨v,s,e,VR.shift h x v hx,cj.shift h r s hr⟩
theorem jS.shift (h:sL n C1 C') (c:Array Value) (st:Nat):∀(l:List AV) (off:Nat),jS C1 H c st l off->jS C' H c st (kL n l) off
 | [],_,_=>trivial
 |x::r,off,⟨⟨v,hx,e,hj⟩,hr⟩=>⟨⟨v,VR.shift h x v hx,e,hj⟩,jS.shift h c st r (off+st) hr⟩
end
def MR.shift (h:sL n C1 C'):∀{es:List (AV×AV)}{l:List MapEntry},MR C1 H es l->MR C' H (Nw n es) l
 | [],_,e=>e
 |(k,x)::r,_,⟨e,s,q,⟨k1,k2⟩,x2,hr⟩=>⟨e,s,q,⟨k1,VR.free ⟨h.aF,λ_ _=>rfl⟩ _ _ k1 k2⟩,VR.shift h _ _ x2,MR.shift h hr⟩
end
section
variable{a:Act}{ρ:Operand->Value}{r:Rf->AV}{w:World}{C:Ctx}{R:Operand->Rf->Bool}{ce:CE}{σ:List al}{nl:Nat}{ps:List cQ}
variable{ids:Nat->Nat}{I:Nat->Prop}{o:Oper}{ca:Call}{f:Nat}{ys:List Rf}{z:AV}{cR: List al}
def Y4(d:cw P ce) (h:o.op = .call ca) (i:ca.callee = .value (.func f)) (j:cM P f=true) (l:Good (af σ ids I) w)
  (m:cj (af σ ids I) w.heap (ys.map r) (ca.args.toList.map a.eval)) (g:gf ce σ r (.fE f ys)=some (z,cR)):bI P o a w (kl σ ids I w z cR):=by
 simp only[gf]at g;refine bI.call (Bj h i j w) ((d f _ σ z cR g ids I w _ l m).mono ?_);rintro e u ⟨v,b, n, rfl,p,q,s⟩;exact⟨v,rfl,b, n, p,s,q⟩
def Y5{j:Operand}{y:Rf}(g:cw P ce) (h:dZ P ce) (n:o.op = .call ca) (p:ca.callee = .value j) (q:Good (af σ ids I) w)
  (i:VR (af σ ids I) w.heap (r y) (a.eval j)) (s:cj (af σ ids I) w.heap (ys.map r) (ca.args.toList.map a.eval)) (b:gf ce σ r (.lE y ys)=some (z,cR)):bI P o a w (kl σ ids I w z cR):=by
 simp only[gf]at b;cases l:r y<;>simp only[l]at b<;>try(simp at b;done)
 rename_i f m;rw[l]at i;unfold VR at i;obtain⟨D,e,u⟩:=i;refine bI.call (MY n p e (h _ _ _ _ b) w) ((g f _ σ z cR b ids I w _ q (s.append u)).mono ?_);rintro e E ⟨v,d, x, rfl,A,B,C⟩;exact⟨v,rfl,d, x, A,C,B⟩
variable{b:Nat}
def Ny:aq (cR.map (gH nl)) b=(aq cR b).map (gH nl):=by
 rw[dt,dt];simp
def yC (B:al):(gH nl B).cells.length=B.cells.length:=by simp[gH,yA]
def Nz{I I' : Nat->Prop}{u:Nat}{B' : al}{id:Nat}(h:(af (cR.map (gH nl)) ids I).own b u=some (B', id)):∃B,(af cR ids I').own b u=some (B,id)/\B' = gH nl B:=by
 simp only[af,Ny]at h ⊢;cases a:aq cR b with
 |none=>simp[a]at h
 |some B=>
  simp only[a,mS]at h ⊢;have e:(gH nl B).st=pV nl B.st:=rfl;rw[e,yC]at h;cases g:B.st<;>simp only[g,pV]at h ⊢<;>first
   |(simp at h;done)
   |(by_cases d:B.cells.length=u
     .simp only[d,dD]at h ⊢
      simp at h;exact⟨B,by rw[h.2],h.1.symm⟩
     .simp[d]at h)
def Y6{x:AV}{p:Option cQ}(qT:cw P ce) (ho:o.op = .call ca) (hc:ca.callee = .value (.func f)) (hb:cM P f=true) (hg:Good C w)
  (FC:∀l,p=some (.news l)->∀b u,nl<=b->b<nl+l.length->¬C.lim b u)
  (hx:cj C w.heap (ys.map r) (ca.args.toList.map a.eval)) (he:ev ce σ nl ps r (.can f ys)=some (x,p)):bI P o a w (iZ nl C w x p):=by
 simp only[ev]at he;split at he
 case isFalse=>simp at he
 rename_i hn;cases BA:ce f (ys.map r) []with
 |none=>simp[BA]at he
 |some q=>
  obtain⟨v0,cR⟩:=q;simp only[BA,bT,Prod.mk.injEq]at he;obtain⟨rfl,rfl⟩:=he;have FC:=FC _ rfl;have BB:cj (af [] (λ_=>0) C.I) w.heap (ys.map r) (ca.args.toList.map a.eval):=cj.free (show oU C w.heap (af [] (λ_=>0) C.I) w.heap from⟨λ_ h=>h,λ_ _=>rfl⟩) _ _ hn hx;refine bI.call (Bj ho hc hb w) ((qT f _ [] v0 cR BA (λ_=>0) C.I w _ (MV hg _) BB).mono ?_);rintro e w' ⟨v,bY, I', rfl,NA,hr,hs⟩;refine⟨v,rfl,?_⟩;have hlen:(cR.map (gH nl)).length=cR.length:=ab
  let C' : Ctx:={I:=I', own:=λb u=>if nl<=b/\b<nl+(cR.map (gH nl)).length then(af (cR.map (gH nl)) bY C.I).own (b-nl) u else C.own b u,lim:=λb u=>(nl<=b/\(af (cR.map (gH nl)) bY C.I).lim (b-nl) u)\/C.lim b u}
  have fC:∀k,k<w.heap.size->w'.heap[k]? = w.heap[k]?:=λk hk=>hs.frame k hk nW;have NB:∀b u,(af cR bY I').lim b u->b<cR.length:=λb u ⟨B,h1,_⟩=>by rw[dt]at h1;exact(dC.1 h1).1
  have Eo:∀b u,(af (cR.map (gH nl)) bY C.I).lim b u↔(af cR bY I').lim b u:=λb u=>by
   simp only[af,Ny];constructor
   .rintro⟨B,h1,h2⟩
    obtain⟨B0,h3,h4⟩:=nY.1 h1;subst h4;exact⟨B0,h3,by rwa [yC]at h2⟩
   .rintro⟨B,h1,h2⟩
    exact⟨gH nl B,by rw[h1];rfl,by rw[yC];exact h2⟩
  have xS:sL nl (af cR bY I') C' :=by
   refine⟨λ_ h=>h,λb u h=>.inl ⟨aa,?_⟩,λb u B' id hl ko =>?_⟩
   .rw[show b+nl-nl=b by omega];exact(Eo b u).2 h
   .have cm:=NB b u hl
    have jx:nl<=b+nl/\b+nl<nl+(cR.map (gH nl)).length:=by rw[hlen];omega
    simp only[C', ae jx]at ko;rw[show b+nl-nl=b by omega]at ko
    obtain⟨B,h1,h2⟩:=Nz (I' :=I') ko;exact⟨B,h1,by rw[h2];rfl,by rw[h2];rfl⟩
  have Y7 : fZ C w.heap C' w'.heap:=by
   refine⟨λk hk=>hs.ev.aF k hk,λk hk=>fC k (hg.I k hk),λ_ _ h=>.inr h,λb u B' id hl ko =>?_⟩;have yD:¬(nl<=b/\b<nl+(cR.map (gH nl)).length):=λ⟨h1,h2⟩=>FC b u h1 h2 hl;simp only[C', ad yD]at ko;refine⟨B', ko, rfl,rfl,λc el yq =>⟨c,?_,rfl⟩⟩;rw[fC id (ke.1 yq).1];exact yq
  have sM:∀id,owned (af cR bY I') id->w.heap.size<=id:=λid h=>(hs.gn id h).elim (λh=>absurd h nW) (λh=>h);have qU:∀b u B' id,C'.own b u=some (B', id)->(nl<=b/\b<nl+(cR.map (gH nl)).length/\∃B,(af cR bY I').own (b-nl) u=some (B,id)/\B' = gH nl B)\/C.own b u=some (B', id):=λb u B' id h=>by
   by_cases jx:nl<=b/\b<nl+(cR.map (gH nl)).length
   .simp only[C', ae jx]at h
    obtain⟨B,h1,h2⟩:=Nz (I' :=I') h;exact .inl ⟨jx.1,jx.2,B,h1,h2⟩
   .simp only[C', ad jx]at h
    exact .inr h
  refine⟨C', ⟨NA.I,λb u B' id h=>?_,λb u B' id h hl=>?_,λb1 u1 B1 i1 b2 u2 B2 i2 k1 l1 k2 l2 eP=>?_,λb u B' id es h hl=>?_⟩,⟨Y7, hs.size,λk hk _=>fC k hk,λk hk=>?_,λk hk=>?_,hs.os,hs.tape,hs.output⟩,VR.shift xS _ _ hr,bY, rfl,rfl⟩
  .rcases qU b u B' id h with⟨q1,q2,B,q3,rfl⟩|h'
   .obtain⟨j1,j2,j3,j4⟩:=NA.lV _ _ _ _ q3
    exact⟨.inl ⟨q1,(Eo _ _).2 j1⟩,by rw[yC];exact j2,λh0=>by
     have:B.cells=[]:=j3 (Y2 h0);simp[gH,this,kL],λh0=>j4 (Y3 h0)⟩
   .obtain⟨j1,j2,j3,j4⟩:=hg.lV _ _ _ _ h'
    exact⟨.inr j1,j2,j3,j4⟩
  .rcases qU b u B' id h with⟨q1,q2,B,q3,rfl⟩|h'
   .obtain⟨j1,c,el,j2,j3,j4⟩:=NA.live _ _ _ _ q3 (Nx hl)
    refine⟨j1,c,el,j2,by rw[yC];exact j3,λi y hi=>?_⟩
    have jt : (kL nl B.cells)[i]? = some y:=hi;rw[yA,iv]at jt;obtain⟨y0,e1,rfl⟩:=nY.1 jt;obtain⟨v', m1,m2,m3⟩:=j4 i y0 e1;exact⟨v', m1,VR.shift xS _ _ m2,m3⟩
   .obtain⟨j1,c,el,j2,j3,j4⟩:=hg.live _ _ _ _ h' hl
    have cm:=(ke.1 j2).1;refine⟨λhi=>?_,c,el,by rw[fC id cm];exact j2,j3,λi y hi=>?_⟩
    .rcases hs.gL id hi with h1|h1|h1
     .exact j1 h1
     .exact nW h1
     .omega
    .obtain⟨v', m1,m2,m3⟩:=j4 i y hi
     exact⟨v', m1,VR.mono Y7 _ _ m2,m3⟩
  .rcases qU _ _ _ _ k1 with⟨q1,q2,B,q3,rfl⟩|h1<;>rcases qU _ _ _ _ k2 with⟨q4,q5,B', q6,rfl⟩|h2
   .exact NA.apart _ _ _ _ _ _ _ _ q3 (yB.symm.trans l1) q6 (yB.symm.trans l2) aa
   .have:=sM i1 ⟨_,_,B,q3,yB.symm.trans l1⟩
    have:=hg.lt ⟨b2,u2,B2,h2,l2⟩;omega
   .have:=sM i2 ⟨_,_,B', q6,yB.symm.trans l2⟩
    have:=hg.lt ⟨b1,u1,B1,h1,l1⟩;omega
   .exact hg.apart _ _ _ _ _ _ _ _ h1 l1 h2 l2 eP
  .rcases qU b u B' id h with⟨q1,q2,B,q3,rfl⟩|h'
   .obtain⟨es0,Y8,rfl⟩:=Y0 hl
    obtain⟨j1,l,c,j2,j3⟩:=NA.maps _ _ _ _ es0 q3 Y8;exact⟨j1,l,c,j2,MR.shift xS j3⟩
   .have cm:=hg.lt ⟨_,_,_,h', l0 hl⟩
    refine hg.df (C' :=C') Y7 h' hl (fC id cm) λhi=>?_;rcases hs.gL id hi with h1|h1|h1
    .exact(hg.maps _ _ _ _ _ h' hl).1 h1
    .exact nW h1
    .omega
  .obtain⟨b,u,B', h1,h2⟩:=hk
   rcases qU _ _ _ _ h1 with⟨q1,q2,B,q3,rfl⟩|h'
   .exact .inr (sM k ⟨_,_,B,q3,yB.symm.trans h2⟩)
   .exact .inl ⟨b,u,B', h', h2⟩
  .rcases hs.gL k hk with h1|h1|h1
   .exact .inl h1
   .exact absurd h1 nW
   .exact .inr (.inr h1)
end
end Ab
namespace Ab
open Go
variable{P:Program}
section
variable{a:Act}{ρ:Operand->Value}{r:Rf->AV}{w:World}{C:Ctx}{R:Operand->Rf->Bool}{ce:CE}{σ:List al}{nl:Nat}{ps:List cQ}
def Y9{ids:Nat->Nat}{I:Nat->Prop}{o:Oper}{ca:Call}{t e:TypeId}{x:Operand}{x' : Rf}{zc:List AV}{k:Option Nat}{z:AV}{cR : List al}(ho:o.op = .call ca) (hc:ca.callee = .builtin .clear) (ha:ca.args.toList=[x]) (l8:ca.argTypes.toList=[t]) (ht:aT P t=some e) (hk:bF P e k=true) (hz:iG P e zc=true) (hg:Good (af σ ids I) w)
  (hx:VR (af σ ids I) w.heap (r x') (a.eval x)) (he:gf ce σ r (.vA x' zc k)=some (z,cR)):bI P o a w (kl σ ids I w z cR):=by
 simp only[gf]at he;cases kT : r x' <;>simp only[kT]at he<;>try(simp at he;done)
 rename_i b u off len;cases hu:upto σ b u with
 |none=>simp[hu]at he
 |some B=>
  simp only[hu]at he;split at he
  case isFalse=>simp at he
  rename_i sO;obtain⟨c0,c1,c2,c3,c4⟩:=sO;simp only[bT,Prod.mk.injEq]at he;obtain⟨rfl,rfl⟩:=he;obtain⟨hb,qc,qS⟩:=sI hu;have hs:B.st = .live:=by revert c4;cases B.st<;>simp[fb.isLive]
  have da:=nX ids I hu;subst qc;rw[kT]at hx;unfold VR at hx;have Mg:=hx.2.2 B _ da;rw[hs]at Mg;obtain⟨c', AM, o', cap,wq, e,yE,Za,xT⟩:=Mg;rw[yE aa]at e
  obtain⟨_,c,el,hH,hle,oY⟩:=hg.live b _ B _ da hs;obtain⟨zv,z1,z2,z3⟩:=Bo (C:=af σ ids I) hz w;have M8:zv.cells.size=aM k:=by have:=cj.length z2;simp at this;omega
  obtain⟨d1,d2⟩:=Fs zc len;rw[c3]at d1 d2;have xR:(Builtin.zeroCells zv.cells len).toList.length=len*aM k:=by simp[Builtin.zeroCells,M8]
  obtain⟨g1,g2⟩:=wz (vals:=(Builtin.zeroCells zv.cells len).toList) (new:=eK len zc) (off:=off) hg da hs (oo (u:=0) hb) hH aa aa (λj q hj=>by
   have cm:=(dC.1 hj).1;rw[d1]at cm;rw[d2 j cm]at hj;have Ft:0<aM k:=Nat.pos_of_ne_zero λh=>by rw[h]at cm;simp at cm
   obtain⟨y,k1,k2⟩:=z2.get (j%aM k) q hj;rw[ja]at k1;refine⟨y,?_,k2,z3 y (by rw[uj];exact Array.mem_of_getElem? k1)⟩
   have hm:=l6 j Ft;rw[lB (by omega:j%aM k<zv.cells.size)]at k1
   simp at k1;rw[ja];simp[Builtin.zeroCells,M8,cm,getElem!_def,lB (by omega:j%aM k<zv.cells.size),k1])
  obtain⟨pl,_⟩:=sH B.cells (eK len zc) off aa
  have iK:=qd (ids:=ids) (I:=I) (id' :=ids b) (B' :=⟨B.k,putAt B.cells off (eK len zc),B.st⟩) hb qS;have oZ:(λq=>if q=b then ids b else ids q)=ids:=km
  rw[oZ]at iK;obtain⟨f1,f2⟩:=Good.shrink (C2:=af (ar σ b ⟨B.k,putAt B.cells off (eK len zc),B.st⟩) ids I) g1 rfl (λb1 u1 e1 h1=>by
   have:=iK b1 u1 e1 h1;simp only[pl]at this;exact this) (λb1 u1 h1=>qf (ids:=ids) (I:=I) hb (by show _<=(putAt B.cells off (eK len zc)).length;omega) b1 u1 h1)
  have sJ:∀v∈(Builtin.zeroCells zv.cells len).toList,v.oneCell' = true:=λv hv=>by
   obtain⟨j,hj⟩:=uo.1 hv;have cm:=(dC.1 hj).1;rw[xR]at cm;have Ft:0<aM k:=Nat.pos_of_ne_zero λh=>by rw[h]at cm;simp at cm
   have hm:=l6 j Ft;rw[ja]at hj;simp[Builtin.zeroCells,M8,cm,getElem!_def,lB (by omega:j%aM k<zv.cells.size)]at hj
   subst hj;exact z3 _ (by rw[uj];exact Array.getElem_mem _)
  have lD:=run_storeCells_at P (ids b) off el (Builtin.zeroCells zv.cells len).toList 0 c w hH aa sJ
  simp only[kf]at lD;have BC : ca.args = #[x]:=by rw[<-Array.toList_inj];simpa using ha
  have Zc : ca.argTypes = #[t]:=by rw[<-Array.toList_inj];simpa using l8
  obtain⟨n', rfl⟩:∃n', len=n' + 1:=⟨len-1,aa⟩
  refine bI.val (v:=.tuple #[]) (w' :=w.setRow (ids b) (c.toList.take off++(Builtin.zeroCells zv.cells (n' + 1)).toList++c.toList.drop (off+(Builtin.zeroCells zv.cells (n' + 1)).toList.length)).toArray) ?_ ⟨ids,I,f1,g2.trans f2,by unfold VR;trivial⟩
  simp only[execOp,ho,resolve,hc,BC, Zc, aW,bw,aZ,invoke,builtin,Builtin.clear_];simp[e,aW,mN ht,z1,lD]
end
end Ab
namespace Ab
open Go
variable{P:Program}
section
variable{a:Act}{r:Rf->AV}{w:World}{C:Ctx}{R:Operand->Rf->Bool}{ce:CE}{σ:List al}{nl:Nat}{ps:List cQ}
variable{o:Oper}{x:AV}{p:Option cQ}
def Ep{b:Operand}{y:Rf}(d:o.op = .move b\/o.op = .assign b) (g:Good C w) (h:VR C w.heap (r y) (a.eval b)) (e:ev ce σ nl ps r (.mv y)=some (x,p)) :
  bI P o a w (dg C w x)/\p=none:=by
 simp[ev]at e;obtain⟨rfl,rfl⟩:=e;refine⟨bI.val (v:=a.eval b) (w' :=w) ?_ (dg.same g h),rfl⟩;rcases d with d|d<;>simp only[execOp,d,bw]
def dh.nS:dh->Bool
 |.gw _ | .jX ..=>true
 |_=>false
variable{qi:dh}
def opP(b:ma P R o.op qi=true) (j:qi.kp=true) (z:qi.nS=false) (u:cw P ce) (A:dZ P ce) (n:Good C w)
  (d:∀x y,R x y=true->VR C w.heap (r y) (a.eval x)) (D:r (.c (.int 0)) = .int 0) (i:ev ce σ nl ps r qi=some (x,p)):bI P o a w (dg C w x)/\p=none:=by
 obtain⟨dst,op,type,pos,after,guard⟩:=o;have pl:∀{G : AV} {H : Option cQ},Plain P a.eval ⟨dst,op,type,pos,after,guard⟩ w C w.heap G /\H = none->bI P ⟨dst,op,type,pos,after,guard⟩ a w (dg C w G)/\H = none:=λh=>⟨h.1.does n,h.2⟩;simp only[ma]at b;split at b
 .exact Ep (.inl rfl) n (d _ _ b) i
 .exact Ep (.inr rfl) n (d _ _ b) i
 .simp[dh.kp]at j
 .simp only[aH]at b
  exact pl (Zd rfl b.1.1 (d _ _ b.1.2) (d _ _ b.2) i)
 .simp only[aH]at b
  exact pl (Ze rfl b.1.1.1 b.1.1.2 (d _ _ b.1.2) (d _ _ b.2) i)
 .simp only[aH]at b
  exact pl (Zg rfl b.1.1.1 b.1.1.2 (d _ _ b.1.2) (d _ _ b.2) i)
 .simp[dh.kp]at j
 .exact pl (Zh rfl (d _ _ b) i)
 .exact pl (Zi rfl (d _ _ b) D i)
 .simp only[aH]at b
  exact pl (Zj rfl (d _ _ b.1.1) (d _ _ b.1.2) (d _ _ b.2) i)
 .split at b
  .rename_i B E
   simp only[aH]at b;exact pl (Zk rfl rfl B E b.1 (d _ _ b.2) i)
  .simp at b
 .split at b
  .rename_i B
   simp only[aH]at b;exact pl (Er (m:=true) rfl rfl B (d _ _ b.1) (d _ _ b.2) i)
  .simp at b
 .split at b
  .rename_i B
   simp only[aH]at b;exact pl (Er (m:=false) rfl rfl B (d _ _ b.1) (d _ _ b.2) i)
  .simp at b
 .simp only[aH]at b
  obtain⟨g,l⟩:=b;split at g
  .rename_i fs I
   split at g
   .rename_i L J
    simp only[aH,cT,Bool.not_eq_true']at g;exact pl (Zl rfl I J g.1.1 g.1.2 g.2 (d _ _ l) i)
   .simp at g
  .simp at g
 .simp only[aH]at b
  obtain⟨⟨g,l⟩,q⟩:=b;split at g
  .rename_i e s
   exact pl (Zm rfl s g (d _ _ l) (d _ _ q) i)
  .simp at g
 .simp only[aH]at b
  obtain⟨⟨g,l⟩,q⟩:=b;split at g
  .rename_i m e s
   simp only[aH,cT,eo]at g;obtain⟨⟨rfl,K⟩,_⟩:=g;exact pl (Zn rfl s K (d _ _ l) (d _ _ q) i)
  .simp at g
 .exact pl (Zo rfl (d _ _ b) i)
 .exact Yq rfl n (d _ _ b) i
 .simp[dh.kp]at j
 .simp[dh.kp]at j
 .simp[dh.nS]at z
 .simp[dh.nS]at z
 .simp[dh.kp]at j
 .simp[dh.kp]at j
 .simp only[aH]at b
  exact pl (NC rfl b.1 (d _ _ b.2) i)
 .simp only[aH]at b
  exact pl (Zp rfl b.1 b.2 d i)
 .simp only[aH,cT]at b
  obtain⟨rfl,l⟩:=b;exact pl (Zq rfl (d _ _ l) i)
 .simp only[aH,cT]at b
  obtain⟨⟨g,rfl⟩,l⟩:=b;exact pl (Zr rfl g (mT d l) i)
 .simp only[aH,cT]at b
  obtain⟨⟨rfl,g⟩,l⟩:=b;exact pl (Zs rfl g (d _ _ l) i)
 .simp only[aH]at b
  obtain⟨⟨⟨g,l⟩,q⟩,F⟩:=b;split at g
  .rename_i e s
   simp only[aH,eo]at g;exact Yt rfl s g.1.1 g.1.2 g.2 l q n (mT d F) i
  .simp at g
 .simp only[aH]at b
  obtain⟨⟨⟨g,l⟩,q⟩,F⟩:=b;split at g
  .rename_i e s
   simp only[aH,eo]at g;exact M3 rfl s g.1.1 g.1.2 g.2 l q n (mT d F) i
  .simp at g
 .simp[dh.kp]at j
 .simp[dh.kp]at j
 .simp only[aH]at b
  exact pl (Zt rfl b.1 (d _ _ b.2) i)
 .simp[dh.kp]at j
 .simp[dh.kp]at j
 .simp[dh.kp]at j
 .simp only[aH,cT]at b
  obtain⟨⟨rfl,g⟩,l⟩:=b;exact Yl u rfl rfl g n (mT d l) i
 .simp[dh.kp]at j
 .simp[dh.kp]at j
 .simp[dh.kp]at j
 .simp only[aH]at b
  exact Ym u A rfl rfl n (d _ _ b.1) (mT d b.2) i
 .simp[dh.kp]at j
 .simp only[aH]at b
  exact Yo u A rfl rfl b.2 n (d _ _ b.1.1) (mT d b.1.2) i
 .simp[dh.kp]at j
 .simp[dh.kp]at j
 .simp[dh.kp]at j
 .simp[dh.kp]at j
 .simp[dh.kp]at j
 .simp[dh.kp]at j
 .simp only[aH]at b
  exact pl (Zu rfl b.1 (d _ _ b.2) i)
 .simp[dh.kp]at j
 .simp[dh.kp]at j
 .simp[dh.kp]at j
 .simp only[aH]at b
  exact Yr rfl b.1 n (d _ _ b.2) i
 .simp only[aH]at b
  exact pl (Zv rfl b.1.1 (d _ _ b.1.2) (d _ _ b.2) i)
 .simp only[aH]at b
  exact pl (Zw rfl b.1 (d _ _ b.2) i)
 .simp only[aH]at b
  exact pl (Zx rfl (d _ _ b.1) (d _ _ b.2) i)
 .simp only[aH]at b
  exact pl (Zy rfl b.1.1.1 b.1.1.2 (d _ _ b.1.2) (d _ _ b.2) i)
 .simp only[aH,cT]at b
  obtain⟨⟨g,l⟩,q⟩:=b;split at g
  .rename_i e s
   simp only[aH]at g;exact Yu rfl s g.1 g.2 l q n i
  .simp at g
 .simp only[aH]at b
  exact pl (Zz rfl b.1.1.1 b.1.1.2 (d _ _ b.1.2) (d _ _ b.2) i)
 .simp at b
def ZA(h:bI P o a w (dg C w x)/\p=none):bI P o a w (iZ nl C w x p):=by
 obtain⟨b,rfl⟩:=h;exact b.mono λv d h=>h.e
def opE(d:ma P R o.op qi=true) (V:qi.lf=false) (I:qi.nS=false) (F:cw P ce) (J:dZ P ce) (m:Good C w)
  (A:∀b u B,C.lim b u->fW σ b u=some B->∃id,C.own b u=some (B,id)) (S:qi.kp=false->(∀f as,qi ≠ .can f as)->∀u,¬C.lim nl u) (K:∀l,p=some (.news l)->∀b u,nl<=b->b<nl+l.length->¬C.lim b u)
  (L:∀b u B cs,upto σ b u=some B->p=some (.grow b cs)->oW b ps=false->(∀n,u<n->¬C.lim b n)/\∀u' B' id', C.own b u' = some (B', id')->u' = u)
  (i:∀x y,R x y=true->VR C w.heap (r y) (a.eval x)) (M:r (.c (.int 0)) = .int 0) (j:ev ce σ nl ps r qi=some (x,p)):bI P o a w (iZ nl C w x p):=by
 by_cases N:qi.kp=true
 .obtain⟨g,rfl⟩:=opP d N I F J m i M j
  exact g.mono λv W h=>h.e
 have O : qi.kp=false:=by simpa using N
 have z:∀b u B,C.lim b u->upto σ b u=some B->∃id,C.own b u=some (B,id):=λb u B X h=>A b u B X (ND h);have q:=S O;clear S;obtain⟨dst,op,type,pos,after,guard⟩:=o;have pl:∀{T : AV} {U : Option cQ},Plain P a.eval ⟨dst,op,type,pos,after,guard⟩ w C w.heap T /\U = none->bI P ⟨dst,op,type,pos,after,guard⟩ a w (iZ nl C w T U):=λh=>by
  obtain⟨g,rfl⟩:=h;exact(g.does m).mono λv W h=>h.e
 simp only[ma]at d;split at d
 all_goals first
  |(exfalso;exact N rfl)
  |(exfalso;simp[dh.lf]at V;done)
  |skip
 .exact Na rfl d m (q ab) j
 .simp only[aH,Bool.or_eq_true]at d
  exact pl (NF (a:=a) rfl rfl d.1.1 d.1.2 z (d.2.imp (λh=>⟨h.1,i _ _ h.2⟩) (λh=>⟨h.1,i _ _ h.2⟩)) j)
 .simp only[aH]at d
  exact Yv rfl m (q ab) (i _ _ d.2) j
 .simp only[aH]at d
  exact Yw rfl d.1 m (q ab) j
 .simp only[aH]at d
  exact pl (yF rfl d.1 m z (i _ _ d.2) j)
 .simp only[aH]at d
  obtain⟨⟨⟨g,s⟩,E⟩,H⟩:=d;split at g
  .rename_i e D
   simp only[aH,eo]at g;exact Yx rfl D g.1.1 g.1.2 g.2 s E m (q ab) (mT i H) j
  .simp at g
 .simp only[aH]at d
  obtain⟨⟨⟨g,s⟩,E⟩,H⟩:=d;split at g
  .rename_i e D
   exact pl (NG rfl D g z (i _ _ s) E H i j)
  .simp at g
 .simp only[aH]at d
  obtain⟨⟨g,s⟩,E⟩:=d;split at g
  .rename_i e D
   simp only[aH]at g;exact Yy rfl D g.1.1 g.1.2 g.2 m (q ab) (i _ _ s) (i _ _ E) j
  .simp at g
 .split at d
  .rename_i Q G
   simp only[aH]at d;obtain⟨⟨⟨g,s⟩,E⟩,H⟩:=d;split at g
   .rename_i e D
    simp only[aH]at g;exact YL rfl rfl Q G D s g.1.1 g.1.2 g.2 m z (q ab) L (i _ _ E) (i _ _ H) j
   .simp at g
  .simp at d
 .simp only[aH,cT]at d
  obtain⟨⟨rfl,g⟩,s⟩:=d;exact ZA (MX F rfl rfl g m z (mT i s) j)
 .simp only[aH,cT]at d
  obtain⟨⟨rfl,g⟩,s⟩:=d;exact Y6 F rfl rfl g m K (mT i s) j
 .exact YA rfl m (q ab) j
 .simp only[aH,cT]at d
  obtain⟨⟨⟨g,rfl⟩,s⟩,E⟩:=d;split at g
  .rename_i D
   simp only[aH]at g;exact pl (NH rfl D g.1 g.2 m A (i _ _ s) (i _ _ E) j)
  .simp at g
 .split at d
  .rename_i Q G
   simp only[aH]at d;obtain⟨g,s⟩:=d;split at g
   .rename_i D
    exact pl (NI rfl rfl Q G D m A (i _ _ s) j)
   .simp at g
  .simp at d
 .simp only[aH]at d
  exact pl (Ng rfl d.1 m z (i _ _ d.2) j)
 .simp at d
end
end Ab
