/- Memory, and each operation that makes, lengthens or turns blocks, is what the small language says. Condition: the callees answer as the interpreter says. Two more operations of Go's: the capacity of a nil slice, and clear. One operation of a phase, whatever it is. Condition: the callees answer as the interpreter says. Condition: none. -/
import Derived.Test.YtdenhmniigikcaaGreatAbM
import Derived.Great.BuildSlice
import Derived.Laws.CopyRow
import Derived.Laws.BytesString
import Derived.Lib.ConvBytes
import Derived.Laws.AppendOwn
set_option linter.all false
namespace Ab
open Go
variable{P:Program}
def bA (P:Program) (o:Oper) (a:Act) (w:World) (b:Value->World->Prop):Prop:=
 ∀(K:Act->World->Prop) (Q:Exit->Act->World->Prop),(∀v w', b v w' ->K (a.put o.dst v) w')->o.wp P a w K Q
variable{o:Oper}{w': World}{pY:Value->World->Prop}
theorem bA.val{a:Act}{w: World}{v:Value}(h:(execOp a.eval o).run P w = .ok (.value v) w') (U:pY v w'):bA P o a w pY:=λK Q V=>by
 unfold Oper.wp;rw[h];exact V _ _ U
theorem bA.skip{a:Act}{w: World}(h:(execOp a.eval o).run P w = .ok .skip w') (U:pY undef w'):bA P o a w pY:=λK Q V=>by
 unfold Oper.wp;rw[h];exact V _ _ U
theorem bA.call{a:Act}{w:World}{f:FuncId}{args:Array Value}(h:(execOp a.eval o).run P w = .ok (.enter f args) w)
  (U:Calls P f args w λe w' =>∃v,e = .returned v/\pY v w'):bA P o a w pY:=λK Q V=>by
 unfold Oper.wp;rw[h];show Calls P f args w _;exact U.mono λe w' ⟨v,he,hp⟩=>by subst he;exact V _ _ hp
theorem bA.mono{a:Act}{w:World}{pY U : Value->World->Prop}(h:bA P o a w pY) (V:∀v w', pY v w' ->U v w'):bA P o a w U :=
 λK Q hk=>h K Q λv w' h' =>hk v w' (V v w' h')
def bU (w:World) (o:Obj):World:={w with heap:=w.heap.push o}
theorem lV (w:World) (o:Obj){k:Nat}(h:k<w.heap.size):(bU w o).heap[k]? = w.heap[k]?:=by
 show(w.heap.push o)[k]? = _;rw[Array.getElem?_push,aa (by omega)]
theorem nm (w:World) (o:Obj):(bU w o).heap[w.heap.size]? = some o:=by
 show(w.heap.push o)[w.heap.size]? = _;simp
theorem wG (w:World) (el:TypeId) (cs:Array Value):(newRow el cs).run P w = .ok ⟨w.heap.size,0,none⟩ (bU w (.cells cs el)):=rfl
theorem zy (w:World) (t:TypeId) (v:Value):(newVar t v).run P w = .ok ⟨w.heap.size,0,none⟩ (bU w (.cells v.cells t)):=rfl
theorem Good.grow{C:Ctx}{w: World}(V:Good C w) (hs:w.heap.size<=w'.heap.size) (U:∀k,k<w.heap.size->w'.heap[k]? = w.heap[k]?):Good C w' /\fF C w.heap C w'.heap:=by
 have ev:fF C w.heap C w'.heap:=by
  refine⟨λ_ h=>h,λk hk=>U k (V.I k hk),λ_ _ h=>h,λb u B' id _ ho=>⟨B', ho,rfl,rfl,λc el hc=>⟨c,?_,rfl⟩⟩⟩;rw[U id (ju.1 hc).1];exact hc
 refine⟨⟨λk hk=>sH (V.I k hk) hs,V.kN,λb u B id ho hl=>?_,V.apart,λb u B id es ho hl=>V.cQ ev ho hl (U id (V.lt ⟨b,u,B,ho,kQ hl⟩)) (V.maps b u B id es ho hl).1⟩,ev⟩;obtain⟨h1,c,el,h2,h3,h4⟩:=V.live b u B id ho hl;refine⟨h1,c,el,by rw[U id (ju.1 h2).1];exact h2,h3,λi x hi=>?_⟩
 obtain⟨y,g1,g2,g3⟩:=h4 i x hi;exact⟨y,g1,VR.mono ev _ _ g2,g3⟩
theorem Good.nq{C:Ctx}{w: World}(hg:Good C w) (hs:w.heap.size<=w'.heap.size) (U:∀k,k<w.heap.size->w'.heap[k]? = w.heap[k]?) (I' : Nat->Prop) (h1:∀k,C.I k->I' k) (h2:∀k,I' k->k<w'.heap.size)
  (h3:∀k,I' k->C.I k\/w.heap.size<=k) (V:w'.os=w.os) (ht:w'.tape=w.tape/\w.drawn<=w'.drawn) (Dq:w'.output=w.output):Good {C with I:=I'} w' /\Step C w {C with I:=I'} w' :=by
 have ev:fF C w.heap {C with I:=I'} w'.heap:=by
  refine⟨h1,λk hk=>U k (hg.I k hk),λ_ _ h=>h,λb u B' id _ V=>⟨B', V,rfl,rfl,λc el hc=>⟨c,?_,rfl⟩⟩⟩;rw[U id (ju.1 hc).1];exact hc
 refine⟨⟨h2,hg.kN,λb u B id V hl=>?_,hg.apart,λb u B id es V hl=>hg.cQ ev V hl (U id (hg.lt ⟨b,u,B,V,kQ hl⟩)) (λhi=>(h3 id hi).elim (hg.maps b u B id es V hl).1 (λh=>by have:=hg.lt ⟨b,u,B,V,kQ hl⟩;omega))⟩,⟨ev,hs,λk hk _=>U k hk,λk hk=>.inl hk,λk hk=>(h3 k hk).elim .inl (λh=>.inr (.inr h)),V,ht,Dq⟩⟩
 obtain⟨g1,c,el,g2,g3,g4⟩:=hg.live b u B id V hl;have cL:=(ju.1 g2).1;refine⟨λhi=>(h3 id hi).elim g1 (λh=>by omega),c,el,by rw[U id cL];exact g2,g3,λi x hi=>?_⟩
 obtain⟨y,k1,k2,k3⟩:=g4 i x hi;exact⟨y,k1,VR.mono ev _ _ k2,k3⟩
theorem Dr{C:Ctx}{w:World}(b:Good C w) (c:Array Value) (el:TypeId):Good {C with I:=λk=>C.I k\/k=w.heap.size} (bU w (.cells c el))/\Step C w {C with I:=λk=>C.I k\/k=w.heap.size} (bU w (.cells c el)):=
 b.nq (by simp[bU]) (λk a=>lV w _ a) _ (λk a=>.inl a) (λk a=>a.elim (λh=>by have:=b.I k h;simp[bU];omega) (λh=>by simp[bU];omega))
  (λk a=>a.elim .inl (λh=>.inr (by omega))) rfl ⟨rfl,aT _⟩ rfl
def ao (C:Ctx) (b u:Nat) (e:ah×Nat):Ctx where
 I:=C.I
 own:=λa u' =>if a = b/\u' = u then some e else C.own a u'
 lim:=λa u' =>(a = b/\u' = u)\/C.lim a u'
variable{b:Nat}
theorem zz{C:Ctx}{w:World}(l:Good C w)(B:ah) (Q:¬C.lim b B.cells.length) (c:Array Value) (el:TypeId) (n:B.st = .live) (hle:B.cells.length<=c.size)
  (R:∀(i:Nat) x,B.cells[i]? = some x->∃y,c[i]? = some y/\VR C w.heap x y/\y.oneCell' = true) :
  Good (ao C b B.cells.length (B,w.heap.size)) (bU w (.cells c el))/\Step C w (ao C b B.cells.length (B,w.heap.size)) (bU w (.cells c el)):=by
 have ev:fF C w.heap (ao C b B.cells.length (B,w.heap.size)) (bU w (.cells c el)).heap:=by
  refine⟨λ_ h=>h,λk g=>lV w _ (l.I k g),λ_ _ h=>.inr h,λd u' B' id j a=>?_⟩;have m:¬(d = b/\u' = B.cells.length):=λ⟨r,s⟩=>Q (r▸s▸j);simp only[ao,aa m]at a;refine⟨B', a,rfl,rfl,λc' z A =>⟨c', ?_,rfl⟩⟩;rw[lV w _ (ju.1 A).1];exact A
 have o:∀k,owned C k->k<w.heap.size:=λk g=>l.lt g;refine⟨⟨λk g=>by have:=l.I k g;simp[bU];omega,λd u' B' id a=>?_,λd u' B' id a j=>?_,λb1 G L i1 H J M N p O q P m=>?_,λd u' B' id es a j=>?_⟩,
  ⟨ev,by simp[bU],λk g _=>lV w _ g,λk g=>?_,λk g=>.inl g,rfl,⟨rfl,aT _⟩,rfl⟩⟩
 .by_cases e:d = b/\u' = B.cells.length
  .simp only[ao,ab e]at a
   simp at a;obtain⟨rfl,rfl⟩:=a;exact⟨.inl e,e.2,λh=>by rw[n]at h;simp at h,by rw[n];simp⟩
  .simp only[ao,aa e]at a
   obtain⟨D,u,E,K⟩:=l.kN d u' B' id a;exact⟨.inr D,u,E,K⟩
 .by_cases e:d = b/\u' = B.cells.length
  .simp only[ao,ab e]at a
   simp at a;obtain⟨rfl,rfl⟩:=a;refine⟨λF=>Nat.lt_irrefl _ (l.I _ F),c,el,nm w _,hle,λi x F=>?_⟩;obtain⟨y,D,u,E⟩:=R i x F;exact⟨y,D,VR.mono ev _ _ u,E⟩
  .simp only[ao,aa e]at a
   obtain⟨D,c', z, u,E,K⟩:=l.live d u' B' id a j;refine⟨D,c', z, by rw[lV w _ (ju.1 u).1];exact u,E,λi x F=>?_⟩
   obtain⟨y,S,T,U⟩:=K i x F;exact⟨y,S,VR.mono ev _ _ T,U⟩
 .by_cases r:b1=b/\G=B.cells.length<;>by_cases s:H=b/\J=B.cells.length
  .exact absurd (r.1.trans s.1.symm) m
  .simp only[ao,ab r]at p;simp only[ao,aa s]at q
   simp at p;obtain⟨rfl,rfl⟩:=p;have:=o N ⟨H,J,M,q,P⟩;omega
  .simp only[ao,aa r]at p;simp only[ao,ab s]at q
   simp at q;obtain⟨rfl,rfl⟩:=q;have:=o i1 ⟨b1,G,L,p,O⟩;omega
  .simp only[ao,aa r]at p;simp only[ao,aa s]at q
   exact l.apart b1 G L i1 H J M N p O q P m
 .by_cases e:d = b/\u' = B.cells.length
  .simp only[ao,ab e]at a
   simp at a;obtain⟨rfl,rfl⟩:=a;rw[n]at j;simp at j
  .simp only[ao,aa e]at a
   exact l.cQ (C' :=ao C b B.cells.length (B,w.heap.size)) (w' :=bU w (.cells c el)) ev a j (lV w _ (o id ⟨d, u', B', a,kQ j⟩)) (l.maps d u' B' id es a j).1
 .obtain⟨d, u', B', a,j⟩:=g
  by_cases e:d = b/\u' = B.cells.length
  .simp only[ao,ab e]at a
   simp at a;right;omega
  .simp only[ao,aa e]at a
   exact .inl ⟨d, u', B', a,j⟩
theorem U8{C:Ctx}{w:World}(l:Good C w)(O:¬C.lim b 0) :
  Good (ao C b 0 (⟨some 0,[],.map []⟩,w.heap.size)) (bU w (.map #[] 0))/\Step C w (ao C b 0 (⟨some 0,[],.map []⟩,w.heap.size)) (bU w (.map #[] 0)):=by
 have ev:fF C w.heap (ao C b 0 (⟨some 0,[],.map []⟩,w.heap.size)) (bU w (.map #[] 0)).heap:=by
  refine⟨λ_ h=>h,λk j=>lV w _ (l.I k j),λ_ _ h=>.inr h,λd u' B' id g a=>?_⟩;have m:¬(d = b/\u' = 0):=λ⟨q,r⟩=>O (q▸r▸g);simp only[ao,aa m]at a;refine⟨B', a,rfl,rfl,λc' s u =>⟨c', ?_,rfl⟩⟩;rw[lV w _ (ju.1 u).1];exact u
 have n:∀k,owned C k->k<w.heap.size:=λk j=>l.lt j;refine⟨⟨λk j=>by have:=l.I k j;simp[bU];omega,λd u' B' id a=>?_,λd u' B' id a g=>?_,λb1 A J i1 B D K L o M p N m=>?_,λd u' B' id es a g=>?_⟩,
  ⟨ev,by simp[bU],λk j _=>lV w _ j,λk j=>?_,λk j=>.inl j,rfl,⟨rfl,aT _⟩,rfl⟩⟩
 .by_cases e:d = b/\u' = 0
  .simp only[ao,ab e]at a
   simp at a;obtain⟨rfl,rfl⟩:=a;exact⟨.inl e,e.2,λh=>by simp at h,by simp⟩
  .simp only[ao,aa e]at a
   obtain⟨E,z,F,G⟩:=l.kN d u' B' id a;exact⟨.inr E,z,F,G⟩
 .by_cases e:d = b/\u' = 0
  .simp only[ao,ab e]at a
   simp at a;obtain⟨rfl,rfl⟩:=a;simp at g
  .simp only[ao,aa e]at a
   obtain⟨E,c', s, z,F,G⟩:=l.live d u' B' id a g;refine⟨E,c', s, by rw[lV w _ (ju.1 z).1];exact z,F,λi x H=>?_⟩
   obtain⟨y,P,Q,R⟩:=G i x H;exact⟨y,P,VR.mono ev _ _ Q,R⟩
 .by_cases q:b1=b/\A=0<;>by_cases r:B=b/\D=0
  .exact absurd (q.1.trans r.1.symm) m
  .simp only[ao,ab q]at o;simp only[ao,aa r]at p
   simp at o;obtain⟨rfl,rfl⟩:=o;have:=n L ⟨B,D,K,p,N⟩;omega
  .simp only[ao,aa q]at o;simp only[ao,ab r]at p
   simp at p;obtain⟨rfl,rfl⟩:=p;have:=n i1 ⟨b1,A,J,o,M⟩;omega
  .simp only[ao,aa q]at o;simp only[ao,aa r]at p
   exact l.apart b1 A J i1 B D K L o M p N m
 .by_cases e:d = b/\u' = 0
  .simp only[ao,ab e]at a
   simp at a;obtain⟨rfl,rfl⟩:=a;simp at g;subst g;exact⟨λH=>Nat.lt_irrefl _ (l.I _ H),#[],0,nm w _,rfl⟩
  .simp only[ao,aa e]at a
   exact l.cQ (C' :=ao C b 0 (⟨some 0,[],.map []⟩,w.heap.size)) (w' :=bU w (.map #[] 0)) ev a g (lV w _ (n id ⟨d, u', B', a,kQ g⟩)) (l.maps d u' B' id es a g).1
 .obtain⟨d, u', B', a,g⟩:=j
  by_cases e:d = b/\u' = 0
  .simp only[ao,ab e]at a
   simp at a;right;omega
  .simp only[ao,aa e]at a
   exact .inl ⟨d, u', B', a,g⟩
end Ab
set_option linter.all false
namespace Ab
open Go
variable{P:Program}
def ck (P:Program) (ce:CE):Prop:=
 ∀f args σ r b, ce f args σ=some (r,b)->∀(ids:Nat->Nat) (I:Nat->Prop) (w:World) (vs:List Value),Good (ad σ ids I) w->bW (ad σ ids I) w.heap args vs->
  Calls P f vs.toArray w λe w' =>∃v a I', e = .returned v/\Good (ad b a I') w' /\VR (ad b a I') w'.heap r v/\Step (ad σ ids I) w (ad b a I') w'
def cR (C:Ctx) (w:World) (x:AV) (v:Value) (w' : World):Prop:=
 ∃I', Good {C with I:=I'} w' /\Step C w {C with I:=I'} w' /\VR {C with I:=I'} w'.heap x v
variable{x:AV}
theorem cR.same{C:Ctx}{w:World}{v:Value}(U:Good C w) (h:VR C w.heap x v):cR C w x v w:=⟨C.I,U,Step.refl _ _,h⟩
theorem Kh{C:Ctx}{w:World}(a:Good C w) (ids:Nat->Nat):Good (ad [] ids C.I) w:=
 ⟨a.I,λb u B id h=>by simp[ad,ak]at h,λb u B id h=>by simp[ad,ak]at h,λb u B id d u' B' id' h=>by simp[ad,ak]at h,λb u B id es h=>by simp[ad,ak]at h⟩
theorem mF{ids:Nat->Nat}{I:Nat->Prop}{k:Nat}:¬owned (ad [] ids I) k:=λ⟨b,u,B,h,_⟩=>by simp[ad,ak]at h
variable{f:Nat}{vs:List Value}
theorem wH{ce:CE}(l:ck P ce){args:List AV}(h:iE ce f args=some x){C:Ctx}{w:World}(q:Good C w)(r:bW C w.heap args vs) :
  Calls P f vs.toArray w λe w' =>∃v,e = .returned v/\cR C w x v w' :=by
 unfold iE at h;split at h<;>try(simp at h;done)
 rename_i s;cases m:ce f (args.map wk) []with
 |none=>simp[m]at h
 |some rs=>
  obtain⟨y,j⟩:=rs;simp only[m]at h;have n:bW (ad [] (λ_=>0) C.I) w.heap (args.map wk) vs:=(bW.free (show nu C w.heap (ad [] (λ_=>0) C.I) w.heap from⟨λ_ h=>h,λ_ _=>rfl⟩) _ _ s r).wk;refine(l f _ [] y j m (λ_=>0) C.I w vs (Kh q _) n).mono ?_;rintro e w' ⟨v,d, I', rfl,i,z,g⟩;refine⟨v,rfl,?_⟩
  let o:Nat->Prop:=λk=>I' k\/owned (ad j d I') k
  have p:=Ki (C2:={C with I:=o}) (λb u B _ A=>⟨_,mG d I' A⟩) i (fr:=false) ⟨λ_ k a=>.inl a,λk a=>.inr a⟩ h z
  obtain⟨D,E⟩:=q.nq g.size (λk a=>g.frame k a mF) o (λk a=>.inl (g.ev.au k a)) (λk a=>a.elim (i.I k) i.lt)
   (λk a=>a.elim (λh=>(g.ga k h).elim .inl (λh=>h.elim (λh=>absurd h mF) .inr)) (λh=>(g.fN k h).elim (λh=>absurd h mF) .inr)) g.os g.tape g.output
  exact⟨o,D,E,p⟩
theorem U9{ce:CE}(o:ck P ce){σ:List ah}{args d : List AV}{p:AV}{g : List ah}(E:bI (view σ false vd) args=some d) (F:ce f d []=some (p,g)) (G:bV g true p=some x)
  {C:Ctx} {w:World} (l:Good C w) (q:∀b u B,C.lim b u->upto σ b u=some B->∃id,C.own b u=some (B,id))  (r:bW C w.heap args vs) :
  Calls P f vs.toArray w λe w' =>∃v,e = .returned v/\cR C w x v w' :=by
 let n:Nat->Prop:=λk=>C.I k\/owned C k
 have s:Good (ad [] (λ_=>0) n) w:=
  ⟨λk a=>a.elim (l.I k) l.lt,λb u B id h=>by simp[ad,ak]at h,λb u B id h=>by simp[ad,ak]at h,λb u B id N u' B' id' h=>by simp[ad,ak]at h,λb u B id es h=>by simp[ad,ak]at h⟩
 have z:bW (ad [] (λ_=>0) n) w.heap d vs:=
  (wJ (λx y v H r=>zA (C2:=ad [] (λ_=>0) n) q l (fr:=false) ⟨λ_ k a=>.inl a,λk a=>.inr a⟩ vd x y v H r) E r).2
 refine(o f d [] p g F (λ_=>0) n w vs s z).mono ?_;rintro e w' ⟨v,i, I', rfl,m,J,j⟩;refine⟨v,rfl,?_⟩
 let A:Nat->Prop:=λk=>C.I k\/owned (ad g i I') k
 have D:=Ki (C2:={C with I:=A}) (λb u B _ K=>⟨_,mG i I' K⟩) m (fr:=true) ⟨λh=>by simp at h,λk a=>.inr a⟩ G J
 obtain⟨L,M⟩:=l.nq j.size (λk a=>j.frame k a mF) A (λk a=>.inl a) (λk a=>a.elim (λh=>sH (l.I k h) j.size) m.lt)
  (λk a=>a.elim .inl (λh=>(j.fN k h).elim (λh=>absurd h mF) .inr)) j.os j.tape j.output
 exact⟨A,L,M,D⟩
section
variable{a:Act}{r:Rf->AV}{w:World}{C:Ctx}{R:Operand->Rf->Bool}{ce:CE}{σ:List ah}{nl:Nat}{ps:List cD}
variable{o:Oper}{x:AV}
theorem Plain.does(U:Good C w) (h:Plain P a.eval o w C w.heap x):bA P o a w (cR C w x):=by
 obtain⟨v,h1,h2⟩:=h;exact bA.val h1 (cR.same U h2)
variable{f:Nat}
theorem wK(h:cz P f=true) (args:Array Value) (w:World):(callFunc f args).run P w = .ok (.enter f args) w:=by
 unfold cz at h;cases a:P.funcs[f]? with
 |none=>simp[a]at h
 |some fn=>
  simp[a]at h;simp only[callFunc,aS,program,Sem.run,aU,a];rw[aa (by simpa using h.2)]
  cases d:fn.body with
  |none=>simp[d]at h
  |some b=>simp
variable{ca:Call}
theorem zB(b:o.op = .call ca) (d:ca.callee = .value (.func f)) (e:cz P f=true) (w:World) :
  (execOp a.eval o).run P w = .ok (.enter f (ca.args.toList.map a.eval).toArray) w:=by
 have:ca.args.map a.eval=(ca.args.toList.map a.eval).toArray:=by rw[<-Array.toList_inj];simp
 simp only[execOp,b,resolve,d,aS,Act.eval,Deferred.ofValue,bh,aU,invoke];simp only[Array.append_empty,Array.empty_append];rw[show Array.map a.eval ca.args=(ca.args.toList.map a.eval).toArray from this];exact wK e _ w
variable{ys:List Rf}{p:Option cD}
theorem Va(d:ck P ce) (g:o.op = .call ca) (h:ca.callee = .value (.func f)) (i:cz P f=true) (j:Good C w)
  (l:bW C w.heap (ys.map r) (ca.args.toList.map a.eval)) (b:ev ce σ nl ps r (.kl f ys)=some (x,p)):bA P o a w (cR C w x)/\p=none:=by
 simp only[ev]at b;cases e:iE ce f (ys.map r)with
 |none=>simp[e]at b
 |some m =>
  simp[e]at b;obtain⟨rfl,rfl⟩:=b;exact⟨bA.call (zB g h i w) (wH d e j l),rfl⟩
theorem Kj(i:ck P ce) (z:o.op = .call ca) (A:ca.callee = .value (.func f)) (D:cz P f=true) (E:Good C w)
  (j:∀b u B,C.lim b u->upto σ b u=some B->∃id,C.own b u=some (B,id))
  (s:bW C w.heap (ys.map r) (ca.args.toList.map a.eval)) (d:ev ce σ nl ps r (.qN f ys)=some (x,p)):bA P o a w (cR C w x)/\p=none:=by
 simp only[ev]at d;cases g:bI (λx=>view σ false vd (r x)) ys with
 |none=>simp[g]at d
 |some e =>
  simp only[g]at d;cases h:ce f e []with
  |none=>simp[h]at d
  |some q=>
   obtain⟨F,l⟩:=q;simp only[h]at d;cases m:bV l true F with
   |none=>simp[m]at d
   |some H =>
    simp[m]at d;obtain⟨rfl,rfl⟩:=d;have n : bI (view σ false vd) (ys.map r)=some e :=by
     rw[<-g];clear g h s
     induction ys with
     |nil=>rfl
     |cons y ys G=>simp only[cJ,bI,G]
    exact⟨bA.call (zB z A D w) (U9 i n h m E j s),rfl⟩
def dX (P:Program) (ce:CE):Prop:=∀f args σ r,ce f args σ=some r->cz P f=true
theorem Kk{x:Operand}{vs:List Value}(b:o.op = .call ca) (d:ca.callee = .value x) (e:a.eval x = .func (.func f) #[] vs.toArray) (g:cz P f=true) (w:World) :
  (execOp a.eval o).run P w = .ok (.enter f (ca.args.toList.map a.eval++vs).toArray) w:=by
 have:Array.map a.eval ca.args++vs.toArray=(ca.args.toList.map a.eval++vs).toArray:=by rw[<-Array.toList_inj];simp
 simp only[execOp,b,resolve,d,aS,e,Deferred.ofValue,bh,aU,invoke];simp only[Array.empty_append];rw[this];exact wK g _ w
variable{x0:Operand}{y:Rf}
theorem Vb(i:ck P ce) (j:dX P ce) (n:o.op = .call ca) (s:ca.callee = .value x0) (u:Good C w)
  (l:VR C w.heap (r y) (a.eval x0)) (z:bW C w.heap (ys.map r) (ca.args.toList.map a.eval)) (g:ev ce σ nl ps r (.kR y ys)=some (x,p)):bA P o a w (cR C w x)/\p=none:=by
 simp only[ev]at g;cases m:r y<;>simp only[m]at g<;>try(simp at g;done)
 rename_i f b;cases d:iE ce f (ys.map r++b)with
 |none=>simp[d]at g
 |some D =>
  simp[d]at g;obtain⟨rfl,rfl⟩:=g;rw[m]at l;unfold VR at l;obtain⟨vs,e,A⟩:=l;have B:cz P f=true:=by
   unfold iE at d;split at d<;>try(simp at d;done)
   cases h : ce f ((ys.map r++b).map wk) []with
   |none=>simp only[h]at d;simp at d
   |some q=>exact j _ _ _ _ h
  exact⟨bA.call (Kk n s e B w) (wH i d u (z.append A)),rfl⟩
theorem Kl{m:String}:∀{pA:List (Nat×Nat)}{t f:Nat},pB P m pA=true->eA pA t=some f->∀(w:World) (v:Value),(method (P.types.size+Made.depth) t v m).run P w = .ok (f,v) w
 | [],t,f,_,h=>by simp[eA]at h
 |(t', f')::rest,t,f,ht,h=>by
  simp only[pB,aA]at ht;simp only[eA]at h
  by_cases e:t' = t
  .subst e
   simp at h;subst h;intro w v;obtain⟨n,hn⟩:∃n,P.types.size+Made.depth=n+1:=⟨P.types.size+Made.depth-1,(by have:0<Made.depth:=(by decide);omega)⟩
   rw[hn];have h1:=ht.1;cases hi:P.info? t' with
   |none=>simp[hi]at h1
   |some i=>
    simp only[hi]at h1;cases hm:i.methods.find? (λx=>x.name==m)with
    |none=>simp[hm]at h1
    |some x=>
     simp only[hm,aA]at h1;obtain⟨hp,h1⟩:=h1;have hpe:x.path = #[]:=by simpa using hp
     cases hf:x.func with
     |none=>simp[hf]at h1
     |some gp=>
      obtain⟨g,ptr⟩:=gp;simp only[hf,aA,cF]at h1;obtain⟨rfl,h1⟩:=h1;cases hu:P.underlying t' with
      |none=>simp[hu]at h1
      |some d=>
       simp only[hu]at h1;have hr:(receiverAt t' (.val v) ptr (if x.path.isEmpty then some ((m.splitOn ".").getLastD m)else none)).run P w = .ok v w:=by
        unfold receiverAt;simp only[aS,run_underlying hu,aU];cases d<;>cases ptr<;>simp_all [Place.get]
       simp only[method,aS,run_typeInfo w hi,aU,hm,hpe,follow,bh,hf];rw[hpe]at hr;simp only[hr,aU,bh]
  .have e' : (t' == t)=false:=by simpa using e
   simp only[e', eo,eJ]at h;exact Kl ht.2 h
variable{m:String}{pA:List (Nat×Nat)}{v:Value}
theorem Vc{t:Nat}(b:o.op = .call ca) (d:ca.callee = .invoke x0 m) (e:a.eval x0 = .iface t v)
  (g:pB P m pA=true) (h:eA pA t=some f) (i:cz P f=true) (w:World) :
  (execOp a.eval o).run P w = .ok (.enter f (v::ca.args.toList.map a.eval).toArray) w:=by
 have j:=Kl g h w v;have l:(#[Value.iface t v]++Array.map a.eval ca.args)[0]? = some (.iface t v):=by rw[kq (by show 0<1;omega)];rfl
 have n:(#[Value.iface t v]++Array.map a.eval ca.args).extract 1 (#[Value.iface t v]++Array.map a.eval ca.args).size=Array.map a.eval ca.args:=by
  rw[<-Array.toList_inj];simp;rw[fc (by simp)]
 have p : #[v]++Array.map a.eval ca.args=(v::ca.args.toList.map a.eval).toArray:=by rw[<-Array.toList_inj];simp
 simp only[execOp,b,resolve,d,aS,bh,aU,invoke,e,l,n,callMethod,program,Sem.run,j];rw[p];exact wK i _ w
theorem Ve(h:ck P ce) (i:dX P ce) (s:o.op = .call ca) (u:ca.callee = .invoke x0 m) (z:pB P m pA=true) (A:Good C w)
  (j:VR C w.heap (r y) (a.eval x0)) (B:bW C w.heap (ys.map r) (ca.args.toList.map a.eval)) (b:ev ce σ nl ps r (.inv y pA ys)=some (x,p)):bA P o a w (cR C w x)/\p=none:=by
 simp only[ev]at b;cases n:r y<;>simp only[n]at b<;>try(simp at b;done)
 rename_i t q;cases l:eA pA t with
 |none=>simp[l]at b
 |some f=>
  simp only[l]at b;cases d:iE ce f (q::ys.map r)with
  |none=>simp[d]at b
  |some F =>
   simp[d]at b;obtain⟨rfl,rfl⟩:=b;rw[n]at j;unfold VR at j;obtain⟨v,e,D⟩:=j;have E:cz P f=true:=by
    unfold iE at d;split at d<;>try(simp at d;done)
    cases g : ce f ((q::ys.map r).map wk) []with
    |none=>simp only[g]at d;simp at d
    |some q=>exact i _ _ _ _ g
   exact⟨bA.call (Vc s u e z l E w) (wH h d A ⟨v,_,rfl,D,B⟩),rfl⟩
theorem Vf(b:Good C w) (d:aI x=true) (e:VR C w.heap x v) (t:TypeId):cR C w (.aV x) (.pointer (some ⟨w.heap.size,0,none⟩)) (bU w (.cells v.cells t)):=by
 obtain⟨g,a⟩:=Dr b v.cells t;refine⟨_,g,a,?_⟩;unfold VR;exact⟨d,w.heap.size,0,v.cells,t,(0,0),v,rfl,.inr rfl,nm w _,VR.mono a.ev _ _ e,λj h=>by simp⟩
theorem Vg{t:TypeId}(d:o.op = .box t x0) (e:Good C w) (g:VR C w.heap (r y) (a.eval x0)) (b:ev ce σ nl ps r (.eR y)=some (x,p)) :
  bA P o a w (cR C w x)/\p=none:=by
 simp only[ev]at b;split at b<;>simp at b
 rename_i h;obtain⟨rfl,rfl⟩:=b;refine⟨bA.val (v:=.pointer (some ⟨w.heap.size,0,none⟩)) (w' :=bU w (.cells (a.eval x0).cells t)) ?_ (Vf e h g t),rfl⟩;simp only[execOp,d,Instr.box,aS,zy,aU,bh]
theorem Vh{s d:TypeId}(L:o.op = .convert s d x0)
  (A:(match P.underlying s,P.underlying d with|some .string,some (.slice e)=>(match P.underlying e with|some (.int .u8)=>true|_=>false)|_,_=>false)=true)
  (J:Good C w) (B:VR C w.heap (r y) (a.eval x0)) (m:ev ce σ nl ps r (.JE y)=some (x,p)):bA P o a w (cR C w x)/\p=none:=by
 have M:∃e,P.underlying s=some .string/\P.underlying d=some (.slice e)/\P.underlying e=some (.int .u8):=by
  split at A
  .rename_i e D N
   split at A
   .rename_i O;exact⟨e,D,N,O⟩
   .simp at A
  .simp at A
 obtain⟨e,Q,hd,E⟩:=M;simp only[ev]at m;cases K:r y<;>simp only[K]at m<;>try(simp at m;done)
 rename_i t;simp at m;obtain⟨R,S⟩:=m;subst R S;rw[K]at B;unfold VR at B;have g:=Go.Lib.run_convert_string_bytes (P:=P) w s d e ⟨t.toArray⟩ Q hd E;have F:(⟨t.toArray⟩:ByteArray).size=t.length:=by show t.toArray.size=_;simp
 rw[F]at g;have W:=Go.Lib.bytesWorld_size w e ⟨t.toArray⟩;have n:=Go.Lib.bytesWorld_at_new w e ⟨t.toArray⟩;have hold:=λk l=>Go.Lib.bytesWorld_at_old w e ⟨t.toArray⟩ k l;have G:∀(i:Nat) b,t[i]? = some b->(Go.Lib.bytesCells w e ⟨t.toArray⟩)[i]? = some (.int .u8 (b.toNat:Int)):=λi b u=>by
  have H:=(dq.1 u).1;unfold Go.Lib.bytesCells;rw[kq (by simpa using H)]
  simp[u]
 have z:t.length<=grownCap w t.length 0 e:=grownCap_ge w _ _ _;obtain⟨T,U⟩:=J.nq (w' :=Go.Lib.bytesWorld w e ⟨t.toArray⟩) (by omega) hold (λk=>C.I k\/k=w.heap.size) (λk l=>.inl l)
  (λk l=>l.elim (λh=>by have:=J.I k h;omega) (λh=>by omega)) (λk l=>l.elim .inl (λh=>.inr (by omega))) rfl ⟨rfl,Nat.le_succ _⟩ rfl
 refine⟨bA.val (v:=.slice (some ⟨w.heap.size,0,none⟩) t.length (grownCap w t.length 0 e)) (w' :=Go.Lib.bytesWorld w e ⟨t.toArray⟩) ?_ ⟨_,T,U,?_⟩,rfl⟩
 .simp only[execOp,L,B,aS,g,aU,bh]
 .unfold VR
  refine⟨zC λq V=>?_,.inr ⟨w.heap.size,0,grownCap w t.length 0 e,1,_,e,_,?_,?_,.inr rfl,n,jc.of λi q u=>?_⟩⟩
  .obtain⟨b,_,rfl⟩:=cB.1 V;rfl
  .simp
  .simpa using z
  .rw[fS]at u
   obtain⟨b,D,rfl⟩:=mH.1 u;refine⟨.int .u8 (b.toNat:Int),zD,rfl,λj X=>?_⟩;obtain rfl:j=0:=by omega
   rw[show 0+i*1+0=i by omega,G i b D];rfl
end
end Ab
set_option linter.all false
namespace Ab
open Go
variable{P:Program}
section
variable{a:Act}{ρ:Operand->Value}{r:Rf->AV}{w:World}{C:Ctx}{R:Operand->Rf->Bool}{ce:CE}{σ:List ah}{nl:Nat}{ps:List cD}
theorem Km (a:Nat):∀(vs:List Value) (k:Nat) (c:Array Value),(∀v,v∈vs->v.cells.size=a)->(k+vs.length)*a<=c.size->
  ∃c', Instr.fill (λi=>some (i*a,a)) c ((vs.zipIdx k).map λp=>(p.2,p.1))=some c' /\c'.size=c.size/\(∀i,i<k*a->c'[i]? = c[i]?)/\
   ∀(i:Nat) v,vs[i]? = some v->∀j,j<a->c'[(k+i)*a+j]? = v.cells[j]?
 | [],k,c,_,_=>⟨c,rfl,rfl,λ_ _=>rfl,λi v h=>by simp at h⟩
 |v::vs,k,c,e,l=>by
  have m:=e v (by simp)
  have s:k*a+a<=c.size:=by
   have:(k+1)*a<=(k+(v::vs).length)*a:=kS _ (by simp)
   rw[eX]at this;omega
  simp only[List.zipIdx_cons,cJ,Instr.fill];rw[aa (by rw[m];simp;omega)]
  have d:∀i,(v.cells.zipIdx.foldl (λcs (c,j)=>cs.setIfInBounds (k*a+j) c) c).size=c.size/\(v.cells.zipIdx.foldl (λcs (c,j)=>cs.setIfInBounds (k*a+j) c) c)[i]? = if k*a<=i/\i<k*a+v.cells.size then v.cells[i-k*a]? else c[i]?:=λi=>by
   have:=Ds (k*a) v.cells.toList 0 c i (by simp;omega)
   rw[<-Array.foldl_toList];simp only[Array.toList_zipIdx];simpa using this
  obtain⟨c', n,o,g,q⟩:=Km a vs (k+1) (v.cells.zipIdx.foldl (λcs (c,j)=>cs.setIfInBounds (k*a+j) c) c) (λu b=>e u (by simp[b])) (by
   rw[(d 0).1];have:(k+(v::vs).length)=k+1+vs.length:=by simp;omega
   rwa [this]at l)
  refine⟨c', n,by rw[o,(d 0).1],λi w=>?_,λi u b j r=>?_⟩
  .rw[g i (by rw[eX];omega),(d i).2,aa (by omega)]
  .cases i with
   |zero=>
    simp at b;subst b;simp only[lW];rw[g _ (by rw[eX];omega),(d _).2,ab (by omega)]
    congr 1;omega
   |succ i=>
    have:=q i u (by simpa using b) j r
    rw[show k+(i+1)=k+1+i by omega]
    exact this
theorem uI{st:Nat}:∀{l:List AV},fitAll st l=true->∀x∈l,x.cells.length=st/\il x
 | [],_,x,a=>by simp at a
 |y::l,h,x,a=>by
  simp only[fitAll,aA,cF]at h;rcases b5.1 a with rfl|a
  .exact⟨h.1.1,zE h.1.2⟩
  .exact uI h.2 x a
theorem Kn:∀{k:Nat}{ps:List (Nat×Operand)},fO k ps=true->∀(f:Operand->Value),ps.map (λp=>(p.1,f p.2))=((ps.map λp=>f p.2).zipIdx k).map λp=>(p.2,p.1)
 |_,[],_,_=>rfl
 |k,(i,x)::r,h,f=>by
  simp only[fO,aA,cF]at h;simp only[cJ,List.zipIdx_cons,h.1];rw[Kn h.2 f]
theorem bW.get'{H:Array Obj}:∀{l:List AV}{vs:List Value},bW C H l vs->∀(i:Nat) v,vs[i]? = some v->∃x,l[i]? = some x/\VR C H x v
 | [],vs,h,i,v,hi=>by rw[show vs=[]from h]at hi;simp at hi
 |x::l,_,⟨V,s,e,hx,U⟩,0,v,hi=>by rw[e]at hi;simp at hi;subst hi;exact⟨x,rfl,hx⟩
 |x::l,_,⟨V,s,e,hx,U⟩,i+1,v,hi=>by rw[e]at hi;exact bW.get' U i v (by simpa using hi)
variable{t:TypeId}{st:Nat}{xs:Array (Nat×Operand)}{ys:List Rf}
theorem Dt{e:TypeId}{n:Nat}(L:aN P t=some e) (y:cm P e st=true) (s:cH P e=true) (V:n*st<=2^24) (M:(n==xs.size)=true) (N:fO 0 xs.toList=true)
  (u:bW C w.heap (ys.map r) ((xs.toList.map (·.2)).map ρ)) (H:fitAll st (ys.map r)=true) :
  ∃c:Array Value,(Instr.buildSlice t n (xs.map λ(i,x)=>(i,ρ x))).run P w = .ok (.slice (some ⟨w.heap.size,0,none⟩) ys.length ys.length) (bU w (.cells c e))/\c.size=ys.length*st/\
   ∀(i:Nat) x,(ys.map r)[i]? = some x->∃v,VR C w.heap x v/\v.cells.size=st/\il x/\∀j,j<st->c[i*st+j]? = v.cells[j]?:=by
 have hlen:ys.length=n:=by
  have a:=bW.length u;simp at a M;omega
 have A:(xs.map λ(i,x)=>(i,ρ x)).toList=(((xs.toList.map (·.2)).map ρ).zipIdx 0).map λp=>(p.2,p.1):=by
  have:=Kn N ρ;simp only[Array.toList_map,List.map_map]at this ⊢;exact this
 have B:∀v,v∈(xs.toList.map (·.2)).map ρ->v.cells.size=st:=λv O=>by
  obtain⟨i,b⟩:=List.getElem?_of_mem O;obtain⟨x,a,d⟩:=bW.get' u i v b;obtain⟨h,D⟩:=uI H x (qO a);rw[VR.size D d,h]
 obtain⟨z,E⟩:∃z,(zeroValue e).run P w = .ok z w:=by
  unfold cH at s;cases b:P.info? e with
  |none=>simp[b]at s
  |some i=>
   simp only[b]at s;cases l:i.zero with
   |none=>simp[l]at s
   |some z=>exact⟨z,by simp only[zeroValue,aS,run_typeInfo w b,aU,l,bh]⟩
 have I:=lY L w;have m:=kr y w;have F:((xs.toList.map (·.2)).map ρ).length=n:=by have:=bW.length u;simp at this;simp;omega
 -- g Q zero cells R
 have key:∀o:Array Value,∃c,Instr.fill (λi=>some (i*st,st)) ((Array.range (n*st)).map λq=>o[q%o.size]!) (xs.map λ(i,x)=>(i,ρ x)).toList=some c/\c.size=ys.length*st/\
   ∀(i:Nat) x,(ys.map r)[i]? = some x->∃v,VR C w.heap x v/\v.cells.size=st/\il x/\∀j,j<st->c[i*st+j]? = v.cells[j]?:=λo=>by
  obtain⟨c,a,d,_,D⟩:=Km st ((xs.toList.map (·.2)).map ρ) 0 ((Array.range (n*st)).map λq=>o[q%o.size]!) B (by rw[F];simp)
  refine⟨c,by rw[A];exact a,by rw[d,hlen];simp,λi x b=>?_⟩
  obtain⟨v,S,J⟩:=u.get i x b;obtain⟨T,K⟩:=uI H x (qO b);exact⟨v,J,by rw[VR.size K J,T],K,λj U=>by have:=D i v S j U;simpa using this⟩
 by_cases G:n*st=0
 .obtain⟨c,a,d,h⟩:=key #[]
  refine⟨c,?_,d,h⟩;simp only[Instr.buildSlice,aS,I,m,aU];rw[aa (by omega)]
  simp only[G,dt,aS,bh,aU];simp only[G]at a;simp only[a,wG,aS,bh,aU,hlen]
 .obtain⟨c,a,d,h⟩:=key z.cells
  refine⟨c,?_,d,h⟩;simp only[Instr.buildSlice,aS,I,m,aU];rw[aa (by omega)]
  simp only[G,eJ,aS,E, bh,aU];simp only[a,wG,aS,bh,aU,hlen]
variable{o:Oper}{x:AV}{p:Option cD}
theorem Vi{e:TypeId}{n:Nat}(m:o.op = .buildSlice t n xs) (q:aN P t=some e) (d:cm P e st=true) (s:cH P e=true) (u:n*st<=2^24) (y:(n==xs.size)=true) (g:fO 0 xs.toList=true)
  (z:Good C w) (A:bW C w.heap (ys.map r) ((xs.toList.map (·.2)).map a.eval)) (b:ev ce σ nl ps r (.bD ys st)=some (x,p)):bA P o a w (cR C w x)/\p=none:=by
 simp only[ev]at b;split at b<;>simp at b
 rename_i h;obtain⟨rfl,rfl⟩:=b;simp only[aA]at h;obtain⟨c,B,K,D⟩:=Dt q d s u y g A h.2;refine⟨bA.val (v:=.slice (some ⟨w.heap.size,0,none⟩) ys.length ys.length) (w' :=bU w (.cells c e)) ?_ ?_,rfl⟩
 .simp only[execOp,m,aS,B,aU,bh]
 .obtain⟨E,l⟩:=Dr z c e
  refine⟨_,E,l,?_⟩;unfold VR;refine⟨h.1,.inr ⟨w.heap.size,0,ys.length,st,c,e,(0,0),by simp,by simp,.inr rfl,nm w _,jc.of λi x F=>?_⟩⟩
  obtain⟨v,G,H,_,I⟩:=D i x F;exact⟨v,VR.mono l.ev _ _ G,H,λj J=>by rw[gq];exact I j J⟩
theorem Ko{e:TypeId}{n:Nat}(l:o.op = .buildSlice t n xs) (m:aN P t=some e) (d:cm P e st=true) (q:cH P e=true) (s:n*st<=2^24) (u:(n==xs.size)=true) (g:fO 0 xs.toList=true)
  (y:Good C w) (z:bW C w.heap (ys.map r) ((xs.toList.map (·.2)).map a.eval)) (b:ev ce σ nl ps r (.cp ys st)=some (x,p)):bA P o a w (cR C w x)/\p=none:=by
 simp only[ev]at b;split at b<;>simp at b
 rename_i A;obtain⟨rfl,rfl⟩:=b;obtain⟨c,B,K,D⟩:=Dt m d q s u g z A;refine⟨bA.val (v:=.slice (some ⟨w.heap.size,0,none⟩) ys.length ys.length) (w' :=bU w (.cells c e)) ?_ ?_,rfl⟩
 .simp only[execOp,l,aS,B,aU,bh]
 .obtain⟨E,h⟩:=Dr y c e
  refine⟨_,E,h,?_⟩;unfold VR;refine⟨w.heap.size,0,st,c,e,(0,0),by simp,.inr rfl,nm w _,jc.of λi x F=>?_⟩
  obtain⟨v,G,H,_,I⟩:=D i x F;exact⟨v,VR.mono h.ev _ _ G,H,λj J=>by rw[gq];exact I j J⟩
def Ext (nl:Nat):Option cD->Ctx->Ctx->Prop
 |none,C,C' =>C'.own=C.own/\C'.lim=C.lim
 |some (.new B),C,C' =>∃id,C'.own=(ao C nl B.cells.length (B,id)).own/\C'.lim=(ao C nl B.cells.length (B,id)).lim
 |some (.news l),C,C' =>∃ids:Nat->Nat,C'.own=(λb u=>if nl<=b/\b<nl+l.length then(ad l ids C.I).own (b-nl) u else C.own b u)/\C'.lim=(λb u=>(nl<=b/\(ad l ids C.I).lim (b-nl) u)\/C.lim b u)
 |some (.grow b cs),C,C' =>∃a d id,cs ≠ []/\C.own b a.cells.length=some (a,d)/\C'.own=(ao C b (a.cells++cs).length (⟨a.k,a.cells++cs,.live⟩,id)).own/\C'.lim=(ao C b (a.cells++cs).length (⟨a.k,a.cells++cs,.live⟩,id)).lim
def iq (nl:Nat) (C:Ctx) (w:World) (x:AV) (p:Option cD) (v:Value) (w' : World):Prop:=
 ∃C', Good C' w' /\Step C w C' w' /\VR C' w'.heap x v/\Ext nl p C C'
theorem Vj{e:TypeId}{n:Nat}(j:o.op = .buildSlice t n xs) (l:aN P t=some e) (d:cm P e st=true) (m:cH P e=true) (g:n=0) (b:xs.size=0)
  (q:Good C w) (h:ev ce σ nl ps r (.qP st)=some (x,p)):bA P o a w (cR C w x)/\p=none:=by
 simp only[ev,bJ,Prod.mk.injEq]at h;obtain⟨rfl,rfl⟩:=h;obtain⟨s,_⟩:=Ko (P:=P) (a:=a) (r:=r) (ce:=ce) (σ:=σ) (nl:=nl) (ps:=ps) (ys:=[]) (x:=.arr []) (p:=none) j l d m (by subst g;simp) (by rw[b,g];rfl) (by
  have:xs.toList=[]:=by rw[<-List.length_eq_zero_iff];simpa using b
  rw[this];rfl) q (by
  have:xs.toList=[]:=by rw[<-List.length_eq_zero_iff];simpa using b
  rw[this];rfl) (by simp[ev,fitAll])
 refine⟨s.mono λv w' ⟨I', u,y,i⟩=>⟨I', u,y,?_⟩,rfl⟩;unfold VR at i ⊢;obtain⟨ak,off,z, c,el,B,A,_⟩:=i;exact⟨_,A⟩
variable{v:Value}
theorem cR.e{nl:Nat}{w' : World}(h:cR C w x v w'):iq nl C w x none v w' :=by
 obtain⟨I', h1,h2,h3⟩:=h;exact⟨_,h1,h2,h3,rfl,rfl⟩
variable{B:ah}{c:Array Value}{el:TypeId}
theorem zF(b:Good C w) (d:∀u,¬C.lim nl u) (a:B.st = .live) (hle:B.cells.length<=c.size)
  (e:∀(i:Nat) x,B.cells[i]? = some x->∃y,c[i]? = some y/\VR C w.heap x y/\y.oneCell' = true)
  (g:∀C', C'.own nl B.cells.length=some (B,w.heap.size)->C'.lim nl B.cells.length->VR C' (bU w (.cells c el)).heap x v):iq nl C w x (some (.new B)) v (bU w (.cells c el)):=by
 obtain⟨h,j⟩:=zz b B (d _) c el a hle e;exact⟨_,h,j,g _ (by simp[ao]) (.inl ⟨rfl,rfl⟩),w.heap.size,rfl,rfl⟩
theorem Du{H:Array Obj}(b:il x) (h:VR C H x v):∀(i:Nat) q,x.cells[i]? = some q->∃y,v.cells[i]? = some y/\VR C H q y/\y.oneCell' = true:=λi q d=>by
 obtain⟨e,g⟩:=VR.cells b h;obtain⟨y,a,j⟩:=e.get i q d;rw[iu]at a;exact⟨y,a,j,g y (by rw[sI];exact Array.mem_of_getElem? a)⟩
variable{id b u:Nat}
theorem Kq{C' : Ctx}{H:Array Obj}(a:C'.own b u=some (B,id)) (d:C'.lim b u):VR C' H (.ptr b u 0) (.pointer (some ⟨id,0,none⟩)):=by
 unfold VR;exact⟨⟨id,rfl⟩,d,λB' id' h _=>by rw[a]at h;simp at h;rw[h.2]⟩
theorem uJ{C' : Ctx}{H:Array Obj}{len cap:Nat}(d:C'.own b u=some (B,id)) (e:C'.lim b u) (g:B.st = .live) (i:H[id]? = some (.cells c el (0,0))) (a:len<=cap)
  (j:cap*aE B.k=c.size):VR C' H (.sl b u 0 len) (.slice (some ⟨id,0,none⟩) len cap):=by
 unfold VR;refine⟨⟨_,_,rfl,a,λ_=>⟨id,rfl⟩⟩,e,λB' id' h=>?_⟩;rw[d]at h;simp at h;obtain⟨rfl,rfl⟩:=h;simp only[g];exact⟨c,el,0,cap,i,rfl,λ_=>rfl,a,by omega⟩
variable{k:Option Nat}
theorem Vk{d:Operand}{y:Rf}(l:o.op = .box t d) (m:Good C w) (n:∀u,¬C.lim nl u) (g:VR C w.heap (r y) (a.eval d))
  (b:ev ce σ nl ps r (.sJ y k)=some (x,p)):bA P o a w (iq nl C w x p):=by
 simp only[ev]at b;split at b<;>simp at b
 rename_i e;simp only[aA,cF]at e;obtain⟨rfl,rfl⟩:=b;have h:=zE e.2;refine bA.val (v:=.pointer (some ⟨w.heap.size,0,none⟩)) (w' :=bU w (.cells (a.eval d).cells t)) ?_ (zF m n rfl ?_ ?_ ?_)
 .simp only[execOp,l,Instr.box,aS,zy,aU,bh]
 .rw[VR.size h g];exact aT _
 .exact Du h g
 .intro C' i j
  simp only[e.1]at i j;exact Kq i j
theorem Vl{z:List AV}(l:o.op = .alloc t) (m:gW P t z=true) (n:Good C w) (s:∀u,¬C.lim nl u)
  (b:ev ce σ nl ps r (.ks z k)=some (x,p)):bA P o a w (iq nl C w x p):=by
 simp only[ev]at b;split at b<;>simp at b
 rename_i e;simp only[cF]at e;obtain⟨rfl,rfl⟩:=b;obtain⟨v,A,g,B⟩:=zG (C:=C) m w;refine bA.val (v:=.pointer (some ⟨w.heap.size,0,none⟩)) (w' :=bU w (.cells v.cells t)) ?_ (zF n s rfl ?_ ?_ ?_)
 .simp only[execOp,l,Instr.alloc,aS,A,zy,aU,bh]
 .have:=bW.length g;simp at this;simp[this]
 .intro i q D
  obtain⟨y,d,E⟩:=g.get i q D;rw[iu]at d;exact⟨y,d,E,B y (by rw[sI];exact Array.mem_of_getElem? d)⟩
 .intro C' h j
  simp only[e]at h j;exact Kq h j
theorem zH{st:Nat}:∀{l:List AV},(∀x∈l,x.cells.length=st)->(l.flatMap AV.cells).length=l.length*st/\∀(i:Nat) x j,l[i]? = some x->j<st->(l.flatMap AV.cells)[i*st+j]? = x.cells[j]?
 | [],_=>⟨by simp,λi x j h=>by simp at h⟩
 |y::l,h=>by
  obtain⟨d,e⟩:=zH (l:=l) λx g=>h x (by simp[g])
  have a:=h y (by simp)
  refine⟨by simp only[gX,aY,d,a,bX];rw[eX];omega,λi x j b m=>?_⟩
  simp only[gX];cases i with
  |zero=>
   simp at b;subst b;rw[eC (by omega)];simp
  |succ i=>
   rw[eK (by rw[a,eX];omega),a,<-e i x j (by simpa using b) m]
   congr 1
   rw[eX];omega
theorem Kr{H:Array Obj}{l:List AV}{off:Nat}(g:∀x∈l,x.cells.length=st)
  (h:∀(i:Nat) x,l[i]? = some x->∃v,VR C H x v/\v.cells.size=st/\il x/\∀j,j<st->c[off+(i*st+j)]? = v.cells[j]?) :
  ∀(i:Nat) q,(l.flatMap AV.cells)[i]? = some q->∃y,c[off+i]? = some y/\VR C H q y/\y.oneCell' = true:=λi q d=>by
 obtain⟨p,r⟩:=zH g;have b:=(dq.1 d).1;rw[p]at b;have a:0<st:=by
  rcases Nat.eq_zero_or_pos st with m|m
  .subst m;simp at b
  .exact m
 have n:i/st<l.length:=(sK a).2 b;have o:=Nat.mod_lt i a;have e:i=i/st*st+i%st:=by rw[jd];exact(Nat.div_add_mod i st).symm
 obtain⟨v,s,z,u,w⟩:=h (i/st) l[i/st] (by simp[n])
 rw[e]at d ⊢;rw[r (i/st) l[i/st] (i%st) (by simp[n]) o]at d
 rw[w _ o];exact Du u s _ q d
theorem Vm{e:TypeId}{n:Nat}(ho:o.op = .buildSlice t n xs) (ht:aN P t=some e) (jo:bu P e k=true) (hz:cH P e=true) (Ue : n*aE k<=2^24) (hn:(n==xs.size)=true) (hio:fO 0 xs.toList=true)
  (hg:Good C w) (hb:∀u,¬C.lim nl u) (hx:bW C w.heap (ys.map r) ((xs.toList.map (·.2)).map a.eval)) (he:ev ce σ nl ps r (.lZ ys k)=some (x,p)):bA P o a w (iq nl C w x p):=by
 simp only[ev]at he;split at he
 case isFalse=>simp at he
 rename_i hc;simp only[bJ,Prod.mk.injEq]at he;obtain⟨rfl,rfl⟩:=he;obtain⟨c,h1,h2,h3⟩:=Dt ht (mI jo) hz Ue hn hio hx hc;have Dw:∀x∈ys.map r,x.cells.length=aE k:=λx hx=>(uI hc x hx).1;obtain⟨f1,f2⟩:=zH Dw;refine bA.val (v:=.slice (some ⟨w.heap.size,0,none⟩) ys.length ys.length) (w' :=bU w (.cells c e)) ?_ (zF hg hb rfl ?_ ?_ ?_)
 .simp only[execOp,ho,aS,h1,aU,bh]
 .simp only[f1,h2];simp
 .intro i q hi
  have:=Kr (off:=0) Dw (λi x hi=>by obtain⟨v,g1,g2,g3,g4⟩:=h3 i x hi;exact⟨v,g1,g2,g3,λj hj=>by rw[gq];exact g4 j hj⟩) i q hi
  simpa using this
 .intro C' k1 k2
  exact uJ k1 k2 rfl (nm w _) (aT _) h2.symm
end
end Ab
set_option linter.all false
namespace Ab
open Go
variable{P:Program}
variable{w': World}
theorem Good.heap{C:Ctx}{w: World}(U:Good C w) (h:w'.heap=w.heap):Good C w' :=
 ⟨by rw[h];exact U.I,U.kN,by rw[h];exact U.live,U.apart,by rw[h];exact U.maps⟩
theorem Step.heap{C:Ctx}{w: World}(h:w'.heap=w.heap) (V:w'.os=w.os) (ht:w'.tape=w.tape/\w.drawn<=w'.drawn) (U:w'.output=w.output):Step C w C w' :=
 ⟨by rw[h];exact fF.refl _ _,by rw[h];exact aT _,λ_ _ _=>by rw[h],λ_ h=>.inl h,λ_ h=>.inl h,V,ht,U⟩
section
variable{a:Act}{ρ:Operand->Value}{r:Rf->AV}{w:World}{C:Ctx}{R:Operand->Rf->Bool}{ce:CE}{σ:List ah}{nl:Nat}{ps:List cD}
theorem Dx (z:List AV):∀(n:Nat),(dI n z).length=n*z.length/\∀i,i<n*z.length->(dI n z)[i]? = z[i%z.length]?
 |0=>⟨by simp[dI],λi b=>by simp at b⟩
 |n+1=>by
  obtain⟨d,g⟩:=Dx z n;have e:dI (n+1) z=z++dI n z:=by simp[dI,sL]
  refine⟨by rw[e,aY,d,eX];omega,λi b=>?_⟩
  rw[e]
  by_cases a:i<z.length
  .rw[eC a,pZ a]
  .rw[eK (by omega),g _ (by rw[eX]at b;omega)]
   congr 1
   rw[Nat.mod_eq_sub_mod (by omega:z.length<=i)]
theorem Ks{n:Int}(a:0<=n) (h:n<=dz):IntKind.i64.wrap n=n:=by
 unfold dz at h;exact IntWalk.i64_in n ⟨by omega,by omega⟩
theorem Kt{e:TypeId}(h:fe P e=true):∃i,P.info? e=some i/\i.bytes<=4096:=by
 unfold fe at h;cases a:P.info? e with
 |none=>simp[a]at h
 |some i=>simp[a]at h;exact⟨i,rfl,h⟩
set_option maxRecDepth 100000 in
theorem Vn{o:Oper}{t e:TypeId}{l c:Operand}{l' c' : Rf}{z:List AV}{k:Option Nat}{x:AV}{p:Option cD}(ho:o.op = .makeSlice t l c) (ht:aN P t=some e) (hk:bu P e k=true) (hz:gW P e z=true) (tW:fe P e=true)
  (hg:Good C w) (hb:∀u,¬C.lim nl u) (hl:VR C w.heap (r l') (a.eval l)) (hc:VR C w.heap (r c') (a.eval c)) (he:ev ce σ nl ps r (.iH l' c' z k)=some (x,p)):bA P o a w (iq nl C w x p):=by
 simp only[ev]at he;cases j8 : r l' <;>simp only[j8]at he<;>try(simp at he;done)
 cases wL : r c' <;>simp only[wL]at he<;>try(simp at he;done)
 rename_i n m;split at he
 case isFalse=>simp at he
 rename_i gr;simp only[bJ,Prod.mk.injEq]at he;obtain⟨rfl,rfl⟩:=he;rw[j8]at hl;rw[wL]at hc;have hl:=hl.ba;have hc:=hc.ba;obtain⟨h1,h2,h3,hzl⟩:=gr;obtain⟨M,rfl⟩:=gd (by omega:0<=m)
 obtain⟨N,rfl⟩:=gd h1;obtain⟨i,hi,tW⟩:=Kt tW;have JF:=kr (mI hk) w;obtain⟨zv,z1,z2,z3⟩:=zG (C:=C) hz w;have Ku:zv.cells.size=aE k:=by have:=bW.length z2;simp at this;omega
 have hM:(M:Int)<=1073741824:=h3;have Kv:∀q:Nat,q<=1073741824->(i.bytes:Int)*(q:Int)<=4398046511104:=λq hq=>by
  have h1:i.bytes*q<=4096*1073741824:=oP tW hq;have h2:((i.bytes*q:Nat):Int)<=((4398046511104:Nat):Int):=Int.ofNat_le.2 (by omega)
  rw[iI]at h2;omega
 have hbm:=Kv M (by omega)
 let zc:Array Value:=if M*aE k=0 then #[]else zv.cells
 have ft:(Instr.makeSlice t (a.eval l) (a.eval c)).run P w = .ok (.slice (some ⟨w.heap.size,0,none⟩) N M) (bU w (.cells ((Array.range (M*aE k)).map λq=>zc[q%zc.size]!) e)):=by
  rw[hl,hc];have ha:(askRoom (M*i.bytes)).run P w = .ok () w:=by
   unfold askRoom roomBytes;have:M*i.bytes<=1073741824*4096:=oP (by omega) tW
   rw[aa (by omega)];rfl
  simp only[Instr.makeSlice,aS,lY ht,aU,asInt,asIntOf,bh,run_typeInfo w hi];rw[Ks (by omega:(0:Int)<=N) (by omega),Ks (by omega:(0:Int)<=M) h3]
  have Vo : ¬((i.bytes:Int)*M>2^48):=by
   have:(2:Int)^48=281474976710656:=by decide
   omega
  have ang : ¬((i.bytes:Int)*N>2^48):=by
   have h48:(2:Int)^48=281474976710656:=by decide
   have:=Kv N (by omega)
   omega
  have c1:¬((M:Int)<0):=by omega
  have c2:¬((N:Int)<0):=by omega
  have c3:¬((N:Int)>(M:Int)):=by omega
  simp only[c1,c2,c3,Vo, decide_false,Bool.or_self,eo,eJ,or_self,je];simp only[aS,ha,JF,aU]
  by_cases h0:M*aE k=0
  .simp only[h0,dt,aS,bh,aU,wG]
   simp[zc,h0]
  .simp only[h0,eJ,aS,z1,bh,aU,wG]
   simp[zc,h0]
 simp only[je];obtain⟨d1,d2⟩:=Dx z M;rw[hzl]at d1 d2;refine bA.val (v:=.slice (some ⟨w.heap.size,0,none⟩) N M) ?_ (zF (c:=(Array.range (M*aE k)).map λq=>zc[q%zc.size]!) (el:=e) hg hb rfl ?_ ?_ ?_)
 .simp only[execOp,ho,aS,ft,aU,bh]
 .simp[d1]
 .intro j q hj
  have cL:=(dq.1 hj).1;simp only[d1]at cL;have za : (dI M z)[j]? = some q:=hj;rw[d2 j cL]at za;have gY:M*aE k ≠ 0:=by omega
  have Dy:0<aE k:=Nat.pos_of_ne_zero λh=>gY (by rw[h];simp)
  obtain⟨y,g1,g2⟩:=z2.get (j%aE k) q za;rw[iu]at g1;refine⟨y,?_,g2,z3 y (by rw[sI];exact Array.mem_of_getElem? g1)⟩
  have:zc=zv.cells:=by simp[zc,gY]
  rw[this,Ku];have hm:=Nat.mod_lt j Dy;rw[ku (by omega:j%aE k<zv.cells.size)]at g1
  simp at g1;simp[cL,getElem!_def,ku (by omega:j%aE k<zv.cells.size),g1]
 .intro C' k1 k2
  exact uJ k1 k2 rfl (nm w _) (by omega) (by simp)
variable{o:Oper}{x:AV}{p:Option cD}
theorem Vp{t:TypeId}(d:o.op = .makeMap t none) (e:Good C w) (g:∀u,¬C.lim nl u)
  (b:ev ce σ nl ps r .wM=some (x,p)):bA P o a w (iq nl C w x p):=by
 simp only[ev,bJ,Prod.mk.injEq]at b;obtain⟨rfl,rfl⟩:=b;obtain⟨i,j⟩:=U8 e (g 0);refine bA.val (v:=.map (some w.heap.size)) (w' :=bU w (.map #[] 0)) ?_ ⟨_,i,j,?_,w.heap.size,rfl,rfl⟩
 .simp only[execOp,d,Instr.makeMap,aS]
  rfl
 .unfold VR
  refine⟨⟨_,rfl⟩,.inl ⟨rfl,rfl⟩,λB id h _=>?_⟩;simp[ao]at h;rw[<-h.2]
theorem Kw{s:Operand}{k:Option Nat}(N:o.op = .assign s) (O:jw s=true) (l:Good C w) (Q:∀u,¬C.lim nl u)
  (z:ev ce σ nl ps r (.nl k)=some (x,p)):bA P o a w (iq nl C w x p):=by
 simp only[ev]at z;simp only[bJ,Prod.mk.injEq]at z;obtain⟨rfl,rfl⟩:=z;have R:a.eval s = .slice none 0 0:=Dz (ρ:=a.eval) O rfl;refine bA.val (v:=.slice none 0 0) (w' :=w) (by simp only[execOp,N,R,bh]) ?_
 have g : fF C w.heap (ao C nl 0 (⟨k,[],.jq⟩,0)) w.heap:=by
  refine⟨λ_ h=>h,λ_ _=>rfl,λ_ _ h=>.inr h,λd u' B' id e b =>?_⟩;have j:¬(d = nl/\u' = 0):=λ⟨q,_⟩=>Q u' (q▸e);simp only[ao,aa j]at b;exact⟨B', b, rfl,rfl,λc el S=>⟨c,S,rfl⟩⟩
 refine⟨ao C nl 0 (⟨k,[],.jq⟩,0),⟨l.I,λd u' B' id b =>?_,λd u' B' id b e=>?_,λb1 G T i1 H J U V m K n L j=>?_,λd u' B' id es b e=>?_⟩,
  ⟨g, aT _,λ_ _ _=>rfl,λk' W=>?_,λ_ h=>.inl h,rfl,⟨rfl,aT _⟩,rfl⟩,?_,0,rfl,rfl⟩
 .by_cases h:d = nl/\u' = 0
  .simp only[ao,ab h]at b
   simp at b; obtain⟨rfl,rfl⟩:=b;exact⟨.inl h,h.2,λ_=>rfl,by simp⟩
  .simp only[ao,aa h]at b
   obtain⟨A,D,E,F⟩:=l.kN d u' B' id b;exact⟨.inr A,D,E,F⟩
 .by_cases h:d = nl/\u' = 0
  .simp only[ao,ab h]at b
   simp at b; obtain⟨rfl,rfl⟩:=b;simp at e
  .simp only[ao,aa h]at b
   obtain⟨A,c,el,D,E,F⟩:=l.live d u' B' id b e;refine⟨A,c,el,D,E,λi x X=>?_⟩;obtain⟨y,Y,Z,m3⟩:=F i x X;exact⟨y,Y,VR.mono g _ _ Z,m3⟩
 .by_cases q:b1=nl/\G=0
  .simp only[ao,ab q]at m;simp at m;obtain⟨rfl,rfl⟩:=m;simp[eM.jf]at K
  .by_cases M:H=nl/\J=0
   .simp only[ao,ab M]at n;simp at n;obtain⟨rfl,rfl⟩:=n;simp[eM.jf]at L
   .simp only[ao,aa q]at m;simp only[ao,aa M]at n
    exact l.apart b1 G T i1 H J U V m K n L j
 .by_cases h:d = nl/\u' = 0
  .simp only[ao,ab h]at b
   simp at b; obtain⟨rfl,rfl⟩:=b; simp at e
  .simp only[ao,aa h]at b
   exact l.cQ (C' :=ao C nl 0 (⟨k,[],.jq⟩,0)) g b e rfl (l.maps d u' B' id es b e).1
 .obtain⟨d, u', B', b, e⟩:=W
  by_cases h:d = nl/\u' = 0
  .simp only[ao,ab h]at b
   simp at b; obtain⟨rfl,rfl⟩:=b; simp[eM.jf]at e
  .simp only[ao,aa h]at b
   exact .inl ⟨d, u', B', b, e⟩
 .unfold VR
  refine⟨⟨none,0,rfl,aT _,λh=>absurd h (Nat.lt_irrefl 0)⟩,.inl ⟨rfl,rfl⟩,λB id h=>?_⟩;simp[ao]at h;obtain⟨rfl,rfl⟩:=h;exact⟨rfl,rfl,rfl⟩
end
end Ab
set_option linter.all false
namespace Ab
open Go
variable{P:Program}
section
variable{w:World}{C:Ctx}
variable{cs:List AV}
theorem DA{ak off:Nat}{c:Array Value}{el:TypeId}{m:Nat×Nat}(h:w.heap[ak]? = some (.cells c el m))
  (g:∀(i:Nat) q,cs[i]? = some q->∃y,c[off+i]? = some y/\VR C w.heap q y/\y.oneCell' = true) :
  ∃vals:List Value,(∀a:World,a.heap=w.heap->(loadCells ⟨ak,off,none⟩ cs.length).run P a = .ok vals.toArray a)/\vals.length=cs.length/\∀(i:Nat) q,cs[i]? = some q->∃y,vals[i]? = some y/\VR C w.heap q y/\y.oneCell' = true:=by
 refine⟨(List.range cs.length).map λj=>(c[off+j]?).getD undef,λa b=>run_loadCells a _ _ _ λj n=>?_,by simp,λi q l=>?_⟩
 .obtain⟨y,d,_⟩:=g j cs[j] (by simp[n])
  rw[p6];simp[World.cell?,b,h,d]
 .obtain⟨y,b,d⟩:=g i q l
  have e:=(dq.1 l).1;exact⟨y,by simp[e,b],d⟩
theorem Kx{st:Nat}{l:List AV}(h:fitAll st l=true):∀x∈l,x.cells.length=st:=λx a=>(uI h x a).1
variable{k:Option Nat}
theorem p7{σ:List ah}{X:AV}{v:Value}{n:Nat}(h:aJ σ k X=some (n,cs)) (hg:Good C w) (jg:∀b u B,C.lim b u->upto σ b u=some B->∃id,C.own b u=some (B,id)) (hv:VR C w.heap X v) :
  ∃vals:List Value,(∃q m,v = .slice q n m)/\(∀w1:World,w1.heap=w.heap->(Builtin.firstCells (aE k) n v).run P w1 = .ok vals.toArray w1)/\cs.length=n*aE k/\vals.length=cs.length/\∀(i:Nat) q,cs[i]? = some q->∃y,vals[i]? = some y/\VR C w.heap q y/\y.oneCell' = true:=by
 have wN:∀(a:Option Addr) m (w1:World),w1.heap=w.heap->(Builtin.firstCells (aE k) 0 (.slice a 0 m)).run P w1 = .ok ([]:List Value).toArray w1:=λa m w1 _=>by
  cases a<;>simp[Builtin.firstCells,loadCells,loadCellsFrom]
 have uK:=wN none
 -- elements of an JG slice
 have Ky:∀(l:List AV) (ak off zI cap:Nat) (c:Array Value) (el:TypeId) (fz:Nat×Nat),fitAll (aE k) l=true->v = .slice (some ⟨ak,off,none⟩) l.length cap->w.heap[ak]? = some (.cells c el fz)->jc C w.heap c zI l off->
   ∃vals:List Value,(∃q m,v = .slice q l.length m)/\(∀w1:World,w1.heap=w.heap->(Builtin.firstCells (aE k) l.length v).run P w1 = .ok vals.toArray w1)/\(l.flatMap AV.cells).length=l.length*aE k/\vals.length=(l.flatMap AV.cells).length/\∀(i:Nat) q,(l.flatMap AV.cells)[i]? = some q->∃y,vals[i]? = some y/\VR C w.heap q y/\y.oneCell' = true:=by
  intro l ak off zI cap c el fz hf e hH hl;obtain⟨f1,f2⟩:=zH (Kx hf);have hc:=Kr (C:=C) (H:=w.heap) (c:=c) (off:=off) (Kx hf) (λi x hi=>by
   obtain⟨val,g1,g2,g3⟩:=hl.get i x hi;obtain⟨h1,h2⟩:=uI hf x (qO hi);have jo:zI = aE k:=by rw[<-g2,VR.size h2 g1,h1]
   subst jo;exact⟨val,g1,g2,h2,λj hj=>by rw[<-g3 j hj,Nat.add_assoc]⟩)
  obtain⟨vals,k1,k2,k3⟩:=DA (P:=P) hH hc;exact⟨vals,⟨_,_,e⟩,λw1 h1=>by rw[e];simp only[Builtin.firstCells];rw[<-f1];exact k1 w1 h1,f1,k2,k3⟩
 cases X<;>simp only[aJ]at h<;>try(simp at h;done)
 .simp at h;obtain⟨rfl,rfl⟩:=h
  have hv:v = .slice none 0 0:=hv;subst hv;exact⟨[],⟨_,_,rfl⟩,uK 0,by simp,rfl,λi q h=>by simp at h⟩
 .simp at h;obtain⟨rfl,rfl⟩:=h
  unfold VR at hv;obtain⟨a0,hv⟩:=hv;subst hv;exact⟨[],⟨_,_,rfl⟩,wN a0 0,by simp,rfl,λi q h=>by simp at h⟩
 .rename_i nn l
  split at h
  case isFalse=>simp at h
  rename_i hf;simp only[bJ,Prod.mk.injEq]at h;obtain⟨rfl,rfl⟩:=h;unfold VR at hv;rcases hv.2 with⟨rfl,_,rfl,_⟩|⟨ak,off,cap,st,c,el,fz,e,_,_,hH,hl⟩
  .exact⟨[],⟨_,_,rfl⟩,wN _ 0,by simp,rfl,λi q h=>by simp at h⟩
  .exact Ky l ak off st cap c el fz hf e hH hl
 .rename_i l
  split at h
  case isFalse=>simp at h
  rename_i hf;simp only[bJ,Prod.mk.injEq]at h;obtain⟨rfl,rfl⟩:=h;unfold VR at hv;obtain⟨ak,off,st,c,el,fz,e,_,hH,hl⟩:=hv;exact Ky l ak off st l.length c el fz hf e hH hl
 .rename_i b u off len
  cases hu:upto σ b u with
  |none=>simp[hu]at h
  |some B=>
   simp only[hu]at h;split at h
   case isFalse=>simp at h
   rename_i hle;simp only[bJ,Prod.mk.injEq]at h;obtain⟨rfl,rfl⟩:=h;obtain⟨id,ho⟩:=jg b u B (zJ hv) hu;obtain⟨_,e1,e3,e4⟩:=hg.kN b u B id ho;unfold VR at hv;have hv:=hv.2.2 B id ho;have hlen:((B.cells.drop off).take (len*aE k)).length=len*aE k:=by simp;omega
   cases hs:B.st with
   |dead=>exact absurd hs e4
   |map es=>have:=wO hu;rw[hs]at this;simp[eM.iv]at this
   |jq=>
    simp only[hs]at hv;obtain⟨rfl,rfl,rfl⟩:=hv;exact⟨[],⟨_,_,rfl⟩,uK 0,by simp,by simp,λi q h=>by simp at h⟩
   |live=>
    simp only[hs]at hv;obtain⟨c,el,o,cap,g1,rfl,g3,g4,g5⟩:=hv;obtain⟨_,c', zb, n2,n3,n4⟩:=hg.live b u B id ho hs;rw[g1]at n2;simp only[bJ,kv]at n2;obtain⟨rfl,rfl,_⟩:=n2
    by_cases h0:len=0
    .subst h0
     refine⟨[],⟨_,_,rfl⟩,?_,by simp,by simp,λi q h=>by simp at h⟩
     intro w1 _;have:=run_loadCells (P:=P) w1 ⟨id,o,none⟩ 0 (λ_=>undef) (λj hj=>absurd hj (Nat.not_lt_zero j));simpa[Builtin.firstCells]using this
    .obtain rfl:=g3 (by omega)
     obtain⟨vals,k1,k2,k3⟩:=DA (P:=P) (cs:=(B.cells.drop o).take (len*aE k)) (off:=o) g1 (λi q hi=>by
      have cL:=(dq.1 hi).1;rw[hlen]at cL;rw[List.getElem?_take_of_lt cL,kz]at hi;exact n4 (o+i) q hi)
     exact⟨vals,⟨_,_,rfl⟩,λw1 h1=>by simp only[Builtin.firstCells];rw[<-hlen];exact k1 w1 h1,hlen,k2,k3⟩
theorem Vq{x:AV}{b:UInt8}(h:byteOf x=some b):∃n:Int,x = .ik 4 n/\(0<=n/\n<=255)/\b=UInt8.ofNat n.toNat:=by
 unfold byteOf at h;split at h
 .rename_i n
  split at h
  .rename_i a
   injection h with h
   exact⟨n,rfl,a,h.symm⟩
  .simp at h
 .simp at h
theorem Kz{C:Ctx}{H:Array Obj}:∀{cs:List AV}{s:List UInt8}{vals:List Value},bytesOf cs=some s->vals.length=cs.length->(∀(i:Nat) q,cs[i]? = some q->∃y,vals[i]? = some y/\VR C H q y/\y.oneCell' = true)->∃ns:List Int,vals=ns.map (Value.int .u8)/\ns.map (λn=>UInt8.ofNat n.toNat)=s
 | [],s,vals,h,a,_=>by
  simp[bytesOf]at h;subst h;obtain rfl:=dM a;exact⟨[],rfl,rfl⟩
 |x::cs,s,vals,h,a,g=>by
  obtain⟨y,j,l,_⟩:=g 0 x rfl;cases vals with
  |nil=>simp at a
  |cons v vals=>
   simp at j;subst j;cases d:byteOf x with
   |none=>simp[bytesOf,d]at h
   |some b=>
   cases e:bytesOf cs with
   |none=>simp[bytesOf,d,e]at h
   |some s' =>
    simp[bytesOf,d,e]at h;subst h;obtain⟨n,rfl,w,rfl⟩:=Vq d;obtain⟨ns,o,p⟩:=Kz e (by simpa using a) (λi q r=>g (i+1) q r)
    unfold VR at l;obtain⟨K,m,u⟩:=l;rw[show jx 4=some IntKind.u8 from rfl]at m;cases m
    exact⟨n::ns,by rw[o,u];rfl,by rw[<-p];rfl⟩
theorem KA:∀(ns:List Int) (b:ByteArray),ns.foldl (λr n=>r.push (UInt8.ofNat n.toNat)) b=⟨b.data++(ns.map λn=>UInt8.ofNat n.toNat).toArray⟩
 | [],b=>by simp
 |n::ns,b=>by
  rw[l0,KA ns];simp[ByteArray.push]
theorem KB{ce:CE}{σ:List ah}{nl:Nat}{ps:List cD}{r:Rf->AV}{o:Oper}{s d:TypeId}{x:Operand}{y:Rf}{z:AV}{p:Option cD}{ρ:Operand->Value}(M:o.op = .convert s d x)
  (i:(match P.underlying s,P.underlying d with|some (.slice e),some .string=>(match P.underlying e with|some (.int .u8)=>true|_=>false)|_,_=>false)=true) (N:Good C w) (A:∀b u B,C.lim b u->upto σ b u=some B->∃id,C.own b u=some (B,id)) (O:VR C w.heap (r y) (ρ x)) (a:ev ce σ nl ps r (.zK y)=some (z,p)):Plain P ρ o w C w.heap z/\p=none:=by
 have Q:∃e,P.underlying s=some (.slice e)/\P.underlying d=some .string/\P.underlying e=some (.int .u8):=by
  split at i
  .rename_i e D j
   split at i
   .rename_i E;exact⟨e,D,j,E⟩
   .simp at i
  .simp at i
 obtain⟨e,L,hd,g⟩:=Q;simp only[ev]at a;cases F:aJ σ none (r y)with
 |none=>rw[F]at a;simp at a
 |some q=>
  obtain⟨n,cs⟩:=q;rw[F]at a;simp only at a;cases G:bytesOf cs with
  |none=>rw[G]at a;simp at a
  |some R=>
   rw[G]at a;simp at a;obtain⟨S,T⟩:=a;subst S T;obtain⟨vals,⟨q,m,U⟩,h,D,j,E⟩:=p7 (P:=P) F N A O;obtain⟨ns,H,I⟩:=Kz G j E;have l:=h w rfl;have V:vals.length=n:=by rw[j,D];simp[aE]
   refine⟨eY (s:=Go.convert s d (ρ x)) (v:=.string ⟨R.toArray⟩) (by simp only[execOp,M]) ?_ (by unfold VR;rfl),rfl⟩
   rw[U]at l ⊢;cases q with
   |none=>
    rw[run_convert_bytes_string w s d e none n m L g hd];have J:vals=[]:=by
     simp only[Builtin.firstCells,bh,Result.ok.injEq,and_true]at l;simpa using l.symm
    rw[J]at H;have:ns=[]:=by simpa using H.symm
    subst this;simp at I;subst I;simp[Conv.bytesToString]
    rfl
   |some K=>
    rw[run_convert_bytes_string w s d e (some K) n m L g hd];have W:(loadCells K n).run P w = .ok (ns.map (Value.int .u8)).toArray w:=by
     rw[<-H];simpa[Builtin.firstCells,aE]using l
    rw[run_bytesToString w K n m ns W,KA];simp[I,ByteArray.empty,ByteArray.emptyWithCapacity]
    rfl
theorem KC (n:Nat):∀(m c:Nat),Builtin.growBy n m c<=2^m*(c+768)
 |0,c=>by simp[Builtin.growBy]
 |m+1,c=>by
  unfold Builtin.growBy;split
  .have:1*(c+768)<=2^(m+1)*(c+768):=kS _ (Nat.one_le_two_pow)
   omega
  .refine Nat.le_trans (KC n m _) ?_
   rw[Nat.pow_succ,Nat.mul_assoc];refine Nat.mul_le_mul_left _ ?_;omega
variable{cap:Nat}
theorem Vr{a:Nat}(h:a<=1073741824) (d:cap<a):Builtin.nextslicecap a cap<=17179881472:=by
 unfold Builtin.nextslicecap;split
 .omega
 .split
  .omega
  .have b:Builtin.growBy a 4 cap<=16*(cap+768):=KC a 4 cap
   exact Nat.le_trans b (Nat.le_trans (Nat.mul_le_mul_left 16 (show cap+768<=1073742592 by omega)) (by decide))
variable{T T' ty:TypeId}{x:Value}{len m:Nat}{q base:Option Addr}{vals:List Value}
theorem DB{e:TypeId}(j:aN P T=some e) (h : (aN P T').isSome=true) (l:bu P e k=true){n:Nat}{w' : World}
  (p:x = .slice q n m) (o:(Builtin.firstCells (aE k) n x).run P w = .ok vals.toArray w) (a:len+n<=cap)
  (d:∀b,base=some b->(storeCells (b.add (len*aE k)) vals).run P w = .ok () w') (i:base=none->w' = w) :
  (Builtin.append_ #[T,T'] ty #[.slice base len cap,x]).run P w = .ok (.slice base (len+n) cap) w' :=by
 obtain⟨r, g⟩:=sM.1 h;subst p;cases base with
 |none=>simp[Builtin.append_,lY j,lY g, kr (mI l),Builtin.lenOf,a,o,i rfl]
 |some b=>
  have d:=d b rfl;simp[Builtin.append_,lY j,lY g, kr (mI l),Builtin.lenOf,a,o,d]
theorem Vs{e:TypeId}(K:aN P T=some e) (r : (aN P T').isSome=true) (J:bu P e k=true) (j:fe P e=true) (p:cH P e=true){n:Nat}
  {olds:List Value} (L:x = .slice q n m) (M:∀a:World,a.heap=w.heap->(Builtin.firstCells (aE k) n x).run P a = .ok vals.toArray a) (N:∀a:World,a.heap=w.heap->(Builtin.firstCells (aE k) len (.slice base len cap)).run P a = .ok olds.toArray a)
  (s:cap<len+n) (O:len+n<=1073741824) :
  ∃(g:Nat) (rest:Array Value),len+n<=g/\rest.size=(g-(len+n))*aE k/\
   (Builtin.append_ #[T,T'] ty #[.slice base len cap,x]).run P w = .ok (.slice (some ⟨w.heap.size,0,none⟩) (len+n) g) (bU w.drew (.cells (olds.toArray++vals.toArray++rest) e)):=by
 obtain⟨V, u⟩:=sM.1 r;obtain⟨i,l,j⟩:=Kt j;subst L;have y : ∃z,i.zero=some z/\z.cells.size=aE k:=by
  unfold cH at p;simp only[l]at p;cases d:i.zero with
  |none=>simp[d]at p
  |some z=>
   simp[d]at p;have:=mI J;simp[cm,l]at this;exact⟨z,rfl,by omega⟩
 obtain⟨z,d,A⟩:=y;have B:∀a:World,(zeroValue e).run P a = .ok z a:=λa=>by
  simp only[zeroValue,aS,run_typeInfo a l,aU,d,bh]
 have Q:¬(len+n<=cap):=by omega
 have W:¬(((len+n:Nat):Int)>IntKind.i64.max):=by
  have:IntKind.i64.max=9223372036854775807:=by decide
  rw[this];omega
 have X:¬(Builtin.nextslicecap (len+n) cap*i.bytes>2^48):=by
  have R:=Vr O s;have S:Builtin.nextslicecap (len+n) cap*i.bytes<=17179881472*4096:=oP R j;have U:17179881472*4096<=2^48:=by decide
  exact Nat.not_lt.2 (Nat.le_trans S U)
 let g:Nat:=(Question.appendCap (len+n) cap e).cut (w.tape w.drawn (.appendCap (len+n) cap e))
 have C:len+n<=g:=by show _<=_+_;omega
 have D:(choose (.appendCap (len+n) cap e)).run P w = .ok g w.drew:=by
  rfl
 have o:∀(b:Nat) (a:World),(askRoom b).run P a = .ok () a:=λb a=>by
  unfold askRoom;split<;>rfl
 have E:=kr (mI J) (P:=P);refine⟨g,Builtin.zeroCells z.cells (g-(len+n)),C,?_,?_⟩
 .simp[Builtin.zeroCells,A]
 .have hold:=N w.drew rfl
  have F:=M w.drew rfl;have G : ¬((9223372036854775807:Int)<(len:Int)+(n:Int)):=by omega
  have H:(Question.appendCap (len+n) cap e).forced=false:=rfl;have I : Builtin.nextslicecap (len+n) cap*i.bytes<=281474976710656:=by
   have:(2:Nat)^48=281474976710656:=by decide
   omega
  simp[Builtin.append_,lY K,lY u, E,Builtin.lenOf,Q,G, run_typeInfo w l,I, H,D,run_typeInfo w.drew l,o,hold,F,B,wG];rw[aa (by omega)]
  have h:∀Z:Array Value,olds.toArray++(vals.toArray++Z)=(olds++vals).toArray++Z:=λZ=>by rw[<-Array.append_assoc];simp
  first
   |(rw[h];done)
   |(rw[h];rfl)
   |rfl
end
end Ab
set_option linter.all false
namespace Ab
open Go
variable{P:Program}
theorem jy (w:World) (g:Nat) (c:Array Value){k:Nat}(h:k ≠ g):(w.setRow g c).heap[k]? = w.heap[k]?:=by
 simp only[World.setRow,qQ];rw[aa (by omega)]
theorem mJ (w:World) (g:Nat) (c:Array Value):(w.setRow g c).heap.size=w.heap.size:=by simp[World.setRow]
theorem KD{C:Ctx}{w:World}(l:Good C w){id:Nat}{c c' : Array Value}{el:TypeId}(h:owned C id) (j:w.heap[id]? = some (.cells c el (0,0))) (m:c'.size=c.size) (C' : Ctx) (n:∀k,C.I k->C'.I k) (a:∀b u,C.lim b u->C'.lim b u)
  (d:∀b u B' i,C.lim b u->C'.own b u=some (B', i)->∃B,C.own b u=some (B,i)/\B.st=B'.st/\B.k=B'.k):fF C w.heap C' (w.setRow id c').heap:=by
 refine⟨n,λk o=>jy w id c' λe=>l.Vt h (e▸o),a,λb u B' i p r=>?_⟩;obtain⟨B,s,x,y⟩:=d b u B' i p r;refine⟨B,s,by rw[x],y,λq z g=>?_⟩
 by_cases e:i=id
 .subst e
  rw[j]at g;simp only[bJ,kv]at g;obtain⟨rfl,rfl,_⟩:=g;exact⟨c', setRow_heap w i c c' el (0,0) j,m⟩
 .exact⟨q,by rw[jy w id c' e];exact g,rfl⟩
section
variable{a:Act}{ρ:Operand->Value}{r:Rf->AV}{w:World}{C:Ctx}{R:Operand->Rf->Bool}{ce:CE}{σ:List ah}{nl:Nat}{ps:List cD}
variable{o:Oper}{ca:Call}
theorem Vu{bi:Builtin}(b:o.op = .call ca) (d:ca.callee = .builtin bi) (w:World) :
  (execOp a.eval o).run P w=(builtin bi ca.argTypes o.type (ca.args.map fun | .const _=>true|_=>false) (ca.args.map a.eval)).run P w:=by
 simp only[execOp,b,resolve,d,aS,bh,aU,invoke]
 rfl
theorem jz{s x:Operand}{t e : TypeId}{b:Value->World->Prop}{v:Value}{w' : World}(j:o.op = .call ca) (l:ca.callee = .builtin .append) (m:ca.args.toList=[s,x]) (g:ca.argTypes.toList=[t,e])
  (h:(Builtin.append_ #[t,e] o.type #[a.eval s,a.eval x]).run P w = .ok v w') (n:b v w'):bA P o a w b:=by
 have i : ca.args = #[s,x]:=by rw[<-Array.toList_inj];simpa using m
 have d : ca.argTypes = #[t,e]:=by rw[<-Array.toList_inj];simpa using g
 refine bA.val (v:=v) (w' :=w') ?_ n;rw[Vu j l];simp only[builtin,i, d, aS];have:Array.map a.eval #[s,x] = #[a.eval s,a.eval x]:=by simp
 rw[this,h];simp
variable{cs:List AV}{vals:List Value}
theorem Vv{cells:List AV}{olds:List Value}{rest:Array Value}{H:Array Obj}(g:olds.length=cells.length) (m:vals.length=cs.length)
  (h:∀(i:Nat) q,cells[i]? = some q->∃y,olds[i]? = some y/\VR C H q y/\y.oneCell' = true) (j:∀(i:Nat) q,cs[i]? = some q->∃y,vals[i]? = some y/\VR C H q y/\y.oneCell' = true) :
  (cells++cs).length<=(olds.toArray++vals.toArray++rest).size/\∀(i:Nat) q,(cells++cs)[i]? = some q->∃y,(olds.toArray++vals.toArray++rest)[i]? = some y/\VR C H q y/\y.oneCell' = true:=by
 refine⟨by simp;omega,λi q a=>?_⟩
 have b:=(dq.1 a).1;simp at b;rw[kq (by simp;omega)]
 by_cases l:i<cells.length
 .rw[eC l]at a
  obtain⟨y,d,e⟩:=h i q a;exact⟨y,by rw[kq (by simp;omega)];simpa using d,e⟩
 .rw[eK (by omega)]at a
  obtain⟨y,d,e⟩:=j _ q a;exact⟨y,by rw[sN (by simp;omega)];simpa[g]using d,e⟩
variable{B:ah}{b:Nat}{c:Array Value}{el:TypeId}
theorem Vw(d:Good C w) (e:¬C.lim b B.cells.length) (a:B.st = .live) (hle:B.cells.length<=c.size) (g:∀(i:Nat) x,B.cells[i]? = some x->∃y,c[i]? = some y/\VR C w.heap x y/\y.oneCell' = true) :
  Good (ao C b B.cells.length (B,w.heap.size)) (bU w.drew (.cells c el))/\Step C w (ao C b B.cells.length (B,w.heap.size)) (bU w.drew (.cells c el)):=by
 have h:Good C w.drew:=d.heap rfl;obtain⟨j,l⟩:=zz h B e c el a hle g;exact⟨j,(Step.heap (C:=C) (w:=w) (w' :=w.drew) rfl rfl ⟨rfl,Nat.le_succ _⟩ rfl).trans l⟩
theorem Vx{id:Nat}(m:Good C w) (D:C.own b B.cells.length=some (B,id)) (E:B.st = .live) (H:¬C.lim b (B.cells++cs).length)
  (n:∀u' B' id', C.own b u' = some (B', id')->u' = B.cells.length) (L:w.heap[id]? = some (.cells c el (0,0))) (Y:B.cells.length+vals.length<=c.size) (vX:vals.length=cs.length)
  (hv:∀(i:Nat) q,cs[i]? = some q->∃y,vals[i]? = some y/\VR C w.heap q y/\y.oneCell' = true) :
  Good (ao C b (B.cells++cs).length (⟨B.k,B.cells++cs,.live⟩,id)) (w.setRow id (c.toList.take B.cells.length++vals++c.toList.drop (B.cells.length+vals.length)).toArray)/\
  Step C w (ao C b (B.cells++cs).length (⟨B.k,B.cells++cs,.live⟩,id)) (w.setRow id (c.toList.take B.cells.length++vals++c.toList.drop (B.cells.length+vals.length)).toArray):=by
 have o:owned C id:=⟨b,_,B,D,kT E⟩;generalize J : (c.toList.take B.cells.length++vals++c.toList.drop (B.cells.length+vals.length)).toArray=c';have Z:c'.size=c.size:=by subst J; simp;omega
 have r:∀i,c'[i]? = if B.cells.length<=i/\i<B.cells.length+vals.length then vals[i-B.cells.length]? else c[i]?:=λi=>by
  subst J;simp only[List.getElem?_toArray]
  by_cases P:i<B.cells.length
  .rw[aa (by omega),iw,eC (by simp;omega),List.getElem?_take_of_lt P];simp
  .by_cases h2:i<B.cells.length+vals.length
   .rw[ab ⟨by omega,h2⟩,eC (by simp;omega),eK (by simp;omega)]
    congr 1;simp;omega
   .rw[aa (by omega),eK (by simp;omega),kz]
    simp
    congr 1;omega
 have ev:=KD (c' :=c') m o L Z (ao C b (B.cells++cs).length (⟨B.k,B.cells++cs,.live⟩,id)) (λ_ h=>h) (λ_ _ h=>.inr h) (λg u' B' i Q a =>by
  have s:¬(g = b/\u' = (B.cells++cs).length):=λ⟨e1,e2⟩=>H (e1▸e2▸Q);simp only[ao,aa s]at a;exact⟨B', a, rfl,rfl⟩)
 obtain⟨n1,c0,el0,R,n3,n4⟩:=m.live b _ B id D E;rw[L]at R;simp only[bJ,kv]at R;obtain⟨rfl,rfl,_⟩:=R;have j:(w.setRow id c').heap[id]? = some (.cells c' el (0,0)):=setRow_heap w id c c' el (0,0) L;refine⟨⟨λk F=>by rw[mJ];exact m.I k F,λg u' B' i a =>?_,λg u' B' i a d =>?_,λb1 u1 B1 i1 b2 u2 B2 i2 k1 l1 k2 l2 s=>?_,λg u' B' i es a d =>?_⟩,
  ⟨ev,by rw[mJ];exact aT _,λk F S=>jy w id c' λe=>S (e▸o),λk F=>?_,λk F=>.inl F,rfl,⟨rfl,aT _⟩,rfl⟩⟩
 .by_cases e:g = b/\u' = (B.cells++cs).length
  .simp only[ao,ab e]at a
   simp at a; obtain⟨rfl,rfl⟩:=a;exact⟨.inl e,e.2,λh=>by simp at h,by simp⟩
  .simp only[ao,aa e]at a
   obtain⟨M,G,T,N⟩:=m.kN g u' B' i a;exact⟨.inr M,G,T,N⟩
 .by_cases e:g = b/\u' = (B.cells++cs).length
  .simp only[ao,ab e]at a
   simp at a; obtain⟨rfl,rfl⟩:=a;refine⟨n1,c', el,j,by rw[Z];simp;omega,λi q p=>?_⟩
   rw[r]
   by_cases P:i<B.cells.length
   .have l : (B.cells++cs)[i]? = some q:=p
    rw[eC P]at l;obtain⟨y,u,x,z⟩:=n4 i q l;exact⟨y,by rw[aa (by omega)];exact u,VR.mono ev _ _ x,z⟩
   .have l : (B.cells++cs)[i]? = some q:=p
    rw[eK (by omega)]at l
    have U:=(dq.1 l).1;obtain⟨y,u,x,z⟩:=hv _ q l;exact⟨y,by rw[ab ⟨by omega,by omega⟩];exact u,VR.mono ev _ _ x,z⟩
  .simp only[ao,aa e]at a
   obtain⟨M,c1,V,G,T,N⟩:=m.live g u' B' i a d
   by_cases p:i=id
   .subst p
    have A:g = b:=Decidable.byContradiction λh=>m.apart g u' B' i b _ B i a (kT d) D (kT E) h rfl;subst A;have hu:=n u' B' i a;have hlen:=(m.kN g u' B' i a).2.1;rw[L]at G;simp only[bJ,kv]at G;obtain⟨rfl,rfl,_⟩:=G;refine⟨M,c', el,j,by omega,λW q O=>?_⟩
    have U:=(dq.1 O).1;obtain⟨y,u,x,z⟩:=N W q O;exact⟨y,by rw[r,aa (by omega)];exact u,VR.mono ev _ _ x,z⟩
   .refine⟨M,c1,V,by rw[jy w id c' p];exact G,T,λW q O=>?_⟩
    obtain⟨y,u,x,z⟩:=N W q O;exact⟨y,u,VR.mono ev _ _ x,z⟩
 .have hb:∀g u' B' i,(ao C b (B.cells++cs).length (⟨B.k,B.cells++cs,.live⟩,id)).own g u' = some (B', i)->B'.st.jf=true->∃X K, C.own g X = some (K, i)/\K.st.jf=true:=by
   intro g u' B' i a d
   by_cases e:g = b/\u' = (B.cells++cs).length
   .simp only[ao,ab e]at a
    simp at a; obtain⟨rfl,rfl⟩:=a;exact⟨_,B,by rw[e.1];exact D,kT E⟩
   .simp only[ao,aa e]at a
    exact⟨u', B', a, d⟩
  obtain⟨_,_,q1,q2⟩:=hb b1 u1 B1 i1 k1 l1;obtain⟨_,_,q3,q4⟩:=hb b2 u2 B2 i2 k2 l2;exact m.apart _ _ _ _ _ _ _ _ q1 q2 q3 q4 s
 .by_cases e:g = b/\u' = (B.cells++cs).length
  .simp only[ao,ab e]at a
   simp at a; obtain⟨rfl,rfl⟩:=a;simp at d
  .simp only[ao,aa e]at a
   have p:i ≠ id:=λp=>by
    subst p;have A:g = b:=Decidable.byContradiction λh=>m.apart g u' B' i b _ B i a (kQ d) D (kT E) h rfl;subst A;have hu:=n u' B' i a;rw[hu,D]at a;simp at a;rw[<-a, E]at d;simp at d
   exact m.cQ (C' :=ao C b (B.cells++cs).length (⟨B.k,B.cells++cs,.live⟩,id)) ev a d (jy w id c' p) (m.maps g u' B' i es a d).1
 .obtain⟨g, u', B', a, d⟩:=F
  by_cases e:g = b/\u' = (B.cells++cs).length
  .simp only[ao,ab e]at a
   simp at a; obtain⟨rfl,rfl⟩:=a;exact .inl o
  .simp only[ao,aa e]at a
   exact .inl ⟨g, u', B', a, d⟩
end
end Ab
set_option linter.all false
namespace Ab
open Go
variable{P:Program}
theorem Good.shrink{C C2:Ctx}{w:World}(hg:Good C w) (hI:C2.I=C.I) (U:∀b u e,C2.own b u=some e->C.own b u=some e) (gH:∀b u,C.lim b u->C2.lim b u):Good C2 w/\Step C w C2 w:=by
 have ev:fF C w.heap C2 w.heap:=⟨λk h=>by rw[hI];exact h,λ_ _=>rfl,gH,λb u B' id _ V=>⟨B', U _ _ _ V,rfl,rfl,λc el hc=>⟨c,hc,rfl⟩⟩⟩
 refine⟨⟨by rw[hI];exact hg.I,λb u B id V=>?_,λb u B id V hl=>?_,λb1 u1 B1 i1 b2 u2 B2 i2 h1 l1 h2 l2 gY=>hg.apart _ _ _ _ _ _ _ _ (U _ _ _ h1) l1 (U _ _ _ h2) l2 gY,λb u B id es V hl=>hg.cQ ev (U _ _ _ V) hl rfl (by rw[hI];exact(hg.maps b u B id es (U _ _ _ V) hl).1)⟩,
  ⟨ev,aT _,λ_ _ _=>rfl,λk ⟨b,u,B,V,hl⟩=>.inl ⟨b,u,B,U _ _ _ V,hl⟩,λk h=>.inl (by rw[hI]at h;exact h),rfl,⟨rfl,aT _⟩,rfl⟩⟩
 .obtain⟨h1,h2,h3,h4⟩:=hg.kN b u B id (U _ _ _ V)
  exact⟨gH _ _ h1,h2,h3,h4⟩
 .obtain⟨h1,c,el,h2,h3,h4⟩:=hg.live b u B id (U _ _ _ V) hl
  refine⟨by rw[hI];exact h1,c,el,h2,h3,λi x hi=>?_⟩
  obtain⟨y,k1,k2,k3⟩:=h4 i x hi;exact⟨y,k1,VR.mono ev _ _ k2,k3⟩
section
variable{a:Act}{ρ:Operand->Value}{r:Rf->AV}{w:World}{C:Ctx}{R:Operand->Rf->Bool}{ce:CE}{σ:List ah}{nl:Nat}{ps:List cD}
variable{T T' ty:TypeId}{k:Option Nat}{X:AV}{vx:Value}{cs:List AV}{b len:Nat}
theorem p8{e:TypeId}{k0:Option Nat}(G:aN P T=some e) (h : (aN P T').isSome=true) (I:bu P e k=true) (j:fe P e=true) (J:cH P e=true){n:Nat}{cells:List AV}(D:Good C w)
  (l:∀b u B,C.lim b u->upto σ b u=some B->∃id,C.own b u=some (B,id)) (d:aJ σ k X=some (n,cs)) (K:VR C w.heap X vx) {cap:Nat} {base:Option Addr} {olds:List Value} (L:¬C.lim b (cells++cs).length) (o:aE k0=aE k)
  (hlen:cells.length=len*aE k) (p:olds.length=cells.length) (hold:∀r:World,r.heap=w.heap->(Builtin.firstCells (aE k) len (.slice base len cap)).run P r = .ok olds.toArray r)
  (s:∀(i:Nat) q,cells[i]? = some q->∃y,olds[i]? = some y/\VR C w.heap q y/\y.oneCell' = true) (x:cap<len+n) (g:len+n<=dz) :
  ∃v w' id', (Builtin.append_ #[T,T'] ty #[.slice base len cap,vx]).run P w = .ok v w' /\Good (ao C b (cells++cs).length (⟨k0,cells++cs,.live⟩,id')) w' /\Step C w (ao C b (cells++cs).length (⟨k0,cells++cs,.live⟩,id')) w' /\
    VR (ao C b (cells++cs).length (⟨k0,cells++cs,.live⟩,id')) w'.heap (.sl b (cells++cs).length 0 (len+n)) v:=by
 obtain⟨vals,⟨q,m,z⟩,M,N,A,a⟩:=p7 (P:=P) d D l K;obtain⟨E,rest,F,W,O⟩:=Vs (P:=P) (w:=w) (ty:=ty) (olds:=olds) G h I j J z M hold x g;obtain⟨Q,R⟩:=Vv (rest:=rest) (C:=C) (H:=w.heap) p A s a;have Y:(⟨k0,cells++cs,.live⟩:ah).cells.length=(cells++cs).length:=rfl;obtain⟨S,U⟩:=Vw (b:=b) (B:=⟨k0,cells++cs,.live⟩) (c:=olds.toArray++vals.toArray++rest) (el:=e) D L rfl Q R;refine⟨_,_,w.heap.size,O,S,U,uJ (B:=⟨k0,cells++cs,.live⟩) (id:=w.heap.size) (by simp[ao]) (.inl ⟨rfl,rfl⟩) rfl (nm w.drew _) F ?_⟩
 simp only[o];have V:(E-(len+n))*aE k+(len+n)*aE k=E*aE k:=by rw[<-Nat.add_mul,Nat.sub_add_cancel F]
 rw[eX len n]at V;simp;omega
theorem KE{e:TypeId}(O:aN P T=some e) (s : (aN P T').isSome=true) (Q:bu P e k=true) (D:fe P e=true) (Y:cH P e=true){n:Nat}(E:Good C w)
  (x:∀b u B,C.lim b u->upto σ b u=some B->∃id,C.own b u=some (B,id)) (d:aJ σ k X=some (n,cs)) (R:VR C w.heap X vx)  {vs:Value} {B:ah} {id:Nat} (S:C.own b B.cells.length=some (B,id)) (U:B.cells.length=len*aE k) (l:aE B.k=aE k)
  (F:VR C w.heap (.sl b B.cells.length 0 len) vs) (hn:0<n) (A:len+n<=dz) (J:B.st.iv=false) (G:¬C.lim b (B.cells++cs).length) (H:∀u' B' id', C.own b u' = some (B', id')->u' = B.cells.length) :
  ∃v w' id', (Builtin.append_ #[T,T'] ty #[vs,vx]).run P w = .ok v w' /\Good (ao C b (B.cells++cs).length (⟨B.k,B.cells++cs,.live⟩,id')) w' /\Step C w (ao C b (B.cells++cs).length (⟨B.k,B.cells++cs,.live⟩,id')) w' /\
    VR (ao C b (B.cells++cs).length (⟨B.k,B.cells++cs,.live⟩,id')) w'.heap (.sl b (B.cells++cs).length 0 (len+n)) v:=by
 obtain⟨_,_,e3,e4⟩:=E.kN b _ B id S;unfold VR at F;have F:=F.2.2 B id S;cases a:B.st with
 |dead=>exact absurd a e4
 |map es=>rw[a]at J;simp[eM.iv]at J
 |jq=>
  simp only[a]at F;obtain⟨_,rfl,rfl⟩:=F;have g:=e3 a;have:=p8 (P:=P) (σ:=σ) (cells:=B.cells) (k0:=B.k) (b:=b) (len:=0) (cap:=0) (base:=none) (olds:=[]) (ty:=ty) O s Q D Y E x d R G l (by rw[g];simp) (by rw[g];rfl) (λV _=>by simp[Builtin.firstCells]) (by rw[g];simp) (by omega) (by omega)
  simpa using this
 |live=>
  simp only[a]at F;obtain⟨c,el,o,cap,K,rfl,g3,g4,g5⟩:=F;obtain⟨_,c', zb, Z,n3,n4⟩:=E.live b _ B id S a;rw[K]at Z;simp only[bJ,kv]at Z;obtain⟨rfl,rfl,_⟩:=Z
  by_cases p:len+n<=cap
  .have L:0<cap:=by omega
   have Vy:=g3 L;subst Vy;obtain⟨vals,⟨q,m,Vz⟩,hf,qR,vX,r⟩:=p7 (P:=P) d E x R;have I : B.cells.length+vals.length<=c.size:=by
    have:(len+n)*aE k<=cap*aE k:=kS _ p;rw[eX]at this;rw[l]at g5;omega
   obtain⟨p1,p2⟩:=Vx E S a G H K I vX r;have M:∀v∈vals,v.oneCell' = true:=λv hv=>by
    obtain⟨i,W⟩:=List.getElem?_of_mem hv;have cL:=(dq.1 W).1;obtain⟨y,m1,m2,m3⟩:=r i cs[i] (cO (by omega))
    rw[W]at m1;simp at m1;subst m1;exact m3
   have z:=run_storeCells_at P id B.cells.length el vals 0 c w K (by omega) M
   have N:=DB (P:=P) (w:=w) (ty:=ty) (base:=some ⟨id,0,none⟩) O s Q Vz (hf w rfl) p (λb G=>by
    simp at G;subst G;rw[p6,gq,<-U];exact z) (λh=>by simp at h)
   refine⟨_,_,id,N,p1,p2,?_⟩;have uL : (w.setRow id (c.toList.take B.cells.length++vals++c.toList.drop (B.cells.length+vals.length)).toArray).heap[id]? = some (.cells _ el (0,0)):=setRow_heap w id c _ el (0,0) K;refine uJ (B:=⟨B.k,B.cells++cs,.live⟩) (id:=id) (by simp[ao]) (.inl ⟨rfl,rfl⟩) rfl uL p ?_
   rw[l]at g5 ⊢;simp only[List.size_toArray,aY,nw,List.length_drop,mK];omega
  .by_cases h0:len=0
   .subst h0
    have g:B.cells=[]:=dM (by omega)
    refine p8 (P:=P) (σ:=σ) (cells:=B.cells) (k0:=B.k) (b:=b) (olds:=[]) (ty:=ty) O s Q D Y E x d R G l U (by rw[g];rfl) (λV h1=>?_) (by rw[g];simp) (by omega) A
    have:=run_loadCells (P:=P) V ⟨id,o,none⟩ 0 (λ_=>undef) (λj hj=>absurd hj (Nat.not_lt_zero j));simpa[Builtin.firstCells]using this
   .obtain rfl:=g3 (by omega)
    obtain⟨olds,k1,k2,k3⟩:=DA (P:=P) (cs:=B.cells) (off:=0) K (λi q W=>by rw[gq];exact n4 i q W)
    exact p8 (P:=P) (σ:=σ) (cells:=B.cells) (k0:=B.k) (b:=b) (olds:=olds) (ty:=ty) O s Q D Y E x d R G l U k2 (λV h1=>by simp only[Builtin.firstCells];rw[<-U];exact k1 V h1) k3 (by omega) A
end
end Ab
namespace Ab
open Go
variable{P:Program}
section
variable{a:Act}{ρ:Operand->Value}{r:Rf->AV}{w:World}{C:Ctx}{R:Operand->Rf->Bool}{ce:CE}{σ:List ah}{nl:Nat}{ps:List cD}
theorem zL{a b:Option Nat}(h:sz a b=true):a=b:=by
 cases a<;>cases b<;>simp[sz]at h<;>simp[h]
variable{k:Option Nat}
theorem qS{T o e:TypeId}(r:aN P T=some e) (g : (aN P o).isSome=true) (s:bu P e k=true){ty:TypeId}{X:AV}{p vs:Value}{cs:List AV}(x:Good C w)
  (h:∀b u B,C.lim b u->upto σ b u=some B->∃id,C.own b u=some (B,id)) (d:aJ σ k X=some (0,cs)) (y:VR C w.heap X p) (z:∃a l c,vs = .slice a l c/\l<=c) :
  (Builtin.append_ #[T,o] ty #[vs,p]).run P w = .ok vs w:=by
 obtain⟨base,l,c,rfl,A⟩:=z;obtain⟨vals,⟨q,m,i⟩,D,E,F,j⟩:=p7 (P:=P) d x h y;have n:vals=[]:=dM (by omega)
 subst n;have:=DB (P:=P) (w:=w) (w' :=w) (ty:=ty) (base:=base) (len:=l) (cap:=c) r g s i (D w rfl) (by omega) (λb _=>rfl) (λ_=>rfl)
 simpa using this
theorem VA{o:Oper}{ca:Call}{s x:Operand}{t t' e:TypeId}{s' x' : Rf}{z:AV}{p:Option cD}(ho:o.op = .call ca) (hc:ca.callee = .builtin .append) (ha:ca.args.toList=[s,x]) (kU:ca.argTypes.toList=[t,t'])
  (ht:aN P t=some e) (mL : (aN P t').isSome=true) (hk:bu P e k=true) (tW:fe P e=true) (hz:cH P e=true) (hg:Good C w)
  (jg:∀b u B,C.lim b u->upto σ b u=some B->∃id,C.own b u=some (B,id)) (hb:∀u,¬C.lim nl u)
  (JH:∀b u B cs,upto σ b u=some B->p=some (.grow b cs)->ny b ps=false->(∀n,u<n->¬C.lim b n)/\∀u' B' id', C.own b u' = some (B', id')->u' = u)
  (hs:VR C w.heap (r s') (a.eval s)) (hx:VR C w.heap (r x') (a.eval x)) (he:ev ce σ nl ps r (.app s' x' k)=some (z,p)):bA P o a w (iq nl C w z p):=by
 simp only[ev]at he;cases fG:aJ σ k (r x')with
 |none=>simp[fG]at he
 |some VB=>
  obtain⟨n,cs⟩:=VB;simp only[fG]at he;cases iU : r s' <;>simp only[iU]at he<;>try(simp at he;done)
  .-- nil
   rw[iU]at hs;have hv:a.eval s = .slice none 0 0:=hs
   by_cases hn:n=0
   .subst hn
    simp at he;obtain⟨rfl,rfl⟩:=he;refine jz ho hc ha kU (qS ht mL hk hg jg fG hx ⟨none,0,0,hv,aT 0⟩) ?_;exact(cR.same hg (by rw[hv];exact rfl)).e
   .have kV : (n==0)=false:=by simpa using hn
    simp only[kV, eo,eJ]at he;split at he
    case isFalse=>simp at he
    rename_i nA;simp only[bJ,Prod.mk.injEq]at he;obtain⟨rfl,rfl⟩:=he;obtain⟨v,w', id', h1,h2,h3,h4⟩:=p8 (P:=P) (σ:=σ) (cells:=[]) (k0:=k) (b:=nl) (len:=0) (cap:=0) (base:=none) (olds:=[]) (ty:=o.type) ht mL hk tW hz hg jg fG hx (hb _) rfl (by simp) rfl (λw1 _=>by simp[Builtin.firstCells]) (by simp) (by omega) (by omega)
    rw[<-hv]at h1;simp only[oQ,gq]at h2 h3 h4;exact jz ho hc ha kU h1 ⟨_,h2,h3,h4,id', rfl,rfl⟩
  .-- an empty slice Uf room
   rw[iU]at hs;have uM:=hs;unfold VR at hs;obtain⟨a0,hv⟩:=hs
   by_cases hn:n=0
   .subst hn
    simp at he;obtain⟨rfl,rfl⟩:=he;refine jz ho hc ha kU (qS ht mL hk hg jg fG hx ⟨_,_,_,hv,aT 0⟩) ?_;exact(cR.same hg uM).e
   .have kV : (n==0)=false:=by simpa using hn
    simp only[kV, eo,eJ]at he;split at he
    case isFalse=>simp at he
    rename_i nA;simp only[bJ,Prod.mk.injEq]at he;obtain⟨rfl,rfl⟩:=he;obtain⟨olds,_,k1,k2,k3,k4⟩:=p7 (P:=P) (σ:=σ) (k:=k) (X:=.emp) (v:=a.eval s) (n:=0) (cs:=[]) (by simp[aJ]) hg jg uM
    rw[hv]at k1;obtain⟨v,w', id', h1,h2,h3,h4⟩:=p8 (P:=P) (σ:=σ) (cells:=[]) (k0:=k) (b:=nl) (len:=0) (cap:=0) (base:=a0) (olds:=olds) (ty:=o.type) ht mL hk tW hz hg jg fG hx (hb _) rfl k2 k3 k1 k4 (by omega) (by omega)
    rw[<-hv]at h1;simp only[oQ,gq]at h2 h3 h4;exact jz ho hc ha kU h1 ⟨_,h2,h3,h4,id', rfl,rfl⟩
  .-- a literal
   rename_i l;rw[iU]at hs;have uM:=hs;unfold VR at hs;obtain⟨ak,off,st,c,el,fz,hv,hI,hH,hl⟩:=hs
   by_cases hn:n=0
   .subst hn
    simp at he;obtain⟨rfl,rfl⟩:=he;refine jz ho hc ha kU (qS ht mL hk hg jg fG hx ⟨_,_,_,hv,aT _⟩) ?_;refine(cR.same hg ?_).e;split
    .rename_i JI
     unfold VR;exact⟨JI,.inr ⟨ak,off,l.length,st,c,el,fz,hv,aT _,hI,hH,hl⟩⟩
    .exact uM
   .have kV : (n==0)=false:=by simpa using hn
    simp only[kV, eo,eJ]at he;split at he
    case isFalse=>simp at he
    rename_i gr;simp only[aA,dY]at gr;simp only[bJ,Prod.mk.injEq]at he;obtain⟨rfl,rfl⟩:=he;obtain⟨olds,_,k1,k2,k3,k4⟩:=p7 (P:=P) (σ:=σ) (k:=k) (X:=.arr l) (v:=a.eval s) (n:=l.length) (cs:=l.flatMap AV.cells) (by simp only[aJ,gr.1,dt]) hg jg uM
    rw[hv]at k1;obtain⟨v,w', id', h1,h2,h3,h4⟩:=p8 (P:=P) (σ:=σ) (cells:=l.flatMap AV.cells) (k0:=k) (b:=nl) (olds:=olds) (ty:=o.type) ht mL hk tW hz hg jg fG hx (hb _) rfl k2 k3 k1 k4 (by omega) gr.2
    rw[<-hv]at h1;exact jz ho hc ha kU h1 ⟨_,h2,h3,h4,id', rfl,rfl⟩
  .-- an owned slice
   rename_i b u off len;cases hu:upto σ b u with
   |none=>simp[hu]at he
   |some B=>
    simp only[hu]at he;split at he
    case isFalse=>simp at he
    rename_i gr;simp only[aA,cF,dY,Bool.not_eq_true']at gr;obtain⟨⟨⟨⟨rfl,qT⟩,nA⟩,VC⟩,vY⟩:=gr;have vY:=zL vY;rw[iU]at hs;obtain⟨id,fH⟩:=jg b u B (zJ hs) hu;have VD :=(hg.kN b u B id fH).2.1
    by_cases hn:n=0
    .subst hn
     simp at he;obtain⟨rfl,rfl⟩:=he;have vZ:∃a' l' c', a.eval s = .slice a' l' c' /\l' <=c' :=by
      unfold VR at hs;obtain⟨⟨q,c,e1,e2,_⟩,_⟩:=hs;exact⟨_,_,_,e1,e2⟩
     exact jz ho hc ha kU (qS ht mL hk hg jg fG hx vZ) (cR.same hg hs).e
    .have kV : (n==0)=false:=by simpa using hn
     simp only[kV, eo,eJ]at he;split at he
     case isTrue=>simp at he
     rename_i wa;simp at wa;simp only[bJ,Prod.mk.injEq]at he;obtain⟨rfl,rfl⟩:=he;subst VD;obtain⟨q1,q2⟩:=JH b _ B cs hu rfl VC;have cL:B.cells.length<(B.cells++cs).length:=by
      have:0<cs.length:=l5.2 wa;simp;omega
     obtain⟨v,w', id', h1,h2,h3,h4⟩:=KE (P:=P) (σ:=σ) (ty:=o.type) ht mL hk tW hz hg jg fG hx fH qT (by rw[vY]) hs (by omega) nA (wO hu) (q1 _ cL) q2
     have e1:B.cells.length+cs.length=(B.cells++cs).length:=by simp
     rw[e1];exact jz ho hc ha kU h1 ⟨_,h2,h3,h4,B,id,id', wa,fH,rfl,rfl⟩
end
end Ab
set_option linter.all false
namespace Ab
open Go
variable{P:Program}
def jA (σ:List ah) (ids:Nat->Nat) (I:Nat->Prop) (w:World) (x:AV) (b : List ah) (v:Value) (w' : World):Prop:=
 ∃a I', Good (ad b a I') w' /\Step (ad σ ids I) w (ad b a I') w' /\VR (ad b a I') w'.heap x v
theorem KF{c:Array Value}{off:Nat}{vals:List Value}(a:off+vals.length<=c.size) :
  (c.toList.take off++vals++c.toList.drop (off+vals.length)).toArray.size=c.size/\∀i,(c.toList.take off++vals++c.toList.drop (off+vals.length)).toArray[i]? = if off<=i/\i<off+vals.length then vals[i-off]? else c[i]?:=by
 refine⟨by simp;omega,λi=>?_⟩
 simp only[List.getElem?_toArray]
 by_cases b:i<off
 .rw[aa (by omega),iw,eC (by simp;omega),List.getElem?_take_of_lt b];simp
 .by_cases d:i<off+vals.length
  .rw[ab ⟨by omega,d⟩,eC (by simp;omega),eK (by simp;omega)]
   congr 1;simp;omega
  .rw[aa (by omega),eK (by simp;omega),kz]
   simp
   congr 1;omega
section
variable{a:Act}{ρ:Operand->Value}{r:Rf->AV}{w:World}{C:Ctx}{R:Operand->Rf->Bool}{ce:CE}{σ:List ah}{nl:Nat}{ps:List cD}
variable{B:ah}{b id:Nat}
theorem uN{off:Nat}{new:List AV}{c:Array Value}{el:TypeId}{vals:List Value}(n:Good C w) (A:C.own b B.cells.length=some (B,id)) (K:B.st = .live)
  (o:∀u' B' id', C.own b u' = some (B', id')->u' = B.cells.length) (R:w.heap[id]? = some (.cells c el (0,0))) (m:off+new.length<=B.cells.length) (vX:vals.length=new.length)
  (hv:∀(i:Nat) q,new[i]? = some q->∃y,vals[i]? = some y/\VR C w.heap q y/\y.oneCell' = true) :
  Good {C with own:=λd u' =>if d = b/\u' = B.cells.length then some (⟨B.k,putAt B.cells off new,B.st⟩,id)else C.own d u'} (w.setRow id (c.toList.take off++vals++c.toList.drop (off+vals.length)).toArray)/\
  Step C w {C with own:=λd u' =>if d = b/\u' = B.cells.length then some (⟨B.k,putAt B.cells off new,B.st⟩,id)else C.own d u'} (w.setRow id (c.toList.take off++vals++c.toList.drop (off+vals.length)).toArray):=by
 have D:owned C id:=⟨b,_,B,A,kT K⟩;obtain⟨n1,c0,el0,S,n3,n4⟩:=n.live b _ B id A K;rw[R]at S;simp only[bJ,kv]at S;obtain⟨rfl,rfl,_⟩:=S;obtain⟨Z,L⟩:=KF (c:=c) (off:=off) (vals:=vals) (by omega)
 generalize (c.toList.take off++vals++c.toList.drop (off+vals.length)).toArray=c' at *;obtain⟨pl,pg⟩:=qU B.cells new off m;obtain⟨_,_,M,T⟩:=n.kN b _ B id A;generalize G : ({C with own:=λd u' =>if d = b/\u' = B.cells.length then some (⟨B.k,putAt B.cells off new,B.st⟩,id)else C.own d u'}:Ctx)=C'
 have j : ∀d u', C'.own d u' = if d = b/\u' = B.cells.length then some (⟨B.k,putAt B.cells off new,B.st⟩,id)else C.own d u' :=λd u' =>by subst G; rfl
 have p : C'.I=C.I:=by subst G; rfl
 have r : C'.lim=C.lim:=by subst G; rfl
 have ev:=KD (c' :=c') n D R Z C' (λk h=>by rw[p];exact h) (λb u h=>by rw[r];exact h) (λd u' B' i JJ a =>by
  rw[j]at a
  by_cases e:d = b/\u' = B.cells.length
  .rw[ab e]at a
   simp at a; obtain⟨rfl,rfl⟩:=a;exact⟨B,by rw[e.1,e.2];exact A,rfl,rfl⟩
  .rw[aa e]at a
   exact⟨B', a, rfl,rfl⟩)
 have x:(w.setRow id c').heap[id]? = some (.cells c' el (0,0)):=setRow_heap w id c c' el (0,0) R;have l:∀d u' B' i,C'.own d u' = some (B', i)->B'.st.jf=true->∃H z, C.own d H = some (z, i)/\z.st.jf=true:=by
  intro d u' B' i a g;rw[j]at a
  by_cases e:d = b/\u' = B.cells.length
  .rw[ab e]at a
   simp at a; obtain⟨rfl,rfl⟩:=a;exact⟨_,B,by rw[e.1];exact A,kT K⟩
  .rw[aa e]at a
   exact⟨u', B', a, g⟩
 refine⟨⟨λk E=>by rw[mJ];rw[p]at E;exact n.I k E,λd u' B' i a =>?_,λd u' B' i a g =>?_,λb1 u1 B1 i1 b2 u2 B2 i2 k1 l1 k2 l2 U=>?_,λd u' B' i es a g =>?_⟩,
  ⟨ev,by rw[mJ];exact aT _,λk E V=>jy w id c' λe=>V (e▸D),λk E=>?_,λk E=>.inl (by rw[p]at E;exact E),rfl,⟨rfl,aT _⟩,rfl⟩⟩
 .rw[r]
  rw[j]at a
  by_cases e:d = b/\u' = B.cells.length
  .rw[ab e]at a
   simp at a; obtain⟨rfl,rfl⟩:=a;refine⟨by rw[e.1,e.2];exact(n.kN b _ B id A).1,by rw[e.2];exact pl.symm,λh=>?_,T⟩
   have h0:=M h;have:new=[]:=by
    have:new.length=0:=by rw[h0]at m;simp at m;simp[m]
    exact dM this
   have hz:(putAt B.cells off new).length=0:=by rw[pl,h0];rfl
   exact dM hz
  .rw[aa e]at a
   exact n.kN d u' B' i a
 .rw[p]
  rw[j]at a
  by_cases e:d = b/\u' = B.cells.length
  .rw[ab e]at a
   simp at a; obtain⟨rfl,rfl⟩:=a;refine⟨n1,c', el,x,by rw[Z];show(putAt B.cells off new).length<=_;omega,λi q F=>?_⟩
   have s : (putAt B.cells off new)[i]? = some q:=F;rw[pg]at s;rw[L]
   by_cases N:off<=i/\i<off+new.length
   .rw[ab N]at s
    obtain⟨y,O,P,Q⟩:=hv _ q s;exact⟨y,by rw[ab (by omega)];exact O,VR.mono ev _ _ P,Q⟩
   .rw[aa N]at s
    obtain⟨y,O,P,Q⟩:=n4 i q s;exact⟨y,by rw[aa (by omega)];exact O,VR.mono ev _ _ P,Q⟩
  .rw[aa e]at a
   obtain⟨j1,c1,W,j2,j3,j4⟩:=n.live d u' B' i a g
   by_cases F:i=id
   .subst F
    have J:d = b:=Decidable.byContradiction λh=>n.apart d u' B' i b _ B i a (kT g) A (kT K) h rfl;subst J;exact absurd ⟨rfl,o u' B' i a⟩ e
   .refine⟨j1,c1,W,by rw[jy w id c' F];exact j2,j3,λi' q hq=>?_⟩
    obtain⟨y,O,P,Q⟩:=j4 i' q hq;exact⟨y,O,VR.mono ev _ _ P,Q⟩
 .obtain⟨_,_,X,Y⟩:=l b1 u1 B1 i1 k1 l1
  obtain⟨_,_,q3,q4⟩:=l b2 u2 B2 i2 k2 l2;exact n.apart _ _ _ _ _ _ _ _ X Y q3 q4 U
 .rw[j]at a
  by_cases e:d = b/\u' = B.cells.length
  .rw[ab e]at a
   simp at a; obtain⟨rfl,rfl⟩:=a;rw[show(⟨B.k,putAt B.cells off new,B.st⟩:ah).st=B.st from rfl,K]at g;simp at g
  .rw[aa e]at a
   have F:i ≠ id:=λF=>by
    subst F;have J:d = b:=Decidable.byContradiction λh=>n.apart d u' B' i b _ B i a (kQ g) A (kT K) h rfl;subst J;exact e ⟨rfl,o u' B' i a⟩
   exact n.cQ ev a g (jy w id c' F) (by rw[p];exact(n.maps d u' B' i es a g).1)
 .obtain⟨d, u', B', a, g⟩:=E
  obtain⟨H, z, X,Y⟩:=l d u' B' k a g;exact .inl ⟨d, H, z, X,Y⟩
variable{es wb: List (AV×AV)}{l l': Array MapEntry}
theorem KG{clock clock' : Nat}(x:Good C w) (G:C.own b 0=some (B,id)) (K:B.st = .map es)
  (A:∀u' B' id', C.own b u' = some (B', id')->u' = 0) (O:w.heap[id]? = some (.map l clock)) (Y:MR C w.heap wb l'.toList) :
  Good {C with own:=λd u' =>if d = b/\u' = 0 then some (⟨B.k,B.cells,.map wb⟩,id)else C.own d u'} {w with heap:=w.heap.setIfInBounds id (.map l' clock')}/\
  Step C w {C with own:=λd u' =>if d = b/\u' = 0 then some (⟨B.k,B.cells,.map wb⟩,id)else C.own d u'} {w with heap:=w.heap.setIfInBounds id (.map l' clock')}:=by
 have L:owned C id:=⟨b,_,B,G,kQ K⟩;obtain⟨X,_⟩:=x.maps b _ B id es G K;obtain⟨M,m⟩:=Go.MapKept.heap_set (o' :=.map l' clock') O;have N:(w.heap.setIfInBounds id (.map l' clock')).size=w.heap.size:=by simp
 generalize w.heap.setIfInBounds id (.map l' clock')=H at *;obtain⟨Z,e2,_,_⟩:=x.kN b _ B id G;generalize D : ({C with own:=λd u' =>if d = b/\u' = 0 then some (⟨B.k,B.cells,.map wb⟩,id)else C.own d u'}:Ctx)=C'
 have j : ∀d u', C'.own d u' = if d = b/\u' = 0 then some (⟨B.k,B.cells,.map wb⟩,id)else C.own d u' :=λd u' =>by subst D; rfl
 have o : C'.I=C.I:=by subst D; rfl
 have p : C'.lim=C.lim:=by subst D; rfl
 have E:∀k,C.I k->H[k]? = w.heap[k]?:=λk s=>m k λe=>X (e▸s);have ev:fF C w.heap C' H :=by
  refine⟨λk h=>by rw[o];exact h,E,λb u h=>by rw[p];exact h,λd u' B' i JJ a =>?_⟩
  rw[j]at a
  by_cases e:d = b/\u' = 0
  .rw[ab e]at a
   simp at a; obtain⟨rfl,rfl⟩:=a;refine⟨B,by rw[e.1,e.2];exact G,by rw[K];rfl,rfl,λc el J=>?_⟩
   rw[O]at J;simp at J
  .rw[aa e]at a
   refine⟨B', a, rfl,rfl,λc el J=>⟨c,?_,rfl⟩⟩;have r:i ≠ id:=λr=>by subst r;rw[O]at J;simp at J
   rw[m i r];exact J
 have n:∀d u' B' i,C'.own d u' = some (B', i)->B'.st.jf=true->∃F z, C.own d F = some (z, i)/\z.st.jf=true:=by
  intro d u' B' i a g;rw[j]at a
  by_cases e:d = b/\u' = 0
  .rw[ab e]at a
   simp at a; obtain⟨rfl,rfl⟩:=a;exact⟨_,B,by rw[e.1];exact G,kQ K⟩
  .rw[aa e]at a
   exact⟨u', B', a, g⟩
 refine⟨⟨λk s=>by show k<H.size;rw[N];rw[o]at s;exact x.I k s,λd u' B' i a =>?_,λd u' B' i a g =>?_,λb1 u1 B1 i1 b2 u2 B2 i2 k1 l1 k2 l2 P=>?_,λd u' B' i Q a g =>?_⟩,
  ⟨ev,by show w.heap.size<=H.size;rw[N];exact aT _,λk s R=>m k λe=>R (e▸L),λk s=>?_,λk s=>.inl (by rw[o]at s;exact s),rfl,⟨rfl,aT _⟩,rfl⟩⟩
 .rw[p]
  rw[j]at a
  by_cases e:d = b/\u' = 0
  .rw[ab e]at a
   simp at a; obtain⟨rfl,rfl⟩:=a;exact⟨by rw[e.1,e.2];exact Z,by rw[e.2];exact e2,λh=>by simp at h,by simp⟩
  .rw[aa e]at a
   exact x.kN d u' B' i a
 .rw[o]
  rw[j]at a
  by_cases e:d = b/\u' = 0
  .rw[ab e]at a
   simp at a; obtain⟨rfl,rfl⟩:=a;simp at g
  .rw[aa e]at a
   obtain⟨j1,c1,S,T,j3,j4⟩:=x.live d u' B' i a g;have r:i ≠ id:=λr=>by subst r;rw[O]at T;simp at T
   refine⟨j1,c1,S,by show H[i]? = _;rw[m i r];exact T,j3,λi' q hq=>?_⟩
   obtain⟨y,m1,m2,m3⟩:=j4 i' q hq;exact⟨y,m1,VR.mono ev _ _ m2,m3⟩
 .obtain⟨_,_,U,V⟩:=n b1 u1 B1 i1 k1 l1
  obtain⟨_,_,q3,q4⟩:=n b2 u2 B2 i2 k2 l2;exact x.apart _ _ _ _ _ _ _ _ U V q3 q4 P
 .rw[j]at a
  by_cases e:d = b/\u' = 0
  .rw[ab e]at a
   simp at a; obtain⟨rfl,rfl⟩:=a;simp at g; subst g;exact⟨by rw[o];exact X,l', clock', M,Y.mono ev⟩
  .rw[aa e]at a
   have r:i ≠ id:=λr=>by
    subst r;have W:d = b:=Decidable.byContradiction λh=>x.apart d u' B' i b _ B i a (kQ g) G (kQ K) h rfl;subst W;exact e ⟨rfl,A u' B' i a⟩
   exact x.cQ (w' :={w with heap:=H}) ev a g (m i r) (by rw[o];exact(x.maps d u' B' i Q a g).1)
 .obtain⟨d, u', B', a, g⟩:=s
  obtain⟨F, z, U,V⟩:=n d u' B' k a g;exact .inl ⟨d, F, z, U,V⟩
variable{ids:Nat->Nat}{I:Nat->Prop}
theorem mM{u:Nat}(h:ak σ b=some B):∀u' B' id', (ad σ ids I).own b u' = some (B', id')->u' = B.cells.length:=λu' B' id' a =>by
 simp only[ad,h]at a;cases d:B.st<;>simp only[d]at a <;>first
  |(split at a <;>simp_all)
  |simp at a
theorem qV{u:Nat}(h:upto σ b u=some B):ak σ b=some B/\B.cells.length=u/\B.st ≠ .dead:=by
 unfold upto at h;cases d:ak σ b with
 |none=>simp[d]at h
 |some B' =>
  simp only[d]at h;cases e:B'.st<;>simp only[e]at h<;>first
   |(simp at h;done)
   |(by_cases a:B'.cells.length=u
     .simp[a]at h;subst h;exact⟨rfl,a,by rw[e];simp⟩
     .simp[a]at h)
theorem wP{b a : Nat}(h:b<σ.length):ak (ar σ b B) a = if a = b then some B else ak σ a :=by
 rw[cX,VE,cX,List.getElem?_set]
 by_cases e:a = b
 .subst e;simp[h]
 .rw[aa (λd =>e d.symm),aa e]
variable{B': ah}
theorem oR{B: ah}{id' : Nat}(l:ak σ b=some B) (g:B'.st ≠ .dead):∀b1 d e,(ad (ar σ b B') (λq=>if q=b then id' else ids q) I).own b1 d=some e->
  (if b1=b/\d=B'.cells.length then some (B', id')else(ad σ ids I).own b1 d)=some e:=λb1 d e h=>by
 have i:b<σ.length:=by rw[cX]at l;exact(dq.1 l).1
 simp only[ad,wP i]at h ⊢
 by_cases j:b1=b
 .subst j
  simp only[dt]at h;cases m:B'.st with
  |dead=>exact absurd m g
  |jq=>
   by_cases a:B'.cells.length=d
   .simp only[a,dt]at h
    rw[ab ⟨rfl,a.symm⟩];exact h
   .simp[a]at h
  |live=>
   by_cases a:B'.cells.length=d
   .simp only[a,dt]at h
    rw[ab ⟨rfl,a.symm⟩];exact h
   .simp[a]at h
  |map es=>
   by_cases a:B'.cells.length=d
   .simp only[a,dt]at h
    rw[ab ⟨rfl,a.symm⟩];exact h
   .simp[a]at h
 .rw[aa (λn =>j n.1)]
  simp only[aa j]at h;exact h
theorem oS{ids a : Nat->Nat}{B: ah}(e:ak σ b=some B) (hle:B.cells.length<=B'.cells.length):∀b1 g,(ad σ ids I).lim b1 g->(ad (ar σ b B') a I).lim b1 g:=λb1 g ⟨j,d,l⟩=>by
 have h:b<σ.length:=by rw[cX]at e;exact(dq.1 e).1
 simp only[ad,wP h]
 by_cases i:b1=b
 .subst i
  rw[e]at d;simp at d;subst d;exact⟨B', by simp,by omega⟩
 .exact⟨j,by rw[aa i];exact d,l⟩
variable{o:Oper}{t:TypeId}{x:Operand}{x': Rf}{z:AV}{cG: List ah}
theorem KH{p:Operand}{p': Rf}{n:Nat}(ho:o.op = .store t p x) (hn:cm P t n=true) (hg:Good (ad σ ids I) w)
  (hp:VR (ad σ ids I) w.heap (r p') (a.eval p)) (hx:VR (ad σ ids I) w.heap (r x') (a.eval x)) (he:fI ce σ r (.st p' x' n)=some (z,cG)):bA P o a w (jA σ ids I w z cG):=by
 simp only[fI]at he;cases KI : r p' <;>simp only[KI]at he<;>try(simp at he;done)
 rename_i b u off;cases hu:upto σ b u with
 |none=>simp[hu]at he
 |some B=>
  simp only[hu]at he;split at he
  case isFalse=>simp at he
  rename_i hc;simp only[aA,cF,dY]at hc;obtain⟨⟨⟨c1,c2⟩,c3⟩,c4⟩:=hc;simp only[bJ,Prod.mk.injEq]at he;obtain⟨rfl,rfl⟩:=he;obtain⟨hb,qT,pC⟩:=qV hu;have hs:B.st = .live:=by revert c3;cases B.st<;>simp[eM.isLive]
  have fH:=mG ids I hu;subst qT;rw[KI]at hp;unfold VR at hp;have e:=hp.2.2 B _ fH hs;obtain⟨_,c,el,hH,hle,nD⟩:=hg.live b _ B _ fH hs;have DC:=zE c4;have JF:=VR.size DC hx;have hv:=Du DC hx;obtain⟨g1,g2⟩:=uN (vals:=(a.eval x).cells.toList) (new:=(r x').cells) (off:=off) hg fH hs (mM (u:=0) hb) hH (by omega) (by simpa using JF) (λi q hi=>by
   obtain⟨y,k1,k2,k3⟩:=hv i q hi;exact⟨y,by rw[iu];exact k1,k2,k3⟩)
  obtain⟨pl,_⟩:=qU B.cells (r x').cells off (by omega)
  have iy:=oR (ids:=ids) (I:=I) (id' :=ids b) (B' :=⟨B.k,putAt B.cells off (r x').cells,B.st⟩) hb pC;have nE:(λq=>if q=b then ids b else ids q)=ids:=by funext q;split<;>simp_all
  rw[nE]at iy;obtain⟨f1,f2⟩:=Good.shrink (C2:=ad (ar σ b ⟨B.k,putAt B.cells off (r x').cells,B.st⟩) ids I) g1 rfl (λb1 u1 e1 h1=>by
   have:=iy b1 u1 e1 h1;simp only[pl]at this;exact this) (λb1 u1 h1=>oS (ids:=ids) (I:=I) hb (by show _<=(putAt B.cells off (r x').cells).length;omega) b1 u1 h1)
  have qW:∀v∈(a.eval x).cells.toList,v.oneCell' = true:=(VR.cells DC hx).2;have kA:=run_storeCells_at P (ids b) off el (a.eval x).cells.toList 0 c w hH (by simp;omega) qW
  refine bA.skip (w' :=w.setRow (ids b) (c.toList.take off++(a.eval x).cells.toList++c.toList.drop (off+(a.eval x).cells.toList.length)).toArray) ?_ ⟨ids,I,f1,g2.trans f2,by unfold VR;trivial⟩
  have JK:=kr hn w;simp only[execOp,ho,Instr.storeAt,e,Instr.sureAddr,storeVar,aS,bh,aU,JK];rw[aa (by rw[JF,c1];simp)]
  simp only[lW]at kA;rw[kA]
  rfl
variable{kt:TypeId}{m k:Operand}{m' k': Rf}{kd:Nat}
theorem KJ{e:TypeId}(ho:o.op = .mapUpdate t m k x\/o.op = .insert t m k x) (ht:P.underlying t=some (.map kt e)) (hk:dA P kt kd=true) (hg:Good (ad σ ids I) w)
  (KK:VR (ad σ ids I) w.heap (r m') (a.eval m)) (we:VR (ad σ ids I) w.heap (r k') (a.eval k)) (hx:VR (ad σ ids I) w.heap (r x') (a.eval x)) (he:fI ce σ r (.tX m' kd k' x')=some (z,cG)):bA P o a w (jA σ ids I w z cG):=by
 simp only[fI]at he;cases sA : r m' <;>simp only[sA]at he<;>try(simp at he;done)
 rename_i b;rw[sA]at KK;cases hm:eD σ b with
 |none=>simp[hm]at he
 |some es=>
  simp only[hm]at he;split at he
  case isFalse=>simp at he
  rename_i hf;simp only[aA]at hf;cases hq:cy es (r k')with
  |none=>simp[hq]at he
  |some q=>
   cases q with
   |some _=>simp[hq]at he
   |none=>
    simp only[hq,bJ,Prod.mk.injEq]at he;obtain⟨rfl,rfl⟩:=he;obtain⟨id,l,c,e1,hH,hM,B,hB,hs⟩:=zM hg (λb u B _ hu=>⟨_,qX ids I hu⟩) hm KK;obtain⟨q', h1,h2⟩:=DD hk hf.1 we w hM hq;cases q' with
    |some _=>exact h2.elim
    |none=>
     have hc:=DE hk hf.1 we w false;obtain⟨hb,rfl⟩:=wQ hB;have hu0:=mM (ids:=ids) (I:=I) (u:=0) hb 0 B _ hB;have KL : MR (ad σ ids I) w.heap (es ++ [(r k', r x')]) (l.push {key:=a.eval k,val:=a.eval x,born:=c}).toList:=by
      rw[Array.toList_push];exact hM.push (KM hf.1) we hx
     obtain⟨g1,g2⟩:=KG (l' :=l.push {key:=a.eval k,val:=a.eval x,born:=c}) (clock' :=c+1) hg hB hs (λu' B' id' h=>by
      have:=mM (ids:=ids) (I:=I) (u:=0) hb u' B' id' h;omega) hH KL
     have iy:=oR (ids:=ids) (I:=I) (id' :=ids b) (B' :=⟨B.k,B.cells,.map (es ++ [(r k', r x')])⟩) hb (by simp)
     have nE:(λq=>if q=b then ids b else ids q)=ids:=by funext q;split<;>simp_all
     rw[nE]at iy;have VF:nG σ b (es ++ [(r k', r x')])=ar σ b ⟨B.k,B.cells,.map (es ++ [(r k', r x')])⟩:=by simp only[nG,hb]
     rw[VF];obtain⟨f1,f2⟩:=Good.shrink (C2:=ad (ar σ b ⟨B.k,B.cells,.map (es ++ [(r k', r x')])⟩) ids I) g1 rfl (λb1 u1 e1 h1=>by
      have:=iy b1 u1 e1 h1;simp only[<-hu0]at this;exact this) (λb1 u1 h1=>oS (ids:=ids) (I:=I) hb (by show _<=B.cells.length;omega) b1 u1 h1)
     refine bA.skip (w' :={w with heap:=w.heap.setIfInBounds (ids b) (.map (l.push {key:=a.eval k,val:=a.eval x,born:=c}) (c+1))}) ?_ ⟨ids,I,f1,g2.trans f2,by unfold VR;trivial⟩
     have ft:(Instr.mapUpdate t (a.eval m) (a.eval k) (a.eval x)).run P w = .ok () {w with heap:=w.heap.setIfInBounds (ids b) (.map (l.push {key:=a.eval k,val:=a.eval x,born:=c}) (c+1))}:=by
      rw[e1];simp only[Instr.mapUpdate,aS,run_underlying ht,aU,uO hH,hc,h1,Go.MapKept.run_setObj_map _ hH]
     rcases ho with ho|ho
     .simp only[execOp,ho,aS,ft,aU,bh]
     .simp only[execOp,ho,aS,ft,aU,bh]
theorem KN{c c' : Nat}(o:Good (ad σ ids I) w) (d:ak σ b=some B) (n:(ad σ ids I).own b 0=some (B,ids b)) (p:B.st = .map es)
  (r:w.heap[ids b]? = some (.map l c)) (s:MR (ad σ ids I) w.heap wb l'.toList) :
  Good (ad (nG σ b wb) ids I) {w with heap:=w.heap.setIfInBounds (ids b) (.map l' c')}/\Step (ad σ ids I) w (ad (nG σ b wb) ids I) {w with heap:=w.heap.setIfInBounds (ids b) (.map l' c')}:=by
 have i:=mM (ids:=ids) (I:=I) (u:=0) d 0 B _ n;obtain⟨x,y⟩:=KG (l' :=l') (clock' :=c') o n p (λu' B' id' h=>by
  have:=mM (ids:=ids) (I:=I) (u:=0) d u' B' id' h;omega) r s
 have a:=oR (ids:=ids) (I:=I) (id' :=ids b) (B' :=⟨B.k,B.cells,.map wb⟩) d (by simp)
 have e:(λq=>if q=b then ids b else ids q)=ids:=by funext q;split<;>simp_all
 rw[e]at a;have g:nG σ b wb = ar σ b ⟨B.k,B.cells,.map wb⟩:=by simp only[nG,d]
 rw[g];obtain⟨f1,z⟩:=Good.shrink (C2:=ad (ar σ b ⟨B.k,B.cells,.map wb⟩) ids I) x rfl (λb1 j A m=>by
  have:=a b1 j A m;simp only[<-i]at this;exact this) (λb1 j m=>oS (ids:=ids) (I:=I) d (by show _<=B.cells.length;omega) b1 j m)
 exact⟨f1,y.trans z⟩
theorem KO{e:TypeId}(ho:o.op = .mapUpdate t m k x\/o.op = .insert t m k x) (ht:P.underlying t=some (.map kt e)) (hk:dA P kt kd=true) (wR:kd<2) (hg:Good (ad σ ids I) w)
  (KK:VR (ad σ ids I) w.heap (r m') (a.eval m)) (we:VR (ad σ ids I) w.heap (r k') (a.eval k)) (hx:VR (ad σ ids I) w.heap (r x') (a.eval x)) (he:fI ce σ r (.wg m' kd k' x')=some (z,cG)):bA P o a w (jA σ ids I w z cG):=by
 simp only[fI]at he;cases sA : r m' <;>simp only[sA]at he<;>try(simp at he;done)
 rename_i b;rw[sA]at KK;cases hm:eD σ b with
 |none=>simp[hm]at he
 |some es=>
  simp only[hm]at he;split at he
  case isFalse=>simp at he
  rename_i hf;simp only[aA]at hf;have hc:=DE hk hf.1 we w false;obtain⟨id,l,c,e1,hH,hM,B,hB,hs⟩:=zM hg (λb u B _ hu=>⟨_,qX ids I hu⟩) hm KK;obtain⟨hb,rfl⟩:=wQ hB;have fin:∀{w'},(Instr.mapUpdate t (a.eval m) (a.eval k) (a.eval x)).run P w = .ok () w' ->jA σ ids I w .aF cG undef w' ->bA P o a w (jA σ ids I w .aF cG):=λft hp=>by
   refine bA.skip ?_ hp;rcases ho with ho|ho
   .simp only[execOp,ho,aS,ft,aU,bh]
   .simp only[execOp,ho,aS,ft,aU,bh]
  cases hq:cy es (r k')with
  |none=>simp[hq]at he
  |some q=>
   cases q with
   |none=>
    simp only[hq,bJ,Prod.mk.injEq]at he;obtain⟨rfl,rfl⟩:=he;obtain⟨q', h1,h2⟩:=DD hk hf.1 we w hM hq;cases q' with
    |some _=>exact h2.elim
    |none=>
     have KL : MR (ad σ ids I) w.heap (es ++ [(r k', r x')]) (l.push {key:=a.eval k,val:=a.eval x,born:=c}).toList:=by
      rw[Array.toList_push];exact hM.push (KM hf.1) we hx
     obtain⟨f1,f2⟩:=KN (c' :=c+1) hg hb hB hs hH KL;refine fin (w' :={w with heap:=w.heap.setIfInBounds (ids b) (.map (l.push {key:=a.eval k,val:=a.eval x,born:=c}) (c+1))}) ?_ ⟨ids,I,f1,f2,by unfold VR;trivial⟩
     rw[e1];simp only[Instr.mapUpdate,aS,run_underlying ht,aU,uO hH,hc,h1,Go.MapKept.run_setObj_map _ hH]
   |some y=>
    simp only[hq,bJ,Prod.mk.injEq]at he;obtain⟨rfl,rfl⟩:=he;obtain⟨j,en,h1,h2,h3,h4⟩:=VG hk wR hf.1 we hx w hM hq;have KL : MR (ad σ ids I) w.heap (iz es (r k') (r x')) (l.modify j λe=>{e with key:=a.eval k,val:=a.eval x}).toList:=by
     have:(l.modify j λe=>{e with key:=a.eval k,val:=a.eval x}).toList=l.toList.set j {en with key:=a.eval k,val:=a.eval x}:=by
      rw[Array.toList_modify];apply List.ext_getElem?;intro i;rw[List.getElem?_modify,List.getElem?_set]
      by_cases hi:j=i
      .subst hi
       have cL:=(dq.1 h2).1;simp only[dt,h2,l6,ab cL]
       rfl
      .simp only[aa hi]
       cases l.toList[i]?<;>rfl
     rw[this];exact h4
    obtain⟨f1,f2⟩:=KN (c' :=c) hg hb hB hs hH KL;refine fin (w' :={w with heap:=w.heap.setIfInBounds (ids b) (.map (l.modify j λe=>{e with key:=a.eval k,val:=a.eval x}) c)}) ?_ ⟨ids,I,f1,f2,by unfold VR;trivial⟩
    have hj:l[j]? = some en:=by rw[<-Array.getElem?_toList];exact h2
    have jo:(Instr.keyThatStays (((l[j]?).map (·.key)).getD (a.eval k)) (a.eval k)).run P w = .ok (a.eval k) w:=by
     rw[hj];simp only[l6,Option.getD_some,h3];exact VH hk wR hf.1 we w
    rw[e1];simp only[Instr.mapUpdate,aS,run_underlying ht,aU,uO hH,hc,h1,jo,Go.MapKept.run_setObj_map _ hH]
end
end Ab
set_option linter.all false
namespace Ab
open Go
variable{P:Program}
section
variable{a:Act}{ρ:Operand->Value}{r:Rf->AV}{w:World}{C:Ctx}{R:Operand->Rf->Bool}{ce:CE}{σ:List ah}{nl:Nat}{ps:List cD}
variable{B:ah}
theorem KP{b:Nat}:ak (σ ++ [B]) b=if b=σ.length then some B else ak σ b:=by
 rw[cX,cX]
 by_cases e:b=σ.length
 .subst e;simp
 .rw[aa e]
  by_cases h:b<σ.length
  .rw[eC h]
  .rw[eK (by omega),jh (by simp;omega),jh (by omega)]
variable{ids:Nat->Nat}{I:Nat->Prop}{id:Nat}
theorem zO(g:B.st ≠ .dead):∀b u e,(ad (σ ++ [B]) (λq=>if q=σ.length then id else ids q) I).own b u=some e->(ao (ad σ ids I) σ.length B.cells.length (B,id)).own b u=some e:=λb u e h=>by
 simp only[ad,ao,KP]at h ⊢
 by_cases d:b=σ.length
 .simp only[d,dt]at h
  cases i:B.st with
  |dead=>exact absurd i g
  |jq=>
   by_cases a:B.cells.length=u
   .simp only[a,dt]at h
    rw[ab ⟨d,a.symm⟩];exact h
   .simp[a]at h
  |live=>
   by_cases a:B.cells.length=u
   .simp only[a,dt]at h
    rw[ab ⟨d,a.symm⟩];exact h
   .simp[a]at h
  |map es=>
   by_cases a:B.cells.length=u
   .simp only[a,dt]at h
    rw[ab ⟨d,a.symm⟩];exact h
   .simp[a]at h
 .rw[aa (λj =>d j.1)]
  simp only[aa d]at h;exact h
theorem zP{ids a : Nat->Nat}:∀b u,(ao (ad σ ids I) σ.length B.cells.length (B,id)).lim b u->(ad (σ ++ [B]) a I).lim b u:=λb u h=>by
 simp only[ad,ao,KP]at h ⊢;rcases h with⟨rfl,rfl⟩|⟨g,d,i⟩
 .exact⟨B,by simp,aT _⟩
 .have:b ≠ σ.length:=λe=>by
   rw[cX,jh (by omega)]at d;simp at d
  exact⟨g,by rw[aa this];exact d,i⟩
theorem uP:∀u,¬(ad σ ids I).lim σ.length u:=λu ⟨b,a,_⟩=>by
 rw[cX,jh (by omega)]at a;simp at a
theorem VI{o:Oper}{ca:Call}{s x:Operand}{t t' e:TypeId}{s' x' : Rf}{k:Option Nat}{z:AV}{cG : List ah}(ho:o.op = .call ca) (hc:ca.callee = .builtin .append) (ha:ca.args.toList=[s,x]) (kU:ca.argTypes.toList=[t,t'])
  (ht:aN P t=some e) (mL : (aN P t').isSome=true) (hk:bu P e k=true) (tW:fe P e=true) (hz:cH P e=true) (hg:Good (ad σ ids I) w)
  (hs:VR (ad σ ids I) w.heap (r s') (a.eval s)) (hx:VR (ad σ ids I) w.heap (r x') (a.eval x)) (he:fI ce σ r (.cu s' x' k)=some (z,cG)):bA P o a w (jA σ ids I w z cG):=by
 have jg:∀b u B,(ad σ ids I).lim b u->upto σ b u=some B->∃id,(ad σ ids I).own b u=some (B,id):=λb u B _ h=>⟨_,mG ids I h⟩
 -- a new block at the VJ end
 have DF:∀(B:ah) (x1:AV) v w' id', B.st = .live->Good (ao (ad σ ids I) σ.length B.cells.length (B,id')) w' ->Step (ad σ ids I) w (ao (ad σ ids I) σ.length B.cells.length (B,id')) w' ->
   VR (ao (ad σ ids I) σ.length B.cells.length (B,id')) w'.heap x1 v->jA σ ids I w x1 (σ ++ [B]) v w' :=λB x1 v w' id' jo h2 h3 h4=>by
  obtain⟨f1,f2⟩:=Good.shrink (C2:=ad (σ ++ [B]) (λq=>if q=σ.length then id' else ids q) I) h2 rfl (zO (by rw[jo];simp)) zP
  exact⟨_,I,f1,h3.trans f2,VR.mono f2.ev _ _ h4⟩
 simp only[fI]at he;cases fG:aJ σ k (r x')with
 |none=>simp[fG]at he
 |some VB=>
  obtain⟨n,cs⟩:=VB;simp only[fG]at he;cases iU : r s' <;>simp only[iU]at he<;>try(simp at he;done)
  .rw[iU]at hs
   have hv:a.eval s = .slice none 0 0:=hs
   by_cases hn:n=0
   .subst hn
    simp at he;obtain⟨rfl,rfl⟩:=he;exact jz ho hc ha kU (qS ht mL hk hg jg fG hx ⟨none,0,0,hv,aT 0⟩) ⟨ids,I,hg,Step.refl _ _,by rw[hv];exact rfl⟩
   .have kV : (n==0)=false:=by simpa using hn
    simp only[kV, eo,eJ]at he;split at he
    case isFalse=>simp at he
    rename_i nA;simp only[bJ,Prod.mk.injEq]at he;obtain⟨rfl,rfl⟩:=he;obtain⟨v,w', id', h1,h2,h3,h4⟩:=p8 (P:=P) (σ:=σ) (cells:=[]) (k0:=k) (b:=σ.length) (len:=0) (cap:=0) (base:=none) (olds:=[]) (ty:=o.type) ht mL hk tW hz hg jg fG hx (uP _) rfl (by simp) rfl (λw1 _=>by simp[Builtin.firstCells]) (by simp) (by omega) (by omega)
    rw[<-hv]at h1;simp only[oQ,gq]at h2 h3 h4;exact jz ho hc ha kU h1 (DF ⟨k,cs,.live⟩ _ _ _ id' rfl h2 h3 h4)
  .rw[iU]at hs
   have uM:=hs;unfold VR at hs;obtain⟨a0,hv⟩:=hs
   by_cases hn:n=0
   .subst hn
    simp at he;obtain⟨rfl,rfl⟩:=he;exact jz ho hc ha kU (qS ht mL hk hg jg fG hx ⟨_,_,_,hv,aT 0⟩) ⟨ids,I,hg,Step.refl _ _,uM⟩
   .have kV : (n==0)=false:=by simpa using hn
    simp only[kV, eo,eJ]at he;split at he
    case isFalse=>simp at he
    rename_i nA;simp only[bJ,Prod.mk.injEq]at he;obtain⟨rfl,rfl⟩:=he;obtain⟨olds,_,k1,k2,k3,k4⟩:=p7 (P:=P) (σ:=σ) (k:=k) (X:=.emp) (v:=a.eval s) (n:=0) (cs:=[]) (by simp[aJ]) hg jg uM
    rw[hv]at k1;obtain⟨v,w', id', h1,h2,h3,h4⟩:=p8 (P:=P) (σ:=σ) (cells:=[]) (k0:=k) (b:=σ.length) (len:=0) (cap:=0) (base:=a0) (olds:=olds) (ty:=o.type) ht mL hk tW hz hg jg fG hx (uP _) rfl k2 k3 k1 k4 (by omega) (by omega)
    rw[<-hv]at h1;simp only[oQ,gq]at h2 h3 h4;exact jz ho hc ha kU h1 (DF ⟨k,cs,.live⟩ _ _ _ id' rfl h2 h3 h4)
  .rename_i l
   rw[iU]at hs;have uM:=hs;unfold VR at hs;obtain⟨VK, off,st,c,el,fz,hv,hI,hH,hl⟩:=hs
   by_cases hn:n=0
   .subst hn
    simp at he;obtain⟨rfl,rfl⟩:=he;refine jz ho hc ha kU (qS ht mL hk hg jg fG hx ⟨_,_,_,hv,aT _⟩) ⟨ids,I,hg,Step.refl _ _,?_⟩;split
    .rename_i JI
     unfold VR;exact⟨JI,.inr ⟨VK, off,l.length,st,c,el,fz,hv,aT _,hI,hH,hl⟩⟩
    .exact uM
   .have kV : (n==0)=false:=by simpa using hn
    simp only[kV, eo,eJ]at he;split at he
    case isFalse=>simp at he
    rename_i gr;simp only[aA,dY]at gr;simp only[bJ,Prod.mk.injEq]at he;obtain⟨rfl,rfl⟩:=he;obtain⟨olds,_,k1,k2,k3,k4⟩:=p7 (P:=P) (σ:=σ) (k:=k) (X:=.arr l) (v:=a.eval s) (n:=l.length) (cs:=l.flatMap AV.cells) (by simp only[aJ,gr.1,dt]) hg jg uM
    rw[hv]at k1;obtain⟨v,w', id', h1,h2,h3,h4⟩:=p8 (P:=P) (σ:=σ) (cells:=l.flatMap AV.cells) (k0:=k) (b:=σ.length) (olds:=olds) (ty:=o.type) ht mL hk tW hz hg jg fG hx (uP _) rfl k2 k3 k1 k4 (by omega) gr.2
    rw[<-hv]at h1;exact jz ho hc ha kU h1 (DF ⟨k,l.flatMap AV.cells++cs,.live⟩ _ _ _ id' rfl h2 h3 h4)
  .rename_i b u off len
   cases hu:upto σ b u with
   |none=>simp[hu]at he
   |some B=>
    simp only[hu]at he;split at he
    case isFalse=>simp at he
    rename_i gr;simp only[aA,cF,dY]at gr;obtain⟨⟨rfl,nA⟩,vY⟩:=gr;have vY:=zL vY;obtain⟨hb,qT,pC⟩:=qV hu;have fH:=mG ids I hu;subst qT;rw[iU]at hs
    by_cases hn:n=0
    .subst hn
     simp at he;obtain⟨rfl,rfl⟩:=he;have vZ:∃a' l' c', a.eval s = .slice a' l' c' /\l' <=c' :=by
      unfold VR at hs;obtain⟨⟨q,c,e1,e2,_⟩,_⟩:=hs;exact⟨_,_,_,e1,e2⟩
     exact jz ho hc ha kU (qS ht mL hk hg jg fG hx vZ) ⟨ids,I,hg,Step.refl _ _,hs⟩
    .have kV : (n==0)=false:=by simpa using hn
     simp only[kV, eo,eJ]at he;split at he
     case isTrue=>simp at he
     rename_i wa;simp at wa;have anh : 0<cs.length:=l5.2 wa;split at he
     .rename_i qT
      simp only[cF]at qT;simp only[bJ,Prod.mk.injEq]at he;obtain⟨rfl,rfl⟩:=he;obtain⟨v,w', id', h1,h2,h3,h4⟩:=KE (P:=P) (σ:=σ) (ty:=o.type) ht mL hk tW hz hg jg fG hx fH qT (by rw[vY]) hs (by omega) nA (wO hu) (λ⟨B1,q1,q2⟩=>by rw[hb]at q1;simp at q1;subst q1;simp at q2;omega) (mM (u:=0) hb)
      have iy:=oR (ids:=ids) (I:=I) (id' :=id') (B' :=⟨B.k,B.cells++cs,.live⟩) hb (by simp)
      obtain⟨f1,f2⟩:=Good.shrink (C2:=ad (ar σ b ⟨B.k,B.cells++cs,.live⟩) (λq=>if q=b then id' else ids q) I) h2 rfl (λb1 u1 e1 h1=>iy b1 u1 e1 h1) (λb1 u1 h1=>by
       rcases h1 with⟨e1,e2⟩|h1
       .have cL:b<σ.length:=by rw[cX]at hb;exact(dq.1 hb).1
        exact⟨⟨B.k,B.cells++cs,.live⟩,by rw[wP cL,ab e1],by rw[e2];exact aT _⟩
       .exact oS (ids:=ids) (I:=I) hb (by show _<=(B.cells++cs).length;simp) b1 u1 h1)
      have e1:B.cells.length+cs.length=(B.cells++cs).length:=by simp
      rw[e1];exact jz ho hc ha kU h1 ⟨_,I,f1,h3.trans f2,VR.mono f2.ev _ _ h4⟩
     .split at he
      case isFalse=>simp at he
      rename_i hle;simp only[bJ,Prod.mk.injEq]at he;obtain⟨rfl,rfl⟩:=he;obtain⟨vals,⟨q,m,Vz⟩,hf,qR,vX,Cx⟩:=p7 (P:=P) fG hg jg hx;have DG:len*aE k+cs.length<=B.cells.length:=by rw[qR,<-Nat.add_mul];exact hle
      obtain⟨_,_,VL,_⟩:=hg.kN b _ B _ fH;have iV:B.st = .live:=by
       cases jo:B.st with
       |dead=>exact absurd jo pC
       |map es=>have:=wO hu;rw[jo]at this;simp[eM.iv]at this
       |live=>rfl
       |jq=>
        have h0:B.cells.length=0:=by rw[VL jo];rfl
        omega
      have KQ:=hs;unfold VR at KQ;have KQ:=KQ.2.2 B _ fH;simp only[iV]at KQ;obtain⟨c,el,o', cap,g1,hv,g3,g4,g5⟩:=KQ;obtain⟨_,c', zb, n2,n3,n4⟩:=hg.live b _ B _ fH iV;rw[g1]at n2;simp only[bJ,kv]at n2;obtain⟨rfl,rfl,_⟩:=n2;rw[vY]at g5;have Dy:0<aE k:=Nat.pos_of_ne_zero λh=>by rw[h,Nat.mul_zero]at qR;omega
      have wS:len+n<=cap:=by
       have:(len+n)*aE k<=cap*aE k:=by omega
       exact Nat.le_of_mul_le_mul_right this Dy
      have VM:0<cap:=by omega
      have Vy:=g3 VM;subst Vy;have qW:∀v∈vals,v.oneCell' = true:=λv hv=>by
       obtain⟨i,hi⟩:=List.getElem?_of_mem hv;have cL:=(dq.1 hi).1;obtain⟨y,m1,m2,m3⟩:=Cx i cs[i] (cO (by omega))
       rw[hi]at m1;simp at m1;subst m1;exact m3
      have kA:=run_storeCells_at P (ids b) (len*aE k) el vals 0 c w g1 (by omega) qW
      have KR:=DB (P:=P) (w:=w) (ty:=o.type) (base:=some ⟨ids b,0,none⟩) ht mL hk Vz (hf w rfl) wS (λb' Ue =>by
       simp at Ue; subst Ue;rw[p6,gq];exact kA) (λh=>by simp at h)
      rw[<-hv]at KR;obtain⟨p1,p2⟩:=uN (vals:=vals) (new:=cs) (off:=len*aE k) hg fH iV (mM (u:=0) hb) g1 DG vX Cx;obtain⟨pl,_⟩:=qU B.cells cs (len*aE k) DG;have iy:=oR (ids:=ids) (I:=I) (id' :=ids b) (B' :=⟨B.k,putAt B.cells (len*aE k) cs,B.st⟩) hb pC;have nE:(λq=>if q=b then ids b else ids q)=ids:=by funext q;split<;>simp_all
      rw[nE]at iy;obtain⟨f1,f2⟩:=Good.shrink (C2:=ad (ar σ b ⟨B.k,putAt B.cells (len*aE k) cs,B.st⟩) ids I) p1 rfl (λb1 u1 e1 h1=>by
       have:=iy b1 u1 e1 h1;simp only[pl]at this;exact this) (λb1 u1 h1=>oS (ids:=ids) (I:=I) hb (by show _<=(putAt B.cells (len*aE k) cs).length;omega) b1 u1 h1)
      refine jz ho hc ha kU KR ⟨ids,I,f1,p2.trans f2,?_⟩;have cL:b<σ.length:=by rw[cX]at hb;exact(dq.1 hb).1
      unfold VR;refine⟨⟨_,_,rfl,wS,λ_=>⟨_,rfl⟩⟩,⟨_,by rw[wP cL,ab rfl],by show _<=(putAt B.cells (len*aE k) cs).length;omega⟩,λB2 zd h2=>?_⟩
      have wT :=iy b _ _ h2;rw[ab ⟨rfl,pl.symm⟩]at wT;simp at wT;obtain⟨rfl,rfl⟩:=wT;simp only[iV];refine⟨_,el,0,cap,setRow_heap w (ids b) c _ el (0,0) g1,rfl,λ_=>rfl,wS,?_⟩;rw[(KF (by omega)).1,vY]
      exact g5
end
end Ab
set_option linter.all false
namespace Ab
open Go
variable{P:Program}
theorem wU (n:Nat):∀l:List AV,km n l=l.map (iW n)
 | []=>rfl
 |x::r=>by simp only[km,wU n r,cJ]
structure qY (n:Nat) (C1 C' : Ctx):Prop where
 au:∀k,C1.I k->C'.I k
 lim:∀b u,C1.lim b u->C'.lim (b+n) u
 own:∀b u B' id,C1.lim b u->C'.own (b+n) u=some (B', id)->∃B,C1.own b u=some (B,id)/\B'.st=oG n B.st/\B.k=B'.k
theorem VN{n:Nat}{B:ah}{es:List (AV×AV)}(h:(gm n B).st = .map es):∃a,B.st = .map a/\es=KS n a:=by
 have h:oG n B.st = .map es:=h;cases b:B.st with
 |map a=>rw[b]at h;simp[oG]at h;exact⟨a,rfl,h.symm⟩
 |jq=>rw[b]at h;simp[oG]at h
 |live=>rw[b]at h;simp[oG]at h
 |dead=>rw[b]at h;simp[oG]at h
variable{s:eM}
theorem VO{n:Nat}:(oG n s).iv=s.iv:=by cases s<;>rfl
theorem wV{n:Nat}:(oG n s).jf=s.jf:=by cases s<;>rfl
theorem KT{n:Nat}(h:oG n s = .live):s = .live:=by cases s<;>simp_all [oG]
theorem VP{n:Nat}(h:oG n s = .jq):s = .jq:=by cases s<;>simp_all [oG]
theorem VQ{n:Nat}(h:oG n s = .dead):s = .dead:=by cases s<;>simp_all [oG]
section
variable{n:Nat}{C1 C' : Ctx}{H:Array Obj}
mutual
theorem VR.shift (h:qY n C1 C'):∀(x:AV) (v:Value),VR C1 H x v->VR C' H (iW n x) v
 |.int _,_,U=>U
 |.ik _ _,_,U=>U
 |.bool _,_,U=>U
 |.str _,_,U=>U
 |.agg l,_,⟨vs,e,hl,hc⟩=>⟨vs,e,bW.shift h l vs hl,hc⟩
 |.bF l,_,⟨vs,e,hl⟩=>⟨vs,e,bW.shift h l vs hl⟩
 |.ae,_,U=>U
 |.emp,_,U=>U
 |.au nn l,v,U=>VR.free (show nu C1 H C' H from⟨h.au,λ_ _=>rfl⟩) (.au nn l) v rfl U
 |.arr l,v,U=>by
  unfold VR at U;unfold iW VR;obtain⟨b,off,st,c,el,fz,e,hI,hH,hl⟩:=U;refine⟨b,off,st,c,el,fz,?_,h.au b hI,hH,jc.shift h c st l off hl⟩;rw[wU];simpa using e
 |.sl b u off len,v,U=>by
  unfold VR at U;unfold iW VR;obtain⟨h0,h1,h3⟩:=U;refine⟨h0,h.lim b u h1,λB' id V=>?_⟩;obtain⟨B,g1,g2,g3⟩:=h.own b u B' id h1 V;have:=h3 B id g1;rw[g3]at this;rw[g2];cases hs:B.st<;>rw[hs]at this<;>simpa[oG]using this
 |.gI,_,U=>U
 |.aV x,v,U=>VR.free (show nu C1 H C' H from⟨h.au,λ_ _=>rfl⟩) (.aV x) v rfl U
 |.ptr b u off,v,U=>by
  unfold VR at U;unfold iW VR;obtain⟨h0,h1,h3⟩:=U;refine⟨h0,h.lim b u h1,λB' id V hl=>?_⟩;obtain⟨B,g1,g2,g3⟩:=h.own b u B' id h1 V;exact h3 B id g1 (KT (g2.symm.trans hl))
 |.j9,_,U=>U
 |.func _ l,_,⟨vs,e,hl⟩=>⟨vs,e,bW.shift h l vs hl⟩
 |.gu,_,U=>U
 |.iface _ x,_,⟨y,e,hx⟩=>⟨y,e,VR.shift h x y hx⟩
 |.cC b,v,U=>by
  unfold VR at U;unfold iW VR;obtain⟨h0,h1,h3⟩:=U;refine⟨h0,h.lim b 0 h1,λB' id V hl=>?_⟩;obtain⟨B,g1,g2,g3⟩:=h.own b 0 B' id h1 V;exact h3 B id g1 (by rw[g2,VO]at hl;exact hl)
 |.oT,_,U=>U
 |.aF,_,_=>trivial
theorem bW.shift (h:qY n C1 C'):∀(l:List AV) (vs:List Value),bW C1 H l vs->bW C' H (km n l) vs
 | [],_,U=>U
 |x::r,_,⟨v,s,e,hx,V⟩=>⟨v,s,e,VR.shift h x v hx,bW.shift h r s V⟩
theorem jc.shift (h:qY n C1 C') (c:Array Value) (st:Nat):∀(l:List AV) (off:Nat),jc C1 H c st l off->jc C' H c st (km n l) off
 | [],_,_=>trivial
 |x::r,off,⟨⟨v,hx,e,U⟩,V⟩=>⟨⟨v,VR.shift h x v hx,e,U⟩,jc.shift h c st r (off+st) V⟩
end
theorem MR.shift (h:qY n C1 C'):∀{es:List (AV×AV)}{l:List MapEntry},MR C1 H es l->MR C' H (KS n es) l
 | [],_,e=>e
 |(k,x)::r,_,⟨e,s,q,⟨U,V⟩,x2,hr⟩=>⟨e,s,q,⟨U,VR.free ⟨h.au,λ_ _=>rfl⟩ _ _ U V⟩,VR.shift h _ _ x2,MR.shift h hr⟩
end
section
variable{a:Act}{ρ:Operand->Value}{r:Rf->AV}{w:World}{C:Ctx}{R:Operand->Rf->Bool}{ce:CE}{σ:List ah}{nl:Nat}{ps:List cD}
variable{ids:Nat->Nat}{I:Nat->Prop}{o:Oper}{ca:Call}{f:Nat}{ys:List Rf}{z:AV}{cG: List ah}
theorem VT(d:ck P ce) (h:o.op = .call ca) (i:ca.callee = .value (.func f)) (j:cz P f=true) (l:Good (ad σ ids I) w)
  (m:bW (ad σ ids I) w.heap (ys.map r) (ca.args.toList.map a.eval)) (g:fI ce σ r (.eZ f ys)=some (z,cG)):bA P o a w (jA σ ids I w z cG):=by
 simp only[fI]at g;refine bA.call (zB h i j w) ((d f _ σ z cG g ids I w _ l m).mono ?_);rintro e w' ⟨v,b, I', rfl,n,p,q⟩;exact⟨v,rfl,b, I', n,q,p⟩
theorem VU{j:Operand}{y:Rf}(g:ck P ce) (h:dX P ce) (n:o.op = .call ca) (p:ca.callee = .value j) (q:Good (ad σ ids I) w)
  (i:VR (ad σ ids I) w.heap (r y) (a.eval j)) (s:bW (ad σ ids I) w.heap (ys.map r) (ca.args.toList.map a.eval)) (b:fI ce σ r (.kB y ys)=some (z,cG)):bA P o a w (jA σ ids I w z cG):=by
 simp only[fI]at b;cases l:r y<;>simp only[l]at b<;>try(simp at b;done)
 rename_i f m;rw[l]at i;unfold VR at i;obtain⟨vs,e,u⟩:=i;refine bA.call (Kk n p e (h _ _ _ _ b) w) ((g f _ σ z cG b ids I w _ q (s.append u)).mono ?_);rintro e w' ⟨v,d, I', rfl,x,A,B⟩;exact⟨v,rfl,d, I', x,B,A⟩
variable{b:Nat}
theorem KU:ak (cG.map (gm nl)) b=(ak cG b).map (gm nl):=by
 rw[cX,cX];simp
theorem wW (B:ah):(gm nl B).cells.length=B.cells.length:=by simp[gm,wU]
theorem KV{I I' : Nat->Prop}{u:Nat}{B' : ah}{id:Nat}(h:(ad (cG.map (gm nl)) ids I).own b u=some (B', id)):∃B,(ad cG ids I').own b u=some (B,id)/\B' = gm nl B:=by
 simp only[ad,KU]at h ⊢;cases a:ak cG b with
 |none=>simp[a]at h
 |some B=>
  simp only[a,l6]at h ⊢;have e:(gm nl B).st=oG nl B.st:=rfl;rw[e,wW]at h;cases g:B.st<;>simp only[g,oG]at h ⊢<;>first
   |(simp at h;done)
   |(by_cases d:B.cells.length=u
     .simp only[d,dt]at h ⊢
      simp at h;exact⟨B,by rw[h.2],h.1.symm⟩
     .simp[d]at h)
theorem VV{x:AV}{p:Option cD}(pD:ck P ce) (ho:o.op = .call ca) (hc:ca.callee = .value (.func f)) (hb:cz P f=true) (hg:Good C w)
  (DH:∀l,p=some (.news l)->∀b u,nl<=b->b<nl+l.length->¬C.lim b u)
  (hx:bW C w.heap (ys.map r) (ca.args.toList.map a.eval)) (he:ev ce σ nl ps r (.can f ys)=some (x,p)):bA P o a w (iq nl C w x p):=by
 simp only[ev]at he;split at he
 case isFalse=>simp at he
 rename_i hn;cases DI:ce f (ys.map r) []with
 |none=>simp[DI]at he
 |some q=>
  obtain⟨v0,cG⟩:=q;simp only[DI,bJ,Prod.mk.injEq]at he;obtain⟨rfl,rfl⟩:=he;have DH:=DH _ rfl;have KW:bW (ad [] (λ_=>0) C.I) w.heap (ys.map r) (ca.args.toList.map a.eval):=bW.free (show nu C w.heap (ad [] (λ_=>0) C.I) w.heap from⟨λ_ h=>h,λ_ _=>rfl⟩) _ _ hn hx;refine bA.call (zB ho hc hb w) ((pD f _ [] v0 cG DI (λ_=>0) C.I w _ (Kh hg _) KW).mono ?_);rintro e w' ⟨v,bO, I', rfl,KX,hr,hs⟩;refine⟨v,rfl,?_⟩;have hlen:(cG.map (gm nl)).length=cG.length:=by simp
  let C' : Ctx:={I:=I', own:=λb u=>if nl<=b/\b<nl+(cG.map (gm nl)).length then(ad (cG.map (gm nl)) bO C.I).own (b-nl) u else C.own b u,lim:=λb u=>(nl<=b/\(ad (cG.map (gm nl)) bO C.I).lim (b-nl) u)\/C.lim b u}
  have kW:∀k,k<w.heap.size->w'.heap[k]? = w.heap[k]?:=λk hk=>hs.frame k hk mF;have KY:∀b u,(ad cG bO I').lim b u->b<cG.length:=λb u ⟨B,h1,_⟩=>by rw[cX]at h1;exact(dq.1 h1).1
  have Cy:∀b u,(ad (cG.map (gm nl)) bO C.I).lim b u↔(ad cG bO I').lim b u:=λb u=>by
   simp only[ad,KU];constructor
   .rintro⟨B,h1,h2⟩
    obtain⟨B0,h3,h4⟩:=mH.1 h1;subst h4;exact⟨B0,h3,by rwa [wW]at h2⟩
   .rintro⟨B,h1,h2⟩
    exact⟨gm nl B,by rw[h1];rfl,by rw[wW];exact h2⟩
  have vZ:qY nl (ad cG bO I') C' :=by
   refine⟨λ_ h=>h,λb u h=>.inl ⟨by omega,?_⟩,λb u B' id hl jB =>?_⟩
   .rw[show b+nl-nl=b by omega];exact(Cy b u).2 h
   .have cL:=KY b u hl
    have jY:nl<=b+nl/\b+nl<nl+(cG.map (gm nl)).length:=by rw[hlen];omega
    simp only[C', ab jY]at jB;rw[show b+nl-nl=b by omega]at jB
    obtain⟨B,h1,h2⟩:=KV (I' :=I') jB;exact⟨B,h1,by rw[h2];rfl,by rw[h2];rfl⟩
  have VW : fF C w.heap C' w'.heap:=by
   refine⟨λk hk=>hs.ev.au k hk,λk hk=>kW k (hg.I k hk),λ_ _ h=>.inr h,λb u B' id hl jB =>?_⟩;have DJ:¬(nl<=b/\b<nl+(cG.map (gm nl)).length):=λ⟨h1,h2⟩=>DH b u h1 h2 hl;simp only[C', aa DJ]at jB;refine⟨B', jB, rfl,rfl,λc el wL =>⟨c,?_,rfl⟩⟩;rw[kW id (ju.1 wL).1];exact wL
  have uQ:∀id,owned (ad cG bO I') id->w.heap.size<=id:=λid h=>(hs.fN id h).elim (λh=>absurd h mF) (λh=>h);have pE:∀b u B' id,C'.own b u=some (B', id)->(nl<=b/\b<nl+(cG.map (gm nl)).length/\∃B,(ad cG bO I').own (b-nl) u=some (B,id)/\B' = gm nl B)\/C.own b u=some (B', id):=λb u B' id h=>by
   by_cases jY:nl<=b/\b<nl+(cG.map (gm nl)).length
   .simp only[C', ab jY]at h
    obtain⟨B,h1,h2⟩:=KV (I' :=I') h;exact .inl ⟨jY.1,jY.2,B,h1,h2⟩
   .simp only[C', aa jY]at h
    exact .inr h
  refine⟨C', ⟨KX.I,λb u B' id h=>?_,λb u B' id h hl=>?_,λb1 u1 B1 i1 b2 u2 B2 i2 k1 l1 k2 l2 gY=>?_,λb u B' id es h hl=>?_⟩,⟨VW, hs.size,λk hk _=>kW k hk,λk hk=>?_,λk hk=>?_,hs.os,hs.tape,hs.output⟩,VR.shift vZ _ _ hr,bO, rfl,rfl⟩
  .rcases pE b u B' id h with⟨q1,q2,B,q3,rfl⟩|h'
   .obtain⟨j1,j2,j3,j4⟩:=KX.kN _ _ _ _ q3
    exact⟨.inl ⟨q1,(Cy _ _).2 j1⟩,by rw[wW];exact j2,λh0=>by
     have:B.cells=[]:=j3 (VP h0);simp[gm,this,km],λh0=>j4 (VQ h0)⟩
   .obtain⟨j1,j2,j3,j4⟩:=hg.kN _ _ _ _ h'
    exact⟨.inr j1,j2,j3,j4⟩
  .rcases pE b u B' id h with⟨q1,q2,B,q3,rfl⟩|h'
   .obtain⟨j1,c,el,j2,j3,j4⟩:=KX.live _ _ _ _ q3 (KT hl)
    refine⟨j1,c,el,j2,by rw[wW];exact j3,λi y hi=>?_⟩
    have lP : (km nl B.cells)[i]? = some y:=hi;rw[wU,fS]at lP;obtain⟨y0,e1,rfl⟩:=mH.1 lP;obtain⟨v', m1,m2,m3⟩:=j4 i y0 e1;exact⟨v', m1,VR.shift vZ _ _ m2,m3⟩
   .obtain⟨j1,c,el,j2,j3,j4⟩:=hg.live _ _ _ _ h' hl
    have cL:=(ju.1 j2).1;refine⟨λhi=>?_,c,el,by rw[kW id cL];exact j2,j3,λi y hi=>?_⟩
    .rcases hs.ga id hi with h1|h1|h1
     .exact j1 h1
     .exact mF h1
     .omega
    .obtain⟨v', m1,m2,m3⟩:=j4 i y hi
     exact⟨v', m1,VR.mono VW _ _ m2,m3⟩
  .rcases pE _ _ _ _ k1 with⟨q1,q2,B,q3,rfl⟩|h1<;>rcases pE _ _ _ _ k2 with⟨q4,q5,B', q6,rfl⟩|h2
   .exact KX.apart _ _ _ _ _ _ _ _ q3 (wV.symm.trans l1) q6 (wV.symm.trans l2) (by omega)
   .have:=uQ i1 ⟨_,_,B,q3,wV.symm.trans l1⟩
    have:=hg.lt ⟨b2,u2,B2,h2,l2⟩;omega
   .have:=uQ i2 ⟨_,_,B', q6,wV.symm.trans l2⟩
    have:=hg.lt ⟨b1,u1,B1,h1,l1⟩;omega
   .exact hg.apart _ _ _ _ _ _ _ _ h1 l1 h2 l2 gY
  .rcases pE b u B' id h with⟨q1,q2,B,q3,rfl⟩|h'
   .obtain⟨es0,VX,rfl⟩:=VN hl
    obtain⟨j1,l,c,j2,j3⟩:=KX.maps _ _ _ _ es0 q3 VX;exact⟨j1,l,c,j2,MR.shift vZ j3⟩
   .have cL:=hg.lt ⟨_,_,_,h', kQ hl⟩
    refine hg.cQ (C' :=C') VW h' hl (kW id cL) λhi=>?_;rcases hs.ga id hi with h1|h1|h1
    .exact(hg.maps _ _ _ _ _ h' hl).1 h1
    .exact mF h1
    .omega
  .obtain⟨b,u,B', h1,h2⟩:=hk
   rcases pE _ _ _ _ h1 with⟨q1,q2,B,q3,rfl⟩|h'
   .exact .inr (uQ k ⟨_,_,B,q3,wV.symm.trans h2⟩)
   .exact .inl ⟨b,u,B', h', h2⟩
  .rcases hs.ga k hk with h1|h1|h1
   .exact .inl h1
   .exact absurd h1 mF
   .exact .inr (.inr h1)
end
end Ab
namespace Ab
open Go
variable{P:Program}
section
variable{a:Act}{ρ:Operand->Value}{r:Rf->AV}{w:World}{C:Ctx}{R:Operand->Rf->Bool}{ce:CE}{σ:List ah}{nl:Nat}{ps:List cD}
theorem VY{ids:Nat->Nat}{I:Nat->Prop}{o:Oper}{ca:Call}{t e:TypeId}{x:Operand}{x' : Rf}{zc:List AV}{k:Option Nat}{z:AV}{cG : List ah}(ho:o.op = .call ca) (hc:ca.callee = .builtin .clear) (ha:ca.args.toList=[x]) (kU:ca.argTypes.toList=[t]) (ht:aN P t=some e) (hk:bu P e k=true) (hz:gW P e zc=true) (hg:Good (ad σ ids I) w)
  (hx:VR (ad σ ids I) w.heap (r x') (a.eval x)) (he:fI ce σ r (.tY x' zc k)=some (z,cG)):bA P o a w (jA σ ids I w z cG):=by
 simp only[fI]at he;cases pF : r x' <;>simp only[pF]at he<;>try(simp at he;done)
 rename_i b u off len;cases hu:upto σ b u with
 |none=>simp[hu]at he
 |some B=>
  simp only[hu]at he;split at he
  case isFalse=>simp at he
  rename_i Cz;obtain⟨c0,c1,c2,c3,c4⟩:=Cz;simp only[bJ,Prod.mk.injEq]at he;obtain⟨rfl,rfl⟩:=he;obtain⟨hb,qT,pC⟩:=qV hu;have hs:B.st = .live:=by revert c4;cases B.st<;>simp[eM.isLive]
  have fH:=mG ids I hu;subst qT;rw[pF]at hx;unfold VR at hx;have hx3:=hx.2.2 B _ fH;rw[hs]at hx3;obtain⟨c', zb, o', cap,uL, e,wX,VZ,wa⟩:=hx3;rw[wX (by omega)]at e
  obtain⟨_,c,el,hH,hle,nD⟩:=hg.live b _ B _ fH hs;obtain⟨zv,z1,z2,z3⟩:=zG (C:=ad σ ids I) hz w;have Ku:zv.cells.size=aE k:=by have:=bW.length z2;simp at this;omega
  obtain⟨d1,d2⟩:=Dx zc len;rw[c3]at d1 d2;have vX:(Builtin.zeroCells zv.cells len).toList.length=len*aE k:=by simp[Builtin.zeroCells,Ku]
  obtain⟨g1,g2⟩:=uN (vals:=(Builtin.zeroCells zv.cells len).toList) (new:=dI len zc) (off:=off) hg fH hs (mM (u:=0) hb) hH (by omega) (by omega) (λj q hj=>by
   have cL:=(dq.1 hj).1;rw[d1]at cL;rw[d2 j cL]at hj;have Dy:0<aE k:=Nat.pos_of_ne_zero λh=>by rw[h]at cL;simp at cL
   obtain⟨y,k1,k2⟩:=z2.get (j%aE k) q hj;rw[iu]at k1;refine⟨y,?_,k2,z3 y (by rw[sI];exact Array.mem_of_getElem? k1)⟩
   have hm:=Nat.mod_lt j Dy;rw[ku (by omega:j%aE k<zv.cells.size)]at k1
   simp at k1;rw[iu];simp[Builtin.zeroCells,Ku,cL,getElem!_def,ku (by omega:j%aE k<zv.cells.size),k1])
  obtain⟨pl,_⟩:=qU B.cells (dI len zc) off (by omega)
  have iy:=oR (ids:=ids) (I:=I) (id' :=ids b) (B' :=⟨B.k,putAt B.cells off (dI len zc),B.st⟩) hb pC;have nE:(λq=>if q=b then ids b else ids q)=ids:=by funext q;split<;>simp_all
  rw[nE]at iy;obtain⟨f1,f2⟩:=Good.shrink (C2:=ad (ar σ b ⟨B.k,putAt B.cells off (dI len zc),B.st⟩) ids I) g1 rfl (λb1 u1 e1 h1=>by
   have:=iy b1 u1 e1 h1;simp only[pl]at this;exact this) (λb1 u1 h1=>oS (ids:=ids) (I:=I) hb (by show _<=(putAt B.cells off (dI len zc)).length;omega) b1 u1 h1)
  have qW:∀v∈(Builtin.zeroCells zv.cells len).toList,v.oneCell' = true:=λv hv=>by
   obtain⟨j,hj⟩:=sO.1 hv;have cL:=(dq.1 hj).1;rw[vX]at cL;have Dy:0<aE k:=Nat.pos_of_ne_zero λh=>by rw[h]at cL;simp at cL
   have hm:=Nat.mod_lt j Dy;rw[iu]at hj;simp[Builtin.zeroCells,Ku,cL,getElem!_def,ku (by omega:j%aE k<zv.cells.size)]at hj
   subst hj;exact z3 _ (by rw[sI];exact Array.getElem_mem _)
  have kA:=run_storeCells_at P (ids b) off el (Builtin.zeroCells zv.cells len).toList 0 c w hH (by omega) qW
  simp only[lW]at kA;have zQ : ca.args = #[x]:=by rw[<-Array.toList_inj];simpa using ha
  have V0 : ca.argTypes = #[t]:=by rw[<-Array.toList_inj];simpa using kU
  obtain⟨n', rfl⟩:∃n', len=n' + 1:=⟨len-1,by omega⟩
  refine bA.val (v:=.tuple #[]) (w' :=w.setRow (ids b) (c.toList.take off++(Builtin.zeroCells zv.cells (n' + 1)).toList++c.toList.drop (off+(Builtin.zeroCells zv.cells (n' + 1)).toList.length)).toArray) ?_ ⟨ids,I,f1,g2.trans f2,by unfold VR;trivial⟩
  simp only[execOp,ho,resolve,hc,zQ, V0, aS,bh,aU,invoke,builtin,Builtin.clear_];simp[e,aS,lY ht,z1,kA]
end
end Ab
namespace Ab
open Go
variable{P:Program}
section
variable{a:Act}{r:Rf->AV}{w:World}{C:Ctx}{R:Operand->Rf->Bool}{ce:CE}{σ:List ah}{nl:Nat}{ps:List cD}
variable{o:Oper}{x:AV}{p:Option cD}
theorem CA{b:Operand}{y:Rf}(d:o.op = .move b\/o.op = .assign b) (g:Good C w) (h:VR C w.heap (r y) (a.eval b)) (e:ev ce σ nl ps r (.mv y)=some (x,p)) :
  bA P o a w (cR C w x)/\p=none:=by
 simp[ev]at e;obtain⟨rfl,rfl⟩:=e;refine⟨bA.val (v:=a.eval b) (w' :=w) ?_ (cR.same g h),rfl⟩;rcases d with d|d<;>simp only[execOp,d,bh]
def cS.mz:cS->Bool
 |.ff _ | .iF ..=>true
 |_=>false
variable{oU:cS}
theorem opP(b:kX P R o.op oU=true) (j:oU.jC=true) (z:oU.mz=false) (u:ck P ce) (A:dX P ce) (n:Good C w)
  (d:∀x y,R x y=true->VR C w.heap (r y) (a.eval x)) (D:r (.c (.int 0)) = .int 0) (i:ev ce σ nl ps r oU=some (x,p)):bA P o a w (cR C w x)/\p=none:=by
 obtain⟨dst,op,type,pos,after,guard⟩:=o;have pl:∀{G : AV} {p' : Option cD},Plain P a.eval ⟨dst,op,type,pos,after,guard⟩ w C w.heap G /\p' = none->bA P ⟨dst,op,type,pos,after,guard⟩ a w (cR C w G)/\p' = none:=λh=>⟨h.1.does n,h.2⟩;simp only[kX]at b;split at b
 .exact CA (.inl rfl) n (d _ _ b) i
 .exact CA (.inr rfl) n (d _ _ b) i
 .simp[cS.jC]at j
 .simp only[aA]at b
  exact pl (V1 rfl b.1.1 (d _ _ b.1.2) (d _ _ b.2) i)
 .simp only[aA]at b
  exact pl (V2 rfl b.1.1.1 b.1.1.2 (d _ _ b.1.2) (d _ _ b.2) i)
 .simp only[aA]at b
  exact pl (V3 rfl b.1.1.1 b.1.1.2 (d _ _ b.1.2) (d _ _ b.2) i)
 .simp[cS.jC]at j
 .exact pl (V4 rfl (d _ _ b) i)
 .exact pl (V5 rfl (d _ _ b) D i)
 .simp only[aA]at b
  exact pl (V6 rfl (d _ _ b.1.1) (d _ _ b.1.2) (d _ _ b.2) i)
 .split at b
  .rename_i B E
   simp only[aA]at b;exact pl (V7 rfl rfl B E b.1 (d _ _ b.2) i)
  .simp at b
 .split at b
  .rename_i B
   simp only[aA]at b;exact pl (CB (m:=true) rfl rfl B (d _ _ b.1) (d _ _ b.2) i)
  .simp at b
 .split at b
  .rename_i B
   simp only[aA]at b;exact pl (CB (m:=false) rfl rfl B (d _ _ b.1) (d _ _ b.2) i)
  .simp at b
 .simp only[aA]at b
  obtain⟨g,l⟩:=b;split at g
  .rename_i fs H
   split at g
   .rename_i K I
    simp only[aA,cF,Bool.not_eq_true']at g;exact pl (V8 rfl H I g.1.1 g.1.2 g.2 (d _ _ l) i)
   .simp at g
  .simp at g
 .simp only[aA]at b
  obtain⟨⟨g,l⟩,q⟩:=b;split at g
  .rename_i e s
   exact pl (V9 rfl s g (d _ _ l) (d _ _ q) i)
  .simp at g
 .simp only[aA]at b
  obtain⟨⟨g,l⟩,q⟩:=b;split at g
  .rename_i m e s
   simp only[aA,cF,dY]at g;obtain⟨⟨rfl,J⟩,_⟩:=g;exact pl (Wa rfl s J (d _ _ l) (d _ _ q) i)
  .simp at g
 .exact pl (Wb rfl (d _ _ b) i)
 .exact Vg rfl n (d _ _ b) i
 .simp[cS.jC]at j
 .simp[cS.jC]at j
 .simp[cS.mz]at z
 .simp[cS.mz]at z
 .simp[cS.jC]at j
 .simp[cS.jC]at j
 .simp only[aA]at b
  exact pl (KZ rfl b.1 (d _ _ b.2) i)
 .simp only[aA]at b
  exact pl (Wc rfl b.1 b.2 d i)
 .simp only[aA,cF]at b
  obtain⟨rfl,l⟩:=b;exact pl (We rfl (d _ _ l) i)
 .simp only[aA,cF]at b
  obtain⟨⟨g,rfl⟩,l⟩:=b;exact pl (Wf rfl g (l7 d l) i)
 .simp only[aA,cF]at b
  obtain⟨⟨rfl,g⟩,l⟩:=b;exact pl (Wg rfl g (d _ _ l) i)
 .simp only[aA]at b
  obtain⟨⟨⟨g,l⟩,q⟩,F⟩:=b;split at g
  .rename_i e s
   simp only[aA,dY]at g;exact Vi rfl s g.1.1 g.1.2 g.2 l q n (l7 d F) i
  .simp at g
 .simp only[aA]at b
  obtain⟨⟨⟨g,l⟩,q⟩,F⟩:=b;split at g
  .rename_i e s
   simp only[aA,dY]at g;exact Ko rfl s g.1.1 g.1.2 g.2 l q n (l7 d F) i
  .simp at g
 .simp[cS.jC]at j
 .simp[cS.jC]at j
 .simp only[aA]at b
  exact pl (Wh rfl b.1 (d _ _ b.2) i)
 .simp[cS.jC]at j
 .simp[cS.jC]at j
 .simp[cS.jC]at j
 .simp only[aA,cF]at b
  obtain⟨⟨rfl,g⟩,l⟩:=b;exact Va u rfl rfl g n (l7 d l) i
 .simp[cS.jC]at j
 .simp[cS.jC]at j
 .simp[cS.jC]at j
 .simp only[aA]at b
  exact Vb u A rfl rfl n (d _ _ b.1) (l7 d b.2) i
 .simp[cS.jC]at j
 .simp only[aA]at b
  exact Ve u A rfl rfl b.2 n (d _ _ b.1.1) (l7 d b.1.2) i
 .simp[cS.jC]at j
 .simp[cS.jC]at j
 .simp[cS.jC]at j
 .simp[cS.jC]at j
 .simp[cS.jC]at j
 .simp[cS.jC]at j
 .simp only[aA]at b
  exact pl (Wi rfl b.1 (d _ _ b.2) i)
 .simp[cS.jC]at j
 .simp[cS.jC]at j
 .simp[cS.jC]at j
 .simp only[aA]at b
  exact Vh rfl b.1 n (d _ _ b.2) i
 .simp only[aA]at b
  exact pl (Wj rfl b.1.1 (d _ _ b.1.2) (d _ _ b.2) i)
 .simp only[aA]at b
  exact pl (Wk rfl b.1 (d _ _ b.2) i)
 .simp only[aA]at b
  exact pl (Wl rfl (d _ _ b.1) (d _ _ b.2) i)
 .simp only[aA]at b
  exact pl (Wm rfl b.1.1.1 b.1.1.2 (d _ _ b.1.2) (d _ _ b.2) i)
 .simp only[aA,cF]at b
  obtain⟨⟨g,l⟩,q⟩:=b;split at g
  .rename_i e s
   simp only[aA]at g;exact Vj rfl s g.1 g.2 l q n i
  .simp at g
 .simp only[aA]at b
  exact pl (Wn rfl b.1.1.1 b.1.1.2 (d _ _ b.1.2) (d _ _ b.2) i)
 .simp at b
theorem Wo(h:bA P o a w (cR C w x)/\p=none):bA P o a w (iq nl C w x p):=by
 obtain⟨b,rfl⟩:=h;exact b.mono λv w' h=>h.e
theorem opE(d:kX P R o.op oU=true) (U:oU.kn=false) (I:oU.mz=false) (F:ck P ce) (J:dX P ce) (m:Good C w)
  (A:∀b u B,C.lim b u->fC σ b u=some B->∃id,C.own b u=some (B,id)) (S:oU.jC=false->(∀f as,oU ≠ .can f as)->∀u,¬C.lim nl u) (K:∀l,p=some (.news l)->∀b u,nl<=b->b<nl+l.length->¬C.lim b u)
  (L:∀b u B cs,upto σ b u=some B->p=some (.grow b cs)->ny b ps=false->(∀n,u<n->¬C.lim b n)/\∀u' B' id', C.own b u' = some (B', id')->u' = u)
  (i:∀x y,R x y=true->VR C w.heap (r y) (a.eval x)) (M:r (.c (.int 0)) = .int 0) (j:ev ce σ nl ps r oU=some (x,p)):bA P o a w (iq nl C w x p):=by
 by_cases N:oU.jC=true
 .obtain⟨g,rfl⟩:=opP d N I F J m i M j
  exact g.mono λv w' h=>h.e
 have O : oU.jC=false:=by simpa using N
 have z:∀b u B,C.lim b u->upto σ b u=some B->∃id,C.own b u=some (B,id):=λb u B V h=>A b u B V (K0 h);have q:=S O;clear S;obtain⟨dst,op,type,pos,after,guard⟩:=o;have pl:∀{T : AV} {p' : Option cD},Plain P a.eval ⟨dst,op,type,pos,after,guard⟩ w C w.heap T /\p' = none->bA P ⟨dst,op,type,pos,after,guard⟩ a w (iq nl C w T p'):=λh=>by
  obtain⟨g,rfl⟩:=h;exact(g.does m).mono λv w' h=>h.e
 simp only[kX]at d;split at d
 all_goals first
  |(exfalso;exact N rfl)
  |(exfalso;simp[cS.kn]at U;done)
  |skip
 .exact Kw rfl d m (q (by simp)) j
 .simp only[aA,Bool.or_eq_true]at d
  exact pl (K4 (a:=a) rfl rfl d.1.1 d.1.2 z (d.2.imp (λh=>⟨h.1,i _ _ h.2⟩) (λh=>⟨h.1,i _ _ h.2⟩)) j)
 .simp only[aA]at d
  exact Vk rfl m (q (by simp)) (i _ _ d.2) j
 .simp only[aA]at d
  exact Vl rfl d.1 m (q (by simp)) j
 .simp only[aA]at d
  exact pl (wY rfl d.1 m z (i _ _ d.2) j)
 .simp only[aA]at d
  obtain⟨⟨⟨g,s⟩,E⟩,H⟩:=d;split at g
  .rename_i e D
   simp only[aA,dY]at g;exact Vm rfl D g.1.1 g.1.2 g.2 s E m (q (by simp)) (l7 i H) j
  .simp at g
 .simp only[aA]at d
  obtain⟨⟨⟨g,s⟩,E⟩,H⟩:=d;split at g
  .rename_i e D
   exact pl (K5 rfl D g z (i _ _ s) E H i j)
  .simp at g
 .simp only[aA]at d
  obtain⟨⟨g,s⟩,E⟩:=d;split at g
  .rename_i e D
   simp only[aA]at g;exact Vn rfl D g.1.1 g.1.2 g.2 m (q (by simp)) (i _ _ s) (i _ _ E) j
  .simp at g
 .split at d
  .rename_i Q G
   simp only[aA]at d;obtain⟨⟨⟨g,s⟩,E⟩,H⟩:=d;split at g
   .rename_i e D
    simp only[aA]at g;exact VA rfl rfl Q G D s g.1.1 g.1.2 g.2 m z (q (by simp)) L (i _ _ E) (i _ _ H) j
   .simp at g
  .simp at d
 .simp only[aA,cF]at d
  obtain⟨⟨rfl,g⟩,s⟩:=d;exact Wo (Kj F rfl rfl g m z (l7 i s) j)
 .simp only[aA,cF]at d
  obtain⟨⟨rfl,g⟩,s⟩:=d;exact VV F rfl rfl g m K (l7 i s) j
 .exact Vp rfl m (q (by simp)) j
 .simp only[aA,cF]at d
  obtain⟨⟨⟨g,rfl⟩,s⟩,E⟩:=d;split at g
  .rename_i D
   simp only[aA]at g;exact pl (K6 rfl D g.1 g.2 m A (i _ _ s) (i _ _ E) j)
  .simp at g
 .split at d
  .rename_i Q G
   simp only[aA]at d;obtain⟨g,s⟩:=d;split at g
   .rename_i D
    exact pl (K7 rfl rfl Q G D m A (i _ _ s) j)
   .simp at g
  .simp at d
 .simp only[aA]at d
  exact pl (KB rfl d.1 m z (i _ _ d.2) j)
 .simp at d
end
end Ab
