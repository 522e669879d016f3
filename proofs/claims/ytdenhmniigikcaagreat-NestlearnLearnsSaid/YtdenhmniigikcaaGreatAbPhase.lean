/- Memory, and each operation that makes, lengthens or turns blocks, is what the small language says. Condition: the callees answer as the interpreter says. Two more operations of Go's: the capacity of a nil slice, and clear. One operation of a phase, whatever it is. Condition: the callees answer as the interpreter says. Condition: none. -/
import Derived.Test.YtdenhmniigikcaaGreatAbM
import Derived.Great.BuildSlice
import Derived.Laws.CopyRow
import Derived.Laws.BytesString
import Derived.Lib.ConvBytes
import Derived.Laws.AppendOwn
import Derived.OrdersIn
import Derived.RangeFuncCalls
set_option linter.all false
open Option renaming some->aa,none->ab
open Bool renaming true->ad,false->ae
open List renaming range->af,length->ah
namespace Ab
open Go
variable{P:Program}
def fw (r:Option Nat):Fence:={Fence.wide with round:=r}
def cm (P:Program) (o:Oper) (a:Act) (w:World) (b:Value->World->Prop):Prop:=
 ∀(r:Option Nat) (K:Act->World->Prop) (Q:Exit->Act->World->Prop),(∀v d, b v d ->K (a.put o.dst v) d)->o.wpIn (fw r) 0 P a w K Q
variable{o:Oper}{w': World}
def Ht{r:Option Nat}{a:Act}{w: World}{x:Next}(h:(execOp a.eval o).run P w = .ok x w') (e:∀d,x ≠ .defer d):(o.semAt (fw r).round a.eval).run P w = .ok x w' :=by
 rw[Oper.semAt_eq]
 .exact h
 .intro c g
  simp only[execOp,g,bJ]at h;cases b:(resolve a.eval c o.type).run P w with
  |ok d i=>rw[b]at h;simp only[Result.andThen,bX,Result.ok.injEq]at h;exact e _ h.1.symm
  |halt _ _=>rw[b]at h;simp[Result.andThen]at h
variable{sH:Value->World->Prop}
def cm.val{a:Act}{w: World}{v:Value}(h:(execOp a.eval o).run P w = .ok (.value v) w') (hp:sH v w'):cm P o a w sH:=λr K Q hk=>
 ⟨λ_ _=>trivial,by rw[Ht h aA];exact hk _ _ hp⟩
def cm.skip{a:Act}{w: World}(h:(execOp a.eval o).run P w = .ok .skip w') (hp:sH undef w'):cm P o a w sH:=λr K Q hk=>
 ⟨λ_ _=>trivial,by rw[Ht h aA];exact hk _ _ hp⟩
variable{f:FuncId}{args:Array Value}
def aaa{r:Option Nat}{n:Nat}{w:World}{R:Ending->World->Prop}(h:Calls P f args w R):CallsIn (fw r) n P f args w R:=by
 cases r with
 |none=>exact callsIn_wide.2 h
 |some l=>exact CallsIn.inRound l (callsIn_wide.2 h)
def cm.call{a:Act}{w:World}(h:(execOp a.eval o).run P w = .ok (.enter f args) w)
  (hc:Calls P f args w λe w' =>∃v,e = .returned v/\sH v w'):cm P o a w sH:=λr K Q hk=>
 ⟨λ_ _=>trivial,by
  rw[Ht h aA,Oper.uponIn_enter]
  refine⟨λh=>by simp[fw,Fence.wide]at h,aaa (hc.mono ?_)⟩
  rintro e w' ⟨v,rfl,hp⟩;exact hk _ _ hp⟩
def cm.mono{a:Act}{w:World}{sH Gr : Value->World->Prop}(h:cm P o a w sH) (hp:∀v w', sH v w' ->Gr v w'):cm P o a w Gr :=
 λr K Q hk=>h r K Q λv w' h' =>hk v w' (hp v w' h')
def cF (w:World) (o:Obj):World:={w with heap:=w.heap.push o}
def ow (w:World) (o:Obj){k:Nat}(h:k<w.heap.size):(cF w o).heap[k]? = w.heap[k]?:=by
 show(w.heap.push o)[k]? = _;rw[Array.getElem?_push,aC ax]
def qf (w:World) (o:Obj):(cF w o).heap[w.heap.size]? = aa o:=by
 show(w.heap.push o)[w.heap.size]? = _;simp
theorem Av (w:World) (el:TypeId) (cs:Array Value):(newRow el cs).run P w = .ok ⟨w.heap.size,0,ab⟩ (cF w (.cells cs el)):=rfl
theorem DF (w:World) (t:TypeId) (v:Value):(newVar t v).run P w = .ok ⟨w.heap.size,0,ab⟩ (cF w (.cells v.cells t)):=rfl
def Good.grow{C:Ctx}{w: World}(hg:Good C w) (hs:w.heap.size<=w'.heap.size) (gd:∀k,k<w.heap.size->w'.heap[k]? = w.heap[k]?):Good C w' /\gM C w.heap C w'.heap:=by
 have ev:gM C w.heap C w'.heap:=by
  refine⟨λ_ h=>h,λk hk=>gd k (hg.I k hk),λ_ _ h=>h,λb u B' id _ ho=>⟨B', ho,rfl,rfl,λc el hc=>⟨c,?_,rfl⟩⟩⟩;rw[gd id (kV.1 hc).1];exact hc
 refine⟨⟨λk hk=>Nat.lt_of_lt_of_le (hg.I k hk) hs,hg.mT,λb u B id ho hl=>?_,hg.apart,λb u B id es ho hl=>hg.dK ev ho hl (gd id (hg.lt ⟨b,u,B,ho,mW hl⟩)) (hg.maps b u B id es ho hl).1⟩,ev⟩;obtain⟨h1,c,el,h2,h3,h4⟩:=hg.live b u B id ho hl;refine⟨h1,c,el,by rw[gd id (kV.1 h2).1];exact h2,h3,λi x hi=>?_⟩
 obtain⟨y,g1,g2,g3⟩:=h4 i x hi;exact⟨y,g1,VR.mono ev _ _ g2,g3⟩
def Good.qh{C:Ctx}{w: World}(hg:Good C w) (hs:w.heap.size<=w'.heap.size) (gd:∀k,k<w.heap.size->w'.heap[k]? = w.heap[k]?) (I' : Nat->Prop) (h1:∀k,C.I k->I' k) (h2:∀k,I' k->k<w'.heap.size)
  (h3:∀k,I' k->C.I k\/w.heap.size<=k) (ho:w'.os=w.os) (ht:w'.tape=w.tape/\w.drawn<=w'.drawn) (Hu:w'.output=w.output):Good {C with I:=I'} w' /\Step C w {C with I:=I'} w' :=by
 have ev:gM C w.heap {C with I:=I'} w'.heap:=by
  refine⟨h1,λk hk=>gd k (hg.I k hk),λ_ _ h=>h,λb u B' id _ ho=>⟨B', ho,rfl,rfl,λc el hc=>⟨c,?_,rfl⟩⟩⟩;rw[gd id (kV.1 hc).1];exact hc
 refine⟨⟨h2,hg.mT,λb u B id ho hl=>?_,hg.apart,λb u B id es ho hl=>hg.dK ev ho hl (gd id (hg.lt ⟨b,u,B,ho,mW hl⟩)) (λhi=>(h3 id hi).elim (hg.maps b u B id es ho hl).1 (λh=>by have:=hg.lt ⟨b,u,B,ho,mW hl⟩;omega))⟩,⟨ev,hs,λk hk _=>gd k hk,λk hk=>.inl hk,λk hk=>(h3 k hk).elim .inl (λh=>.inr (.inr h)),ho,ht,Hu⟩⟩
 obtain⟨g1,c,el,g2,g3,g4⟩:=hg.live b u B id ho hl;have cw:=(kV.1 g2).1;refine⟨λhi=>(h3 id hi).elim g1 (λh=>ax),c,el,by rw[gd id cw];exact g2,g3,λi x hi=>?_⟩
 obtain⟨y,k1,k2,k3⟩:=g4 i x hi;exact⟨y,k1,VR.mono ev _ _ k2,k3⟩
def Hv{C:Ctx}{w:World}(b:Good C w) (c:Array Value) (el:TypeId):Good {C with I:=λk=>C.I k\/k=w.heap.size} (cF w (.cells c el))/\Step C w {C with I:=λk=>C.I k\/k=w.heap.size} (cF w (.cells c el)):=
 b.qh (by simp[cF]) (λk a=>ow w _ a) _ (λk a=>.inl a) (λk a=>a.elim (λh=>by have:=b.I k h;simp[cF];omega) (λh=>by simp[cF];omega))
  (λk a=>a.elim .inl (λh=>.inr ax)) rfl ⟨rfl,bG _⟩ rfl
def aU (C:Ctx) (b u:Nat) (e:aO×Nat):Ctx where
 I:=C.I
 own:=λa d =>if a = b/\d = u then aa e else C.own a d
 lim:=λa d =>(a = b/\d = u)\/C.lim a d
variable{b:Nat}
def DG{C:Ctx}{w:World}(n:Good C w)(B:aO) (T:¬C.lim b (ah B.cells)) (c:Array Value) (el:TypeId) (p:B.st = .live) (hle:ah B.cells<=c.size)
  (U:∀(i:Nat) x,B.cells[i]? = aa x->∃y,c[i]? = aa y/\VR C w.heap x y/\y.oneCell' = ad) :
  Good (aU C b (ah B.cells) (B,w.heap.size)) (cF w (.cells c el))/\Step C w (aU C b (ah B.cells) (B,w.heap.size)) (cF w (.cells c el)):=by
 have ev:gM C w.heap (aU C b (ah B.cells) (B,w.heap.size)) (cF w (.cells c el)).heap:=by
  refine⟨λ_ h=>h,λk j=>ow w _ (n.I k j),λ_ _ h=>.inr h,λd e m id l a=>?_⟩;have o:¬(d = b/\e = ah B.cells):=λ⟨u,z⟩=>T (u▸z▸l);simp only[aU,aC o]at a;refine⟨m, a,rfl,rfl,λJ D E =>⟨J, ?_,rfl⟩⟩;rw[ow w _ (kV.1 E).1];exact E
 have q:∀k,owned C k->k<w.heap.size:=λk j=>n.lt j;refine⟨⟨λk j=>by have:=n.I k j;simp[cF];omega,λd e m id a=>?_,λd e m id a l=>?_,λb1 K O i1 L M P Q r R s S o=>?_,λd e m id es a l=>?_⟩,
  ⟨ev,by simp[cF],λk j _=>ow w _ j,λk j=>?_,λk j=>.inl j,rfl,⟨rfl,bG _⟩,rfl⟩⟩
 .by_cases g:d = b/\e = ah B.cells
  .simp only[aU,aD g]at a
   simp at a;obtain⟨rfl,rfl⟩:=a;exact⟨.inl g,g.2,λh=>by rw[p]at h;simp at h,by rw[p];simp⟩
  .simp only[aU,aC g]at a
   obtain⟨F,A,G,N⟩:=n.mT d e m id a;exact⟨.inr F,A,G,N⟩
 .by_cases g:d = b/\e = ah B.cells
  .simp only[aU,aD g]at a
   simp at a;obtain⟨rfl,rfl⟩:=a;refine⟨λH=>Nat.lt_irrefl _ (n.I _ H),c,el,qf w _,hle,λi x H=>?_⟩;obtain⟨y,F,A,G⟩:=U i x H;exact⟨y,F,VR.mono ev _ _ A,G⟩
  .simp only[aU,aC g]at a
   obtain⟨F,J, D, A,G,N⟩:=n.live d e m id a l;refine⟨F,J, D, by rw[ow w _ (kV.1 A).1];exact A,G,λi x H=>?_⟩
   obtain⟨y,V,W,X⟩:=N i x H;exact⟨y,V,VR.mono ev _ _ W,X⟩
 .by_cases u:b1=b/\K=ah B.cells<;>by_cases z:L=b/\M=ah B.cells
  .exact absurd (u.1.trans z.1.symm) o
  .simp only[aU,aD u]at r;simp only[aU,aC z]at s
   simp at r;obtain⟨rfl,rfl⟩:=r;have:=q Q ⟨L,M,P,s,S⟩;omega
  .simp only[aU,aC u]at r;simp only[aU,aD z]at s
   simp at s;obtain⟨rfl,rfl⟩:=s;have:=q i1 ⟨b1,K,O,r,R⟩;omega
  .simp only[aU,aC u]at r;simp only[aU,aC z]at s
   exact n.apart b1 K O i1 L M P Q r R s S o
 .by_cases g:d = b/\e = ah B.cells
  .simp only[aU,aD g]at a
   simp at a;obtain⟨rfl,rfl⟩:=a;rw[p]at l;simp at l
  .simp only[aU,aC g]at a
   exact n.dK (C' :=aU C b (ah B.cells) (B,w.heap.size)) (w' :=cF w (.cells c el)) ev a l (ow w _ (q id ⟨d, e, m, a,mW l⟩)) (n.maps d e m id es a l).1
 .obtain⟨d, e, m, a,l⟩:=j
  by_cases g:d = b/\e = ah B.cells
  .simp only[aU,aD g]at a
   simp at a;right;omega
  .simp only[aU,aC g]at a
   exact .inl ⟨d, e, m, a,l⟩
def aab{C:Ctx}{w:World}(n:Good C w)(R:¬C.lim b 0) :
  Good (aU C b 0 (⟨aa 0,[],.map []⟩,w.heap.size)) (cF w (.map #[] 0))/\Step C w (aU C b 0 (⟨aa 0,[],.map []⟩,w.heap.size)) (cF w (.map #[] 0)):=by
 have ev:gM C w.heap (aU C b 0 (⟨aa 0,[],.map []⟩,w.heap.size)) (cF w (.map #[] 0)).heap:=by
  refine⟨λ_ h=>h,λk l=>ow w _ (n.I k l),λ_ _ h=>.inr h,λd e m id j a=>?_⟩;have o:¬(d = b/\e = 0):=λ⟨s,u⟩=>R (s▸u▸j);simp only[aU,aC o]at a;refine⟨m, a,rfl,rfl,λD z A =>⟨D, ?_,rfl⟩⟩;rw[ow w _ (kV.1 A).1];exact A
 have p:∀k,owned C k->k<w.heap.size:=λk l=>n.lt l;refine⟨⟨λk l=>by have:=n.I k l;simp[cF];omega,λd e m id a=>?_,λd e m id a j=>?_,λb1 E M i1 F G N O q P r Q o=>?_,λd e m id es a j=>?_⟩,
  ⟨ev,by simp[cF],λk l _=>ow w _ l,λk l=>?_,λk l=>.inl l,rfl,⟨rfl,bG _⟩,rfl⟩⟩
 .by_cases g:d = b/\e = 0
  .simp only[aU,aD g]at a
   simp at a;obtain⟨rfl,rfl⟩:=a;exact⟨.inl g,g.2,λh=>fE,aA⟩
  .simp only[aU,aC g]at a
   obtain⟨H,B,J,K⟩:=n.mT d e m id a;exact⟨.inr H,B,J,K⟩
 .by_cases g:d = b/\e = 0
  .simp only[aU,aD g]at a
   simp at a;obtain⟨rfl,rfl⟩:=a;simp at j
  .simp only[aU,aC g]at a
   obtain⟨H,D, z, B,J,K⟩:=n.live d e m id a j;refine⟨H,D, z, by rw[ow w _ (kV.1 B).1];exact B,J,λi x L=>?_⟩
   obtain⟨y,S,T,U⟩:=K i x L;exact⟨y,S,VR.mono ev _ _ T,U⟩
 .by_cases s:b1=b/\E=0<;>by_cases u:F=b/\G=0
  .exact absurd (s.1.trans u.1.symm) o
  .simp only[aU,aD s]at q;simp only[aU,aC u]at r
   simp at q;obtain⟨rfl,rfl⟩:=q;have:=p O ⟨F,G,N,r,Q⟩;omega
  .simp only[aU,aC s]at q;simp only[aU,aD u]at r
   simp at r;obtain⟨rfl,rfl⟩:=r;have:=p i1 ⟨b1,E,M,q,P⟩;omega
  .simp only[aU,aC s]at q;simp only[aU,aC u]at r
   exact n.apart b1 E M i1 F G N O q P r Q o
 .by_cases g:d = b/\e = 0
  .simp only[aU,aD g]at a
   simp at a;obtain⟨rfl,rfl⟩:=a;simp at j;subst j;exact⟨λL=>Nat.lt_irrefl _ (n.I _ L),#[],0,qf w _,rfl⟩
  .simp only[aU,aC g]at a
   exact n.dK (C' :=aU C b 0 (⟨aa 0,[],.map []⟩,w.heap.size)) (w' :=cF w (.map #[] 0)) ev a j (ow w _ (p id ⟨d, e, m, a,mW j⟩)) (n.maps d e m id es a j).1
 .obtain⟨d, e, m, a,j⟩:=l
  by_cases g:d = b/\e = 0
  .simp only[aU,aD g]at a
   simp at a;right;omega
  .simp only[aU,aC g]at a
   exact .inl ⟨d, e, m, a,j⟩
end Ab
set_option linter.all false
namespace Ab
open Go
variable{P:Program}
def cR (P:Program) (ce:CE):Prop:=
 ∀f args d r b, ce f args d=aa (r,b)->∀(ids:Nat->Nat) (I:Nat->Prop) (w:World) (i:List Value),Good (aI d ids I) w->cH (aI d ids I) w.heap args i->
  Calls P f i.toArray w λe g =>∃v a h, e = .returned v/\Good (aI b a h) g /\VR (aI b a h) g.heap r v/\Step (aI d ids I) w (aI b a h) g
def dL (C:Ctx) (w:World) (x:AV) (v:Value) (w' : World):Prop:=
 ∃a, Good {C with I:=a} w' /\Step C w {C with I:=a} w' /\VR {C with I:=a} w'.heap x v
variable{x:AV}
def dL.same{C:Ctx}{w:World}{v:Value}(hg:Good C w) (h:VR C w.heap x v):dL C w x v w:=⟨C.I,hg,Step.refl _ _,h⟩
def Ox{C:Ctx}{w:World}(a:Good C w) (ids:Nat->Nat):Good (aI [] ids C.I) w:=
 ⟨a.I,λb u B id h=>eS,λb u B id h=>eS,λb u B id e g i d h=>eS,λb u B id es h=>eS⟩
def pn{ids:Nat->Nat}{I:Nat->Prop}{k:Nat}:¬owned (aI [] ids I) k:=λ⟨b,u,B,h,_⟩=>eS
variable{f:Nat}{vs:List Value}
def Aw{ce:CE}(l:cR P ce){args:ao}(h:j7 ce f args=aa x){C:Ctx}{w:World}(r:Good C w)(s:cH C w.heap args vs) :
  Calls P f vs.toArray w λe w' =>∃v,e = .returned v/\dL C w x v w' :=by
 unfold j7 at h;split at h<;>try(simp at h;done)
 rename_i y;cases m:ce f (args.map wk) []with
 |none=>simp[m]at h
 |some rs=>
  obtain⟨z,j⟩:=rs;simp only[m]at h;have n:cH (aI [] (λ_=>0) C.I) w.heap (args.map wk) vs:=(cH.free (show qi C w.heap (aI [] (λ_=>0) C.I) w.heap from⟨λ_ h=>h,λ_ _=>rfl⟩) _ _ y s).wk;refine(l f _ [] z j m (λ_=>0) C.I w vs (Ox r _) n).mono ?_;rintro e w' ⟨v,d, o, rfl,i,A,g⟩;refine⟨v,rfl,?_⟩
  let p:Nat->Prop:=λk=>o k\/owned (aI j d o) k
  have q:=Oy (C2:={C with I:=p}) (λb u B _ D=>⟨_,pt d o D⟩) i (fr:=ae) ⟨λ_ k a=>.inl a,λk a=>.inr a⟩ h A
  obtain⟨E,F⟩:=r.qh g.size (λk a=>g.frame k a pn) p (λk a=>.inl (g.ev.aX k a)) (λk a=>a.elim (i.I k) i.lt)
   (λk a=>a.elim (λh=>(g.iH k h).elim .inl (λh=>h.elim (λh=>absurd h pn) .inr)) (λh=>(g.ie k h).elim (λh=>absurd h pn) .inr)) g.os g.tape g.output
  exact⟨p,E,F,q⟩
def aac{ce:CE}(o:cR P ce){σ:aq}{args d : ao}{p:AV}{g : aq}(F:cu (view σ ae vd) args=aa d) (G:ce f d []=aa (p,g)) (H:cK g ad p=aa x)
  {C:Ctx} {w:World} (l:Good C w) (q:∀b u B,C.lim b u->upto σ b u=aa B->∃id,C.own b u=aa (B,id))  (r:cH C w.heap args vs) :
  Calls P f vs.toArray w λe w' =>∃v,e = .returned v/\dL C w x v w' :=by
 let n:Nat->Prop:=λk=>C.I k\/owned C k
 have s:Good (aI [] (λ_=>0) n) w:=
  ⟨λk a=>a.elim (l.I k) l.lt,λb u B id h=>eS,λb u B id h=>eS,λb u B id Q R S J h=>eS,λb u B id es h=>eS⟩
 have z:cH (aI [] (λ_=>0) n) w.heap d vs:=
  (Ax (λx y v K r=>DH (C2:=aI [] (λ_=>0) n) q l (fr:=ae) ⟨λ_ k a=>.inl a,λk a=>.inr a⟩ vd x y v K r) F r).2
 refine(o f d [] p g G (λ_=>0) n w vs s z).mono ?_;rintro e w' ⟨v,i, E, rfl,m,L,j⟩;refine⟨v,rfl,?_⟩
 let A:Nat->Prop:=λk=>C.I k\/owned (aI g i E) k
 have D:=Oy (C2:={C with I:=A}) (λb u B _ M=>⟨_,pt i E M⟩) m (fr:=ad) ⟨λh=>fE,λk a=>.inr a⟩ H L
 obtain⟨N,O⟩:=l.qh j.size (λk a=>j.frame k a pn) A (λk a=>.inl a) (λk a=>a.elim (λh=>Nat.lt_of_lt_of_le (l.I k h) j.size) m.lt)
  (λk a=>a.elim .inl (λh=>(j.ie k h).elim (λh=>absurd h pn) .inr)) j.os j.tape j.output
 exact⟨A,N,O,D⟩
section
variable{a:Act}{r:Rf->AV}{w:World}{C:Ctx}{R:Operand->Rf->Bool}{ce:CE}{σ:aq}{nl:Nat}{ps:List dd}
variable{o:Oper}{x:AV}
def Plain.does(hg:Good C w) (h:Plain P a.eval o w C w.heap x):cm P o a w (dL C w x):=by
 obtain⟨v,h1,h2⟩:=h;exact cm.val h1 (dL.same hg h2)
variable{f:Nat}
def Ay(h:dm P f=ad) (args:Array Value) (w:World):(callFunc f args).run P w = .ok (.enter f args) w:=by
 unfold dm at h;cases a:P.funcs[f]? with
 |none=>simp[a]at h
 |some fn=>
  simp[a]at h;simp only[callFunc,bJ,program,Sem.run,bO,a];rw[aC (by simpa using h.2)]
  cases d:fn.body with
  |none=>simp[d]at h
  |some b=>simp
variable{ca:Call}
def DI(b:o.op = .call ca) (d:ca.callee = .value (.func f)) (e:dm P f=ad) (w:World) :
  (execOp a.eval o).run P w = .ok (.enter f (ca.args.toList.map a.eval).toArray) w:=by
 have:ca.args.map a.eval=(ca.args.toList.map a.eval).toArray:=sI
 simp only[execOp,b,resolve,d,bJ,Act.eval,Deferred.ofValue,bX,bO,invoke];simp only[Array.append_empty,Array.empty_append];rw[show Array.map a.eval ca.args=(ca.args.toList.map a.eval).toArray from this];exact Ay e _ w
variable{ys:List Rf}{p:Option dd}
def aad(d:cR P ce) (g:o.op = .call ca) (h:ca.callee = .value (.func f)) (i:dm P f=ad) (j:Good C w)
  (l:cH C w.heap (ys.map r) (ca.args.toList.map a.eval)) (b:ev ce σ nl ps r (.ml f ys)=aa (x,p)):cm P o a w (dL C w x)/\p=ab:=by
 simp only[ev]at b;cases e:j7 ce f (ys.map r)with
 |none=>simp[e]at b
 |some m =>
  simp[e]at b;obtain⟨rfl,rfl⟩:=b;exact⟨cm.call (DI g h i w) (Aw d e j l),rfl⟩
def Oz(i:cR P ce) (z:o.op = .call ca) (A:ca.callee = .value (.func f)) (D:dm P f=ad) (E:Good C w)
  (j:∀b u B,C.lim b u->upto σ b u=aa B->∃id,C.own b u=aa (B,id))
  (s:cH C w.heap (ys.map r) (ca.args.toList.map a.eval)) (d:ev ce σ nl ps r (.vC f ys)=aa (x,p)):cm P o a w (dL C w x)/\p=ab:=by
 simp only[ev]at d;cases g:cu (λx=>view σ ae vd (r x)) ys with
 |none=>simp[g]at d
 |some e =>
  simp only[g]at d;cases h:ce f e []with
  |none=>simp[h]at d
  |some q=>
   obtain⟨F,l⟩:=q;simp only[h]at d;cases m:cK l ad F with
   |none=>simp[m]at d
   |some H =>
    simp[m]at d;obtain⟨rfl,rfl⟩:=d;have n : cu (view σ ae vd) (ys.map r)=aa e :=by
     rw[<-g];clear g h s
     induction ys with
     |nil=>rfl
     |cons y ys G=>simp only[da,cu,G]
    exact⟨cm.call (DI z A D w) (aac i n h m E j s),rfl⟩
def eT (P:Program) (ce:CE):Prop:=∀f args σ r,ce f args σ=aa r->dm P f=ad
def OA{x:Operand}{vs:List Value}(b:o.op = .call ca) (d:ca.callee = .value x) (e:a.eval x = .func (.func f) #[] vs.toArray) (g:dm P f=ad) (w:World) :
  (execOp a.eval o).run P w = .ok (.enter f (ca.args.toList.map a.eval++vs).toArray) w:=by
 have:Array.map a.eval ca.args++vs.toArray=(ca.args.toList.map a.eval++vs).toArray:=sI
 simp only[execOp,b,resolve,d,bJ,e,Deferred.ofValue,bX,bO,invoke];simp only[Array.empty_append];rw[this];exact Ay g _ w
variable{x0:Operand}{y:Rf}
def aae(i:cR P ce) (j:eT P ce) (n:o.op = .call ca) (s:ca.callee = .value x0) (u:Good C w)
  (l:VR C w.heap (r y) (a.eval x0)) (z:cH C w.heap (ys.map r) (ca.args.toList.map a.eval)) (g:ev ce σ nl ps r (.mX y ys)=aa (x,p)):cm P o a w (dL C w x)/\p=ab:=by
 simp only[ev]at g;cases m:r y<;>simp only[m]at g<;>try(simp at g;done)
 rename_i f b;cases d:j7 ce f (ys.map r++b)with
 |none=>simp[d]at g
 |some D =>
  simp[d]at g;obtain⟨rfl,rfl⟩:=g;rw[m]at l;unfold VR at l;obtain⟨vs,e,A⟩:=l;have B:dm P f=ad:=by
   unfold j7 at d;split at d<;>try(simp at d;done)
   cases h : ce f ((ys.map r++b).map wk) []with
   |none=>simp only[h]at d;simp at d
   |some q=>exact j _ _ _ _ h
  exact⟨cm.call (OA n s e B w) (Aw i d u (z.append A)),rfl⟩
def OB{m:String}:∀{sd:List (Nat×Nat)}{t f:Nat},se P m sd=ad->fL sd t=aa f->∀(w:World) (v:Value),(method (P.types.size+Made.depth) t v m).run P w = .ok (f,v) w
 | [],t,f,_,h=>by simp[fL]at h
 |(t', f')::rest,t,f,ht,h=>by
  simp only[se,bd]at ht;simp only[fL]at h
  by_cases e:t' = t
  .subst e
   simp at h;subst h;intro w v;obtain⟨n,hn⟩:∃n,P.types.size+Made.depth=n+1:=⟨P.types.size+Made.depth-1,(by have:0<Made.depth:=cp;omega)⟩
   rw[hn];have h1:=ht.1;cases hi:P.info? t' with
   |none=>simp[hi]at h1
   |some i=>
    simp only[hi]at h1;cases hm:i.methods.find? (λx=>x.name==m)with
    |none=>simp[hm]at h1
    |some x=>
     simp only[hm,bd]at h1;obtain⟨hp,h1⟩:=h1;have hpe:x.path = #[]:=by simpa using hp
     cases hf:x.func with
     |none=>simp[hf]at h1
     |some gp=>
      obtain⟨g,ptr⟩:=gp;simp only[hf,bd,dA]at h1;obtain⟨rfl,h1⟩:=h1;cases hu:P.underlying t' with
      |none=>simp[hu]at h1
      |some d=>
       simp only[hu]at h1;have hr:(receiverAt t' (.val v) ptr (if x.path.isEmpty then aa ((m.splitOn ".").getLastD m)else ab)).run P w = .ok v w:=by
        unfold receiverAt;simp only[bJ,run_underlying hu,bO];cases d<;>cases ptr<;>simp_all [Place.get]
       simp only[method,bJ,run_typeInfo w hi,bO,hm,hpe,follow,bX,hf];rw[hpe]at hr;simp only[hr,bO,bX]
  .have e' : (t' == t)=ae:=by simpa using e
   simp only[e', ff,fv]at h;exact OB ht.2 h
variable{m:String}{sd:List (Nat×Nat)}{v:Value}
def aaf{t:Nat}(b:o.op = .call ca) (d:ca.callee = .invoke x0 m) (e:a.eval x0 = .iface t v)
  (g:se P m sd=ad) (h:fL sd t=aa f) (i:dm P f=ad) (w:World) :
  (execOp a.eval o).run P w = .ok (.enter f (v::ca.args.toList.map a.eval).toArray) w:=by
 have j:=OB g h w v;have l:(#[Value.iface t v]++Array.map a.eval ca.args)[0]? = aa (.iface t v):=by rw[mm (by show 0<1;omega)];rfl
 have n:(#[Value.iface t v]++Array.map a.eval ca.args).extract 1 (#[Value.iface t v]++Array.map a.eval ca.args).size=Array.map a.eval ca.args:=by
  rw[<-Array.toList_inj];simp;rw[gN aA]
 have p : #[v]++Array.map a.eval ca.args=(v::ca.args.toList.map a.eval).toArray:=sI
 simp only[execOp,b,resolve,d,bJ,bX,bO,invoke,e,l,n,callMethod,program,Sem.run,j];rw[p];exact Ay i _ w
def aag(h:cR P ce) (i:eT P ce) (s:o.op = .call ca) (u:ca.callee = .invoke x0 m) (z:se P m sd=ad) (A:Good C w)
  (j:VR C w.heap (r y) (a.eval x0)) (B:cH C w.heap (ys.map r) (ca.args.toList.map a.eval)) (b:ev ce σ nl ps r (.inv y sd ys)=aa (x,p)):cm P o a w (dL C w x)/\p=ab:=by
 simp only[ev]at b;cases n:r y<;>simp only[n]at b<;>try(simp at b;done)
 rename_i t q;cases l:fL sd t with
 |none=>simp[l]at b
 |some f=>
  simp only[l]at b;cases d:j7 ce f (q::ys.map r)with
  |none=>simp[d]at b
  |some F =>
   simp[d]at b;obtain⟨rfl,rfl⟩:=b;rw[n]at j;unfold VR at j;obtain⟨v,e,D⟩:=j;have E:dm P f=ad:=by
    unfold j7 at d;split at d<;>try(simp at d;done)
    cases g : ce f ((q::ys.map r).map wk) []with
    |none=>simp only[g]at d;simp at d
    |some q=>exact i _ _ _ _ g
   exact⟨cm.call (aaf s u e z l E w) (Aw h d A ⟨v,_,rfl,D,B⟩),rfl⟩
def aah(b:Good C w) (d:bC x=ad) (e:VR C w.heap x v) (t:TypeId):dL C w (.bN x) (.pointer (aa ⟨w.heap.size,0,ab⟩)) (cF w (.cells v.cells t)):=by
 obtain⟨g,a⟩:=Hv b v.cells t;refine⟨_,g,a,?_⟩;unfold VR;exact⟨d,w.heap.size,0,v.cells,t,(0,0),v,rfl,.inr rfl,qf w _,VR.mono a.ev _ _ e,λj h=>aA⟩
def aai{t:TypeId}(d:o.op = .box t x0) (e:Good C w) (g:VR C w.heap (r y) (a.eval x0)) (b:ev ce σ nl ps r (.ig y)=aa (x,p)) :
  cm P o a w (dL C w x)/\p=ab:=by
 simp only[ev]at b;split at b<;>simp at b
 rename_i h;obtain⟨rfl,rfl⟩:=b;refine⟨cm.val (v:=.pointer (aa ⟨w.heap.size,0,ab⟩)) (w' :=cF w (.cells (a.eval x0).cells t)) ?_ (aah e h g t),rfl⟩;simp only[execOp,d,Instr.box,bJ,DF,bO,bX]
def aaj{s d:TypeId}(L:o.op = .convert s d x0)
  (A:(match P.underlying s,P.underlying d with|some .string,aa (.slice e)=>(match P.underlying e with|some (.int .u8)=>ad|_=>ae)|_,_=>ae)=ad)
  (J:Good C w) (B:VR C w.heap (r y) (a.eval x0)) (m:ev ce σ nl ps r (.NH y)=aa (x,p)):cm P o a w (dL C w x)/\p=ab:=by
 have M:∃e,P.underlying s=aa .string/\P.underlying d=aa (.slice e)/\P.underlying e=aa (.int .u8):=by
  split at A
  .rename_i e D N
   split at A
   .rename_i O;exact⟨e,D,N,O⟩
   .simp at A
  .simp at A
 obtain⟨e,Q,hd,E⟩:=M;simp only[ev]at m;cases K:r y<;>simp only[K]at m<;>try(simp at m;done)
 rename_i t;simp at m;obtain⟨R,S⟩:=m;subst R S;rw[K]at B;unfold VR at B;have g:=Go.Lib.run_convert_string_bytes (P:=P) w s d e ⟨t.toArray⟩ Q hd E;have F:(⟨t.toArray⟩:ByteArray).size=ah t:=by show t.toArray.size=_;simp
 rw[F]at g;have W:=Go.Lib.bytesWorld_size w e ⟨t.toArray⟩;have n:=Go.Lib.bytesWorld_at_new w e ⟨t.toArray⟩;have hold:=λk l=>Go.Lib.bytesWorld_at_old w e ⟨t.toArray⟩ k l;have G:∀(i:Nat) b,t[i]? = aa b->(Go.Lib.bytesCells w e ⟨t.toArray⟩)[i]? = aa (.int .u8 (b.toNat:Int)):=λi b u=>by
  have H:=(dp.1 u).1;unfold Go.Lib.bytesCells;rw[mm (by simpa using H)]
  simp[u]
 have z:ah t<=grownCap w (ah t) 0 e:=grownCap_ge w _ _ _;obtain⟨T,U⟩:=J.qh (w' :=Go.Lib.bytesWorld w e ⟨t.toArray⟩) ax hold (λk=>C.I k\/k=w.heap.size) (λk l=>.inl l)
  (λk l=>l.elim (λh=>by have:=J.I k h;omega) (λh=>ax)) (λk l=>l.elim .inl (λh=>.inr ax)) rfl ⟨rfl,Nat.le_succ _⟩ rfl
 refine⟨cm.val (v:=.slice (aa ⟨w.heap.size,0,ab⟩) (ah t) (grownCap w (ah t) 0 e)) (w' :=Go.Lib.bytesWorld w e ⟨t.toArray⟩) ?_ ⟨_,T,U,?_⟩,rfl⟩
 .simp only[execOp,L,B,bJ,g,bO,bX]
 .unfold VR
  refine⟨DJ λq V=>?_,.inr ⟨w.heap.size,0,grownCap w (ah t) 0 e,1,_,e,_,?_,?_,.inr rfl,n,kF.of λi q u=>?_⟩⟩
  .obtain⟨b,_,rfl⟩:=cJ.1 V;rfl
  .simp
  .simpa using z
  .rw[gP]at u
   obtain⟨b,D,rfl⟩:=pw.1 u;refine⟨.int .u8 (b.toNat:Int),DK,rfl,λj X=>?_⟩;obtain rfl:j=0:=ax
   rw[show 0+i*1+0=i by omega,G i b D];rfl
end
end Ab
set_option linter.all false
namespace Ab
open Go
variable{P:Program}
section
variable{a:Act}{ρ:Operand->Value}{r:Rf->AV}{w:World}{C:Ctx}{R:Operand->Rf->Bool}{ce:CE}{σ:aq}{nl:Nat}{ps:List dd}
def OC (a:Nat):∀(vs:List Value) (k:Nat) (c:Array Value),(∀v,v∈vs->v.cells.size=a)->(k+ah vs)*a<=c.size->
  ∃c', Instr.fill (λi=>aa (i*a,a)) c ((vs.zipIdx k).map λp=>(p.2,p.1))=aa c' /\c'.size=c.size/\(∀i,i<k*a->c'[i]? = c[i]?)/\
   ∀(i:Nat) v,vs[i]? = aa v->∀j,j<a->c'[(k+i)*a+j]? = v.cells[j]?
 | [],k,c,_,_=>⟨c,rfl,rfl,λ_ _=>rfl,λi v h=>fE⟩
 |v::vs,k,c,e,l=>by
  have m:=e v aA
  have s:k*a+a<=c.size:=by
   have:(k+1)*a<=(k+ah (v::vs))*a:=mq _ aA
   rw[fG]at this;omega
  simp only[List.zipIdx_cons,da,Instr.fill];rw[aC (by rw[m];simp;omega)]
  have d:∀i,(v.cells.zipIdx.foldl (λcs (c,j)=>cs.setIfInBounds (k*a+j) c) c).size=c.size/\(v.cells.zipIdx.foldl (λcs (c,j)=>cs.setIfInBounds (k*a+j) c) c)[i]? = if k*a<=i/\i<k*a+v.cells.size then v.cells[i-k*a]? else c[i]?:=λi=>by
   have:=Hw (k*a) v.cells.toList 0 c i aT
   rw[<-Array.foldl_toList];simp only[Array.toList_zipIdx];simpa using this
  obtain⟨c', n,o,g,q⟩:=OC a vs (k+1) (v.cells.zipIdx.foldl (λcs (c,j)=>cs.setIfInBounds (k*a+j) c) c) (λu b=>e u fS) (by
   rw[(d 0).1];have:(k+ah (v::vs))=k+1+ah vs:=aT
   rwa [this]at l)
  refine⟨c', n,by rw[o,(d 0).1],λi w=>?_,λi u b j r=>?_⟩
  .rw[g i (by rw[fG];omega),(d i).2,aC ax]
  .cases i with
   |zero=>
    simp at b;subst b;simp only[Nat.add_zero];rw[g _ (by rw[fG];omega),(d _).2,aD ax]
    congr 1;omega
   |succ i=>
    have:=q i u (by simpa using b) j r
    rw[show k+(i+1)=k+1+i by omega]
    exact this
def yt{st:Nat}:∀{l:ao},fitAll st l=ad->∀x∈l,ah x.cells=st/\jQ x
 | [],_,x,a=>by simp at a
 |y::l,h,x,a=>by
  simp only[fitAll,bd,dA]at h;rcases cC.1 a with rfl|a
  .exact⟨h.1.1,DL h.1.2⟩
  .exact yt h.2 x a
def OD:∀{k:Nat}{ps:List (Nat×Operand)},ij k ps=ad->∀(f:Operand->Value),ps.map (λp=>(p.1,f p.2))=((ps.map λp=>f p.2).zipIdx k).map λp=>(p.2,p.1)
 |_,[],_,_=>rfl
 |k,(i,x)::r,h,f=>by
  simp only[ij,bd,dA]at h;simp only[da,List.zipIdx_cons,h.1];rw[OD h.2 f]
def cH.get'{H:Array Obj}:∀{l:ao}{vs:List Value},cH C H l vs->∀(i:Nat) v,vs[i]? = aa v->∃x,l[i]? = aa x/\VR C H x v
 | [],vs,h,i,v,hi=>by rw[show vs=[]from h]at hi;simp at hi
 |x::l,_,⟨v0,s,e,hx,hr⟩,0,v,hi=>by rw[e]at hi;simp at hi;subst hi;exact⟨x,rfl,hx⟩
 |x::l,_,⟨v0,s,e,hx,hr⟩,i+1,v,hi=>by rw[e]at hi;exact cH.get' hr i v ox
variable{t:TypeId}{st:Nat}{xs:Array (Nat×Operand)}{ys:List Rf}
def Hx{e:TypeId}{n:Nat}(L:bF P t=aa e) (y:cS P e st=ad) (s:dD P e=ad) (V:n*st<=2^24) (M:(n==xs.size)=ad) (N:ij 0 xs.toList=ad)
  (u:cH C w.heap (ys.map r) ((xs.toList.map (·.2)).map ρ)) (H:fitAll st (ys.map r)=ad) :
  ∃c:Array Value,(Instr.buildSlice t n (xs.map λ(i,x)=>(i,ρ x))).run P w = .ok (.slice (aa ⟨w.heap.size,0,ab⟩) (ah ys) (ah ys)) (cF w (.cells c e))/\c.size=ah ys*st/\
   ∀(i:Nat) x,(ys.map r)[i]? = aa x->∃v,VR C w.heap x v/\v.cells.size=st/\jQ x/\∀j,j<st->c[i*st+j]? = v.cells[j]?:=by
 have hlen:ah ys=n:=by
  have a:=cH.length u;simp at a M;omega
 have A:(xs.map λ(i,x)=>(i,ρ x)).toList=(((xs.toList.map (·.2)).map ρ).zipIdx 0).map λp=>(p.2,p.1):=by
  have:=OD N ρ;simp only[Array.toList_map,List.map_map]at this ⊢;exact this
 have B:∀v,v∈(xs.toList.map (·.2)).map ρ->v.cells.size=st:=λv O=>by
  obtain⟨i,b⟩:=List.getElem?_of_mem O;obtain⟨x,a,d⟩:=cH.get' u i v b;obtain⟨h,D⟩:=yt H x (ud a);rw[VR.size D d,h]
 obtain⟨z,E⟩:∃z,(zeroValue e).run P w = .ok z w:=by
  unfold dD at s;cases b:P.info? e with
  |none=>simp[b]at s
  |some i=>
   simp only[b]at s;cases l:i.zero with
   |none=>simp[l]at s
   |some z=>exact⟨z,by simp only[zeroValue,bJ,run_typeInfo w b,bO,l,bX]⟩
 have I:=oy L w;have m:=mr y w;have F:ah ((xs.toList.map (·.2)).map ρ)=n:=by have:=cH.length u;simp at this;simp;omega
 -- g Q zero cells R
 have key:∀o:Array Value,∃c,Instr.fill (λi=>aa (i*st,st)) ((Array.range (n*st)).map λq=>o[q%o.size]!) (xs.map λ(i,x)=>(i,ρ x)).toList=aa c/\c.size=ah ys*st/\
   ∀(i:Nat) x,(ys.map r)[i]? = aa x->∃v,VR C w.heap x v/\v.cells.size=st/\jQ x/\∀j,j<st->c[i*st+j]? = v.cells[j]?:=λo=>by
  obtain⟨c,a,d,_,D⟩:=OC st ((xs.toList.map (·.2)).map ρ) 0 ((Array.range (n*st)).map λq=>o[q%o.size]!) B (by rw[F];simp)
  refine⟨c,by rw[A];exact a,by rw[d,hlen];simp,λi x b=>?_⟩
  obtain⟨v,S,J⟩:=u.get i x b;obtain⟨T,K⟩:=yt H x (ud b);exact⟨v,J,by rw[VR.size K J,T],K,λj U=>by have:=D i v S j U;simpa using this⟩
 by_cases G:n*st=0
 .obtain⟨c,a,d,h⟩:=key #[]
  refine⟨c,?_,d,h⟩;simp only[Instr.buildSlice,bJ,I,m,bO];rw[aC ax]
  simp only[G,dM,bJ,bX,bO];simp only[G]at a;simp only[a,Av,bJ,bX,bO,hlen]
 .obtain⟨c,a,d,h⟩:=key z.cells
  refine⟨c,?_,d,h⟩;simp only[Instr.buildSlice,bJ,I,m,bO];rw[aC ax]
  simp only[G,fv,bJ,E, bX,bO];simp only[a,Av,bJ,bX,bO,hlen]
variable{o:Oper}{x:AV}{p:Option dd}
def aak{e:TypeId}{n:Nat}(m:o.op = .buildSlice t n xs) (q:bF P t=aa e) (d:cS P e st=ad) (s:dD P e=ad) (u:n*st<=2^24) (y:(n==xs.size)=ad) (g:ij 0 xs.toList=ad)
  (z:Good C w) (A:cH C w.heap (ys.map r) ((xs.toList.map (·.2)).map a.eval)) (b:ev ce σ nl ps r (.cq ys st)=aa (x,p)):cm P o a w (dL C w x)/\p=ab:=by
 simp only[ev]at b;split at b<;>simp at b
 rename_i h;obtain⟨rfl,rfl⟩:=b;simp only[bd]at h;obtain⟨c,B,K,D⟩:=Hx q d s u y g A h.2;refine⟨cm.val (v:=.slice (aa ⟨w.heap.size,0,ab⟩) (ah ys) (ah ys)) (w' :=cF w (.cells c e)) ?_ ?_,rfl⟩
 .simp only[execOp,m,bJ,B,bO,bX]
 .obtain⟨E,l⟩:=Hv z c e
  refine⟨_,E,l,?_⟩;unfold VR;refine⟨h.1,.inr ⟨w.heap.size,0,ah ys,st,c,e,(0,0),aA,aA,.inr rfl,qf w _,kF.of λi x F=>?_⟩⟩
  obtain⟨v,G,H,_,I⟩:=D i x F;exact⟨v,VR.mono l.ev _ _ G,H,λj J=>by rw[gQ];exact I j J⟩
def OE{e:TypeId}{n:Nat}(l:o.op = .buildSlice t n xs) (m:bF P t=aa e) (d:cS P e st=ad) (q:dD P e=ad) (s:n*st<=2^24) (u:(n==xs.size)=ad) (g:ij 0 xs.toList=ad)
  (y:Good C w) (z:cH C w.heap (ys.map r) ((xs.toList.map (·.2)).map a.eval)) (b:ev ce σ nl ps r (.dV ys st)=aa (x,p)):cm P o a w (dL C w x)/\p=ab:=by
 simp only[ev]at b;split at b<;>simp at b
 rename_i A;obtain⟨rfl,rfl⟩:=b;obtain⟨c,B,K,D⟩:=Hx m d q s u g z A;refine⟨cm.val (v:=.slice (aa ⟨w.heap.size,0,ab⟩) (ah ys) (ah ys)) (w' :=cF w (.cells c e)) ?_ ?_,rfl⟩
 .simp only[execOp,l,bJ,B,bO,bX]
 .obtain⟨E,h⟩:=Hv y c e
  refine⟨_,E,h,?_⟩;unfold VR;refine⟨w.heap.size,0,st,c,e,(0,0),aA,.inr rfl,qf w _,kF.of λi x F=>?_⟩
  obtain⟨v,G,H,_,I⟩:=D i x F;exact⟨v,VR.mono h.ev _ _ G,H,λj J=>by rw[gQ];exact I j J⟩
def Ext (nl:Nat):Option dd->Ctx->Ctx->Prop
 |none,C,C' =>C'.own=C.own/\C'.lim=C.lim
 |some (.new B),C,C' =>∃id,C'.own=(aU C nl (ah B.cells) (B,id)).own/\C'.lim=(aU C nl (ah B.cells) (B,id)).lim
 |some (.news l),C,C' =>∃ids:Nat->Nat,C'.own=(λb u=>if nl<=b/\b<nl+ah l then(aI l ids C.I).own (b-nl) u else C.own b u)/\C'.lim=(λb u=>(nl<=b/\(aI l ids C.I).lim (b-nl) u)\/C.lim b u)
 |some (.grow b cs),C,C' =>∃a d id,cs ≠ []/\C.own b (ah a.cells)=aa (a,d)/\C'.own=(aU C b (ah (a.cells++cs)) (⟨a.k,a.cells++cs,.live⟩,id)).own/\C'.lim=(aU C b (ah (a.cells++cs)) (⟨a.k,a.cells++cs,.live⟩,id)).lim
def jR (nl:Nat) (C:Ctx) (w:World) (x:AV) (p:Option dd) (v:Value) (w' : World):Prop:=
 ∃a, Good a w' /\Step C w a w' /\VR a w'.heap x v/\Ext nl p C a
def aal{e:TypeId}{n:Nat}(j:o.op = .buildSlice t n xs) (l:bF P t=aa e) (d:cS P e st=ad) (m:dD P e=ad) (g:n=0) (b:xs.size=0)
  (q:Good C w) (h:ev ce σ nl ps r (.ue st)=aa (x,p)):cm P o a w (dL C w x)/\p=ab:=by
 simp only[ev,ct,Prod.mk.injEq]at h;obtain⟨rfl,rfl⟩:=h;obtain⟨s,_⟩:=OE (P:=P) (a:=a) (r:=r) (ce:=ce) (σ:=σ) (nl:=nl) (ps:=ps) (ys:=[]) (x:=.arr []) (p:=ab) j l d m (by subst g;simp) (by rw[b,g];rfl) (by
  have:xs.toList=[]:=by rw[<-List.length_eq_zero_iff];simpa using b
  rw[this];rfl) q (by
  have:xs.toList=[]:=by rw[<-List.length_eq_zero_iff];simpa using b
  rw[this];rfl) (by simp[ev,fitAll])
 refine⟨s.mono λv D ⟨u, y,z,i⟩=>⟨u, y,z,?_⟩,rfl⟩;unfold VR at i ⊢;obtain⟨aQ,off,A, c,el,E,B,_⟩:=i;exact⟨_,B⟩
variable{v:Value}
def dL.e{nl:Nat}{w' : World}(h:dL C w x v w'):jR nl C w x ab v w' :=by
 obtain⟨I', h1,h2,h3⟩:=h;exact⟨_,h1,h2,h3,rfl,rfl⟩
variable{B:aO}{c:Array Value}{el:TypeId}
def DM(b:Good C w) (d:∀u,¬C.lim nl u) (a:B.st = .live) (hle:ah B.cells<=c.size)
  (e:∀(i:Nat) x,B.cells[i]? = aa x->∃y,c[i]? = aa y/\VR C w.heap x y/\y.oneCell' = ad)
  (g:∀C', C'.own nl (ah B.cells)=aa (B,w.heap.size)->C'.lim nl (ah B.cells)->VR C' (cF w (.cells c el)).heap x v):jR nl C w x (aa (.new B)) v (cF w (.cells c el)):=by
 obtain⟨h,j⟩:=DG b B (d _) c el a hle e;exact⟨_,h,j,g _ (by simp[aU]) (.inl ⟨rfl,rfl⟩),w.heap.size,rfl,rfl⟩
def Hy{H:Array Obj}(b:jQ x) (h:VR C H x v):∀(i:Nat) q,x.cells[i]? = aa q->∃y,v.cells[i]? = aa y/\VR C H q y/\y.oneCell' = ad:=λi q d=>by
 obtain⟨e,g⟩:=VR.cells b h;obtain⟨y,a,j⟩:=e.get i q d;rw[jS]at a;exact⟨y,a,j,g y (by rw[vO];exact Array.mem_of_getElem? a)⟩
variable{id b u:Nat}
def OF{C' : Ctx}{H:Array Obj}(a:C'.own b u=aa (B,id)) (d:C'.lim b u):VR C' H (.ptr b u 0) (.pointer (aa ⟨id,0,ab⟩)):=by
 unfold VR;exact⟨⟨id,rfl⟩,d,λg e h _=>by rw[a]at h;simp at h;rw[h.2]⟩
def yu{C' : Ctx}{H:Array Obj}{len cap:Nat}(d:C'.own b u=aa (B,id)) (e:C'.lim b u) (g:B.st = .live) (i:H[id]? = aa (.cells c el (0,0))) (a:len<=cap)
  (l:cap*ba B.k=c.size):VR C' H (.sl b u 0 len) (.slice (aa ⟨id,0,ab⟩) len cap):=by
 unfold VR;refine⟨⟨_,_,rfl,a,λ_=>⟨id,rfl⟩⟩,e,λm j h=>?_⟩;rw[d]at h;simp at h;obtain⟨rfl,rfl⟩:=h;simp only[g];exact⟨c,el,0,cap,i,rfl,λ_=>rfl,a,ax⟩
variable{k:Option Nat}
def aam{d:Operand}{y:Rf}(l:o.op = .box t d) (m:Good C w) (n:∀u,¬C.lim nl u) (g:VR C w.heap (r y) (a.eval d))
  (b:ev ce σ nl ps r (.xB y k)=aa (x,p)):cm P o a w (jR nl C w x p):=by
 simp only[ev]at b;split at b<;>simp at b
 rename_i e;simp only[bd,dA]at e;obtain⟨rfl,rfl⟩:=b;have h:=DL e.2;refine cm.val (v:=.pointer (aa ⟨w.heap.size,0,ab⟩)) (w' :=cF w (.cells (a.eval d).cells t)) ?_ (DM m n rfl ?_ ?_ ?_)
 .simp only[execOp,l,Instr.box,bJ,DF,bO,bX]
 .rw[VR.size h g];exact bG _
 .exact Hy h g
 .intro q i j
  simp only[e.1]at i j;exact OF i j
def aan{z:ao}(l:o.op = .alloc t) (m:jB P t z=ad) (n:Good C w) (s:∀u,¬C.lim nl u)
  (b:ev ce σ nl ps r (.oz z k)=aa (x,p)):cm P o a w (jR nl C w x p):=by
 simp only[ev]at b;split at b<;>simp at b
 rename_i e;simp only[dA]at e;obtain⟨rfl,rfl⟩:=b;obtain⟨v,A,g,B⟩:=DN (C:=C) m w;refine cm.val (v:=.pointer (aa ⟨w.heap.size,0,ab⟩)) (w' :=cF w (.cells v.cells t)) ?_ (DM n s rfl ?_ ?_ ?_)
 .simp only[execOp,l,Instr.alloc,bJ,A,DF,bO,bX]
 .have:=cH.length g;simp at this;simp[this]
 .intro i q D
  obtain⟨y,d,E⟩:=g.get i q D;rw[jS]at d;exact⟨y,d,E,B y (by rw[vO];exact Array.mem_of_getElem? d)⟩
 .intro F h j
  simp only[e]at h j;exact OF h j
def DO{st:Nat}:∀{l:ao},(∀x∈l,ah x.cells=st)->ah (l.flatMap AV.cells)=ah l*st/\∀(i:Nat) x j,l[i]? = aa x->j<st->(l.flatMap AV.cells)[i*st+j]? = x.cells[j]?
 | [],_=>⟨aA,λi x j h=>fE⟩
 |y::l,h=>by
  obtain⟨d,e⟩:=DO (l:=l) λx g=>h x jC
  have a:=h y aA
  refine⟨by simp only[jD,bM,d,a,cT];rw[fG];omega,λi x j b m=>?_⟩
  simp only[jD];cases i with
  |zero=>
   simp at b;subst b;rw[dq ax];simp
  |succ i=>
   rw[dW (by rw[a,fG];omega),a,<-e i x j (by simpa using b) m]
   congr 1
   rw[fG];omega
def OG{H:Array Obj}{l:ao}{off:Nat}(g:∀x∈l,ah x.cells=st)
  (h:∀(i:Nat) x,l[i]? = aa x->∃v,VR C H x v/\v.cells.size=st/\jQ x/\∀j,j<st->c[off+(i*st+j)]? = v.cells[j]?) :
  ∀(i:Nat) q,(l.flatMap AV.cells)[i]? = aa q->∃y,c[off+i]? = aa y/\VR C H q y/\y.oneCell' = ad:=λi q d=>by
 obtain⟨p,r⟩:=DO g;have b:=(dp.1 d).1;rw[p]at b;have a:0<st:=by
  rcases Nat.eq_zero_or_pos st with m|m
  .subst m;simp at b
  .exact m
 have n:i/st<ah l:=(vQ a).2 b;have o:=Nat.mod_lt i a;have e:i=i/st*st+i%st:=by rw[mY];exact(Nat.div_add_mod i st).symm
 obtain⟨v,s,z,u,w⟩:=h (i/st) l[i/st] (by simp[n])
 rw[e]at d ⊢;rw[r (i/st) l[i/st] (i%st) (by simp[n]) o]at d
 rw[w _ o];exact Hy u s _ q d
def aao{e:TypeId}{n:Nat}(ho:o.op = .buildSlice t n xs) (ht:bF P t=aa e) (fT:cg P e k=ad) (hz:dD P e=ad) (Zg : n*ba k<=2^24) (hn:(n==xs.size)=ad) (hio:ij 0 xs.toList=ad)
  (hg:Good C w) (hb:∀u,¬C.lim nl u) (hx:cH C w.heap (ys.map r) ((xs.toList.map (·.2)).map a.eval)) (he:ev ce σ nl ps r (.oA ys k)=aa (x,p)):cm P o a w (jR nl C w x p):=by
 simp only[ev]at he;split at he
 case isFalse=>simp at he
 rename_i hc;simp only[ct,Prod.mk.injEq]at he;obtain⟨rfl,rfl⟩:=he;obtain⟨c,h1,h2,h3⟩:=Hx ht (px fT) hz Zg hn hio hx hc;have yw:∀x∈ys.map r,ah x.cells=ba k:=λx hx=>(yt hc x hx).1;obtain⟨f1,f2⟩:=DO yw;refine cm.val (v:=.slice (aa ⟨w.heap.size,0,ab⟩) (ah ys) (ah ys)) (w' :=cF w (.cells c e)) ?_ (DM hg hb rfl ?_ ?_ ?_)
 .simp only[execOp,ho,bJ,h1,bO,bX]
 .simp only[f1,h2];simp
 .intro i q hi
  have:=OG (off:=0) yw (λi x hi=>by obtain⟨v,g1,g2,g3,g4⟩:=h3 i x hi;exact⟨v,g1,g2,g3,λj hj=>by rw[gQ];exact g4 j hj⟩) i q hi
  simpa using this
 .intro C' k1 k2
  exact yu k1 k2 rfl (qf w _) (bG _) h2.symm
end
end Ab
set_option linter.all false
namespace Ab
open Go
variable{P:Program}
variable{w': World}
def Good.heap{C:Ctx}{w: World}(hg:Good C w) (h:w'.heap=w.heap):Good C w' :=
 ⟨by rw[h];exact hg.I,hg.mT,by rw[h];exact hg.live,hg.apart,by rw[h];exact hg.maps⟩
def Step.heap{C:Ctx}{w: World}(h:w'.heap=w.heap) (ho:w'.os=w.os) (ht:w'.tape=w.tape/\w.drawn<=w'.drawn) (Hu:w'.output=w.output):Step C w C w' :=
 ⟨by rw[h];exact gM.refl _ _,by rw[h];exact bG _,λ_ _ _=>by rw[h],λ_ h=>.inl h,λ_ h=>.inl h,ho,ht,Hu⟩
section
variable{a:Act}{ρ:Operand->Value}{r:Rf->AV}{w:World}{C:Ctx}{R:Operand->Rf->Bool}{ce:CE}{σ:aq}{nl:Nat}{ps:List dd}
def Hz (z:ao):∀(n:Nat),ah (fx n z)=n*ah z/\∀i,i<n*ah z->(fx n z)[i]? = z[i%ah z]?
 |0=>⟨by simp[fx],λi b=>by simp at b⟩
 |n+1=>by
  obtain⟨d,g⟩:=Hz z n;have e:fx (n+1) z=z++fx n z:=by simp[fx,sJ]
  refine⟨by rw[e,bM,d,fG];omega,λi b=>?_⟩
  rw[e]
  by_cases a:i<ah z
  .rw[dq a,Nat.mod_eq_of_lt a]
  .rw[dW ax,g _ (by rw[fG]at b;omega)]
   congr 1
   rw[Nat.mod_eq_sub_mod (by omega:ah z<=i)]
def OH{n:Int}(a:0<=n) (h:n<=eE):IntKind.i64.wrap n=n:=by
 unfold eE at h;exact IntWalk.i64_in n ⟨ax,ax⟩
def OI{e:TypeId}(h:gv P e=ad):∃i,P.info? e=aa i/\i.bytes<=4096:=by
 unfold gv at h;cases a:P.info? e with
 |none=>simp[a]at h
 |some i=>simp[a]at h;exact⟨i,rfl,h⟩
set_option maxRecDepth 100000 in
def aap{o:Oper}{t e:TypeId}{l c:Operand}{l' c' : Rf}{z:ao}{k:Option Nat}{x:AV}{p:Option dd}(ho:o.op = .makeSlice t l c) (ht:bF P t=aa e) (hk:cg P e k=ad) (hz:jB P e z=ad) (xD:gv P e=ad)
  (hg:Good C w) (hb:∀u,¬C.lim nl u) (hl:VR C w.heap (r l') (a.eval l)) (hc:VR C w.heap (r c') (a.eval c)) (he:ev ce σ nl ps r (.kG l' c' z k)=aa (x,p)):cm P o a w (jR nl C w x p):=by
 simp only[ev]at he;cases kB : r l' <;>simp only[kB]at he<;>try(simp at he;done)
 cases yy : r c' <;>simp only[yy]at he<;>try(simp at he;done)
 rename_i n m;split at he
 case isFalse=>simp at he
 rename_i iP;simp only[ct,Prod.mk.injEq]at he;obtain⟨rfl,rfl⟩:=he;rw[kB]at hl;rw[yy]at hc;have hl:=hl.bV;have hc:=hc.bV;obtain⟨h1,h2,h3,OJ⟩:=iP;obtain⟨M,rfl⟩:=fU (by omega:0<=m)
 obtain⟨N,rfl⟩:=fU h1;obtain⟨i,hi,xD⟩:=OI xD;have sf:=mr (px hk) w;obtain⟨zv,z1,z2,z3⟩:=DN (C:=C) hz w;have OK:zv.cells.size=ba k:=by have:=cH.length z2;simp at this;omega
 have hM:(M:Int)<=1073741824:=h3;have OL:∀q:Nat,q<=1073741824->(i.bytes:Int)*(q:Int)<=4398046511104:=λq hq=>by
  have h1:i.bytes*q<=4096*1073741824:=kH xD hq;have h2:((i.bytes*q:Nat):Int)<=((4398046511104:Nat):Int):=Int.ofNat_le.2 ax
  rw[kW]at h2;omega
 have hbm:=OL M ax
 let zc:Array Value:=if M*ba k=0 then #[]else zv.cells
 have eO:(Instr.makeSlice t (a.eval l) (a.eval c)).run P w = .ok (.slice (aa ⟨w.heap.size,0,ab⟩) N M) (cF w (.cells ((Array.range (M*ba k)).map λq=>zc[q%zc.size]!) e)):=by
  rw[hl,hc];have ha:(askRoom (M*i.bytes)).run P w = .ok () w:=by
   unfold askRoom roomBytes;have:M*i.bytes<=1073741824*4096:=kH ax xD
   rw[aC ax];rfl
  simp only[Instr.makeSlice,bJ,oy ht,bO,asInt,asIntOf,bX,run_typeInfo w hi];rw[OH (by omega:(0:Int)<=N) ax,OH (by omega:(0:Int)<=M) h3]
  have aaq : ¬((i.bytes:Int)*M>2^48):=by
   have:(2:Int)^48=281474976710656:=cp
   omega
  have arH : ¬((i.bytes:Int)*N>2^48):=by
   have h48:(2:Int)^48=281474976710656:=cp
   have:=OL N ax
   omega
  have c1:¬((M:Int)<0):=ax
  have c2:¬((N:Int)<0):=ax
  have c3:¬((N:Int)>(M:Int)):=ax
  simp only[c1,c2,c3,aaq, decide_false,Bool.or_self,ff,fv,or_self,jT];simp only[bJ,ha,sf,bO]
  by_cases h0:M*ba k=0
  .simp only[h0,dM,bJ,bX,bO,Av]
   simp[zc,h0]
  .simp only[h0,fv,bJ,z1,bX,bO,Av]
   simp[zc,h0]
 simp only[jT];obtain⟨d1,d2⟩:=Hz z M;rw[OJ]at d1 d2;refine cm.val (v:=.slice (aa ⟨w.heap.size,0,ab⟩) N M) ?_ (DM (c:=(Array.range (M*ba k)).map λq=>zc[q%zc.size]!) (el:=e) hg hb rfl ?_ ?_ ?_)
 .simp only[execOp,ho,bJ,eO,bO,bX]
 .simp[d1]
 .intro j q hj
  have cw:=(dp.1 hj).1;simp only[d1]at cw;have vR : (fx M z)[j]? = aa q:=hj;rw[d2 j cw]at vR;have fg:M*ba k ≠ 0:=ax
  have Aa:0<ba k:=Nat.pos_of_ne_zero λh=>fg (by rw[h];simp)
  obtain⟨y,g1,g2⟩:=z2.get (j%ba k) q vR;rw[jS]at g1;refine⟨y,?_,g2,z3 y (by rw[vO];exact Array.mem_of_getElem? g1)⟩
  have:zc=zv.cells:=by simp[zc,fg]
  rw[this,OK];have hm:=Nat.mod_lt j Aa;rw[mu (by omega:j%ba k<zv.cells.size)]at g1
  simp at g1;simp[cw,getElem!_def,mu (by omega:j%ba k<zv.cells.size),g1]
 .intro C' k1 k2
  exact yu k1 k2 rfl (qf w _) ax aA
variable{o:Oper}{x:AV}{p:Option dd}
def aar{t:TypeId}(d:o.op = .makeMap t ab) (e:Good C w) (g:∀u,¬C.lim nl u)
  (b:ev ce σ nl ps r .Az=aa (x,p)):cm P o a w (jR nl C w x p):=by
 simp only[ev,ct,Prod.mk.injEq]at b;obtain⟨rfl,rfl⟩:=b;obtain⟨i,j⟩:=aab e (g 0);refine cm.val (v:=.map (aa w.heap.size)) (w' :=cF w (.map #[] 0)) ?_ ⟨_,i,j,?_,w.heap.size,rfl,rfl⟩
 .simp only[execOp,d,Instr.makeMap,bJ]
  rfl
 .unfold VR
  refine⟨⟨_,rfl⟩,.inl ⟨rfl,rfl⟩,λB id h _=>?_⟩;simp[aU]at h;rw[<-h.2]
def OM{A:Operand}{k:Option Nat}(Q:o.op = .assign A) (R:kX A=ad) (n:Good C w) (S:∀u,¬C.lim nl u)
  (D:ev ce σ nl ps r (.nl k)=aa (x,p)):cm P o a w (jR nl C w x p):=by
 simp only[ev]at D;simp only[ct,Prod.mk.injEq]at D;obtain⟨rfl,rfl⟩:=D;have T:a.eval A = .slice ab 0 0:=HA (ρ:=a.eval) R rfl;refine cm.val (v:=.slice ab 0 0) (w' :=w) (by simp only[execOp,Q,T,bX]) ?_
 have l : gM C w.heap (aU C nl 0 (⟨k,[],.jN⟩,0)) w.heap:=by
  refine⟨λ_ h=>h,λ_ _=>rfl,λ_ _ h=>.inr h,λe d j id g b =>?_⟩;have m:¬(e = nl/\d = 0):=λ⟨z,_⟩=>S d (z▸g);simp only[aU,aC m]at b;exact⟨j, b, rfl,rfl,λc el U=>⟨c,U,rfl⟩⟩
 refine⟨aU C nl 0 (⟨k,[],.jN⟩,0),⟨n.I,λe d j id b =>?_,λe d j id b g=>?_,λb1 J V i1 K L W X q M s N m=>?_,λe d j id es b g=>?_⟩,
  ⟨l, bG _,λ_ _ _=>rfl,λk' Y=>?_,λ_ h=>.inl h,rfl,⟨rfl,bG _⟩,rfl⟩,?_,0,rfl,rfl⟩
 .by_cases h:e = nl/\d = 0
  .simp only[aU,aD h]at b
   simp at b; obtain⟨rfl,rfl⟩:=b;exact⟨.inl h,h.2,λ_=>rfl,aA⟩
  .simp only[aU,aC h]at b
   obtain⟨E,F,G,H⟩:=n.mT e d j id b;exact⟨.inr E,F,G,H⟩
 .by_cases h:e = nl/\d = 0
  .simp only[aU,aD h]at b
   simp at b; obtain⟨rfl,rfl⟩:=b;simp at g
  .simp only[aU,aC h]at b
   obtain⟨E,c,el,F,G,H⟩:=n.live e d j id b g;refine⟨E,c,el,F,G,λi x Z=>?_⟩;obtain⟨y,m1,m2,m3⟩:=H i x Z;exact⟨y,m1,VR.mono l _ _ m2,m3⟩
 .by_cases z:b1=nl/\J=0
  .simp only[aU,aD z]at q;simp at q;obtain⟨rfl,rfl⟩:=q;simp[fR.kI]at M
  .by_cases O:K=nl/\L=0
   .simp only[aU,aD O]at s;simp at s;obtain⟨rfl,rfl⟩:=s;simp[fR.kI]at N
   .simp only[aU,aC z]at q;simp only[aU,aC O]at s
    exact n.apart b1 J V i1 K L W X q M s N m
 .by_cases h:e = nl/\d = 0
  .simp only[aU,aD h]at b
   simp at b; obtain⟨rfl,rfl⟩:=b; simp at g
  .simp only[aU,aC h]at b
   exact n.dK (C' :=aU C nl 0 (⟨k,[],.jN⟩,0)) l b g rfl (n.maps e d j id es b g).1
 .obtain⟨e, d, j, b, g⟩:=Y
  by_cases h:e = nl/\d = 0
  .simp only[aU,aD h]at b
   simp at b; obtain⟨rfl,rfl⟩:=b; simp[fR.kI]at g
  .simp only[aU,aC h]at b
   exact .inl ⟨e, d, j, b, g⟩
 .unfold VR
  refine⟨⟨ab,0,rfl,bG _,λh=>absurd h (Nat.lt_irrefl 0)⟩,.inl ⟨rfl,rfl⟩,λB id h=>?_⟩;simp[aU]at h;obtain⟨rfl,rfl⟩:=h;exact⟨rfl,rfl,rfl⟩
end
end Ab
set_option linter.all false
namespace Ab
open Go
variable{P:Program}
section
variable{w:World}{C:Ctx}
variable{cs:ao}
def HB{aQ off:Nat}{c:Array Value}{el:TypeId}{m:Nat×Nat}(h:w.heap[aQ]? = aa (.cells c el m))
  (g:∀(i:Nat) q,cs[i]? = aa q->∃y,c[off+i]? = aa y/\VR C w.heap q y/\y.oneCell' = ad) :
  ∃vals:List Value,(∀a:World,a.heap=w.heap->(loadCells ⟨aQ,off,ab⟩ (ah cs)).run P a = .ok vals.toArray a)/\ah vals=ah cs/\∀(i:Nat) q,cs[i]? = aa q->∃y,vals[i]? = aa y/\VR C w.heap q y/\y.oneCell' = ad:=by
 refine⟨(af (ah cs)).map λj=>(c[off+j]?).getD undef,λa b=>run_loadCells a _ _ _ λj n=>?_,aA,λi q l=>?_⟩
 .obtain⟨y,d,_⟩:=g j cs[j] (by simp[n])
  rw[sK];simp[World.cell?,b,h,d]
 .obtain⟨y,b,d⟩:=g i q l
  have e:=(dp.1 l).1;exact⟨y,by simp[e,b],d⟩
def ON{st:Nat}{l:ao}(h:fitAll st l=ad):∀x∈l,ah x.cells=st:=λx a=>(yt h x a).1
variable{k:Option Nat}
def sL{σ:aq}{X:AV}{v:Value}{n:Nat}(h:bw σ k X=aa (n,cs)) (hg:Good C w) (kJ:∀b u B,C.lim b u->upto σ b u=aa B->∃id,C.own b u=aa (B,id)) (hv:VR C w.heap X v) :
  ∃vals:List Value,(∃q m,v = .slice q n m)/\(∀w1:World,w1.heap=w.heap->(Builtin.firstCells (ba k) n v).run P w1 = .ok vals.toArray w1)/\ah cs=n*ba k/\ah vals=ah cs/\∀(i:Nat) q,cs[i]? = aa q->∃y,vals[i]? = aa y/\VR C w.heap q y/\y.oneCell' = ad:=by
 have AA:∀(a:Option Addr) m (w1:World),w1.heap=w.heap->(Builtin.firstCells (ba k) 0 (.slice a 0 m)).run P w1 = .ok ([]:List Value).toArray w1:=λa m w1 _=>by
  cases a<;>simp[Builtin.firstCells,loadCells,loadCellsFrom]
 have yz:=AA ab
 -- elements of an NI slice
 have OO:∀(l:ao) (aQ off DP cap:Nat) (c:Array Value) (el:TypeId) (fz:Nat×Nat),fitAll (ba k) l=ad->v = .slice (aa ⟨aQ,off,ab⟩) (ah l) cap->w.heap[aQ]? = aa (.cells c el fz)->kF C w.heap c DP l off->
   ∃vals:List Value,(∃q m,v = .slice q (ah l) m)/\(∀w1:World,w1.heap=w.heap->(Builtin.firstCells (ba k) (ah l) v).run P w1 = .ok vals.toArray w1)/\ah (l.flatMap AV.cells)=ah l*ba k/\ah vals=ah (l.flatMap AV.cells)/\∀(i:Nat) q,(l.flatMap AV.cells)[i]? = aa q->∃y,vals[i]? = aa y/\VR C w.heap q y/\y.oneCell' = ad:=by
  intro l aQ off DP cap c el fz hf e hH hl;obtain⟨f1,f2⟩:=DO (ON hf);have hc:=OG (C:=C) (H:=w.heap) (c:=c) (off:=off) (ON hf) (λi x hi=>by
   obtain⟨val,g1,g2,g3⟩:=hl.get i x hi;obtain⟨h1,h2⟩:=yt hf x (ud hi);have fT:DP = ba k:=by rw[<-g2,VR.size h2 g1,h1]
   subst fT;exact⟨val,g1,g2,h2,λj hj=>by rw[<-g3 j hj,Nat.add_assoc]⟩)
  obtain⟨vals,k1,k2,k3⟩:=HB (P:=P) hH hc;exact⟨vals,⟨_,_,e⟩,λw1 h1=>by rw[e];simp only[Builtin.firstCells];rw[<-f1];exact k1 w1 h1,f1,k2,k3⟩
 cases X<;>simp only[bw]at h<;>try(simp at h;done)
 .simp at h;obtain⟨rfl,rfl⟩:=h
  have hv:v = .slice ab 0 0:=hv;subst hv;exact⟨[],⟨_,_,rfl⟩,yz 0,aA,rfl,λi q h=>fE⟩
 .simp at h;obtain⟨rfl,rfl⟩:=h
  unfold VR at hv;obtain⟨a0,hv⟩:=hv;subst hv;exact⟨[],⟨_,_,rfl⟩,AA a0 0,aA,rfl,λi q h=>fE⟩
 .rename_i nn l
  split at h
  case isFalse=>simp at h
  rename_i hf;simp only[ct,Prod.mk.injEq]at h;obtain⟨rfl,rfl⟩:=h;unfold VR at hv;rcases hv.2 with⟨rfl,_,rfl,_⟩|⟨aQ,off,cap,st,c,el,fz,e,_,_,hH,hl⟩
  .exact⟨[],⟨_,_,rfl⟩,AA _ 0,aA,rfl,λi q h=>fE⟩
  .exact OO l aQ off st cap c el fz hf e hH hl
 .rename_i l
  split at h
  case isFalse=>simp at h
  rename_i hf;simp only[ct,Prod.mk.injEq]at h;obtain⟨rfl,rfl⟩:=h;unfold VR at hv;obtain⟨aQ,off,st,c,el,fz,e,_,hH,hl⟩:=hv;exact OO l aQ off st (ah l) c el fz hf e hH hl
 .rename_i b u off len
  cases hu:upto σ b u with
  |none=>simp[hu]at h
  |some B=>
   simp only[hu]at h;split at h
   case isFalse=>simp at h
   rename_i hle;simp only[ct,Prod.mk.injEq]at h;obtain⟨rfl,rfl⟩:=h;obtain⟨id,ho⟩:=kJ b u B (DQ hv) hu;obtain⟨_,e1,e3,e4⟩:=hg.mT b u B id ho;unfold VR at hv;have hv:=hv.2.2 B id ho;have hlen:ah ((B.cells.drop off).take (len*ba k))=len*ba k:=aT
   cases hs:B.st with
   |dead=>exact absurd hs e4
   |map es=>have:=AB hu;rw[hs]at this;simp[fR.isMap]at this
   |jN=>
    simp only[hs]at hv;obtain⟨rfl,rfl,rfl⟩:=hv;exact⟨[],⟨_,_,rfl⟩,yz 0,aA,aA,λi q h=>fE⟩
   |live=>
    simp only[hs]at hv;obtain⟨c,el,o,cap,g1,rfl,g3,g4,g5⟩:=hv;obtain⟨_,c', Da, n2,n3,n4⟩:=hg.live b u B id ho hs;rw[g1]at n2;simp only[ct,mw]at n2;obtain⟨rfl,rfl,_⟩:=n2
    by_cases h0:len=0
    .subst h0
     refine⟨[],⟨_,_,rfl⟩,?_,aA,aA,λi q h=>fE⟩
     intro w1 _;have:=run_loadCells (P:=P) w1 ⟨id,o,ab⟩ 0 (λ_=>undef) (λj hj=>absurd hj (Nat.not_lt_zero j));simpa[Builtin.firstCells]using this
    .obtain rfl:=g3 ax
     obtain⟨vals,k1,k2,k3⟩:=HB (P:=P) (cs:=(B.cells.drop o).take (len*ba k)) (off:=o) g1 (λi q hi=>by
      have cw:=(dp.1 hi).1;rw[hlen]at cw;rw[List.getElem?_take_of_lt cw,oB]at hi;exact n4 (o+i) q hi)
     exact⟨vals,⟨_,_,rfl⟩,λw1 h1=>by simp only[Builtin.firstCells];rw[<-hlen];exact k1 w1 h1,hlen,k2,k3⟩
def aas{x:AV}{b:UInt8}(h:byteOf x=aa b):∃n:Int,x = .ik 4 n/\(0<=n/\n<=255)/\b=UInt8.ofNat n.toNat:=by
 unfold byteOf at h;split at h
 .rename_i n
  split at h
  .rename_i a
   injection h with h
   exact⟨n,rfl,a,h.symm⟩
  .simp at h
 .simp at h
def OP{C:Ctx}{H:Array Obj}:∀{cs:ao}{s:List UInt8}{vals:List Value},bytesOf cs=aa s->ah vals=ah cs->(∀(i:Nat) q,cs[i]? = aa q->∃y,vals[i]? = aa y/\VR C H q y/\y.oneCell' = ad)->∃ns:ak,vals=ns.map (Value.int .u8)/\ns.map (λn=>UInt8.ofNat n.toNat)=s
 | [],s,vals,h,a,_=>by
  simp[bytesOf]at h;subst h;obtain rfl:=eK a;exact⟨[],rfl,rfl⟩
 |x::cs,s,vals,h,a,g=>by
  obtain⟨y,j,l,_⟩:=g 0 x rfl;cases vals with
  |nil=>simp at a
  |cons v vals=>
   simp at j;subst j;cases d:byteOf x with
   |none=>simp[bytesOf,d]at h
   |some b=>
   cases e:bytesOf cs with
   |none=>simp[bytesOf,d,e]at h
   |some w =>
    simp[bytesOf,d,e]at h;subst h;obtain⟨n,rfl,z,rfl⟩:=aas d;obtain⟨ns,o,p⟩:=OP e iQ (λi q r=>g (i+1) q r)
    unfold VR at l;obtain⟨K,m,u⟩:=l;rw[show kY 4=aa IntKind.u8 from rfl]at m;cases m
    exact⟨n::ns,by rw[o,u];rfl,by rw[<-p];rfl⟩
def OQ:∀(ns:ak) (b:ByteArray),ns.foldl (λr n=>r.push (UInt8.ofNat n.toNat)) b=⟨b.data++(ns.map λn=>UInt8.ofNat n.toNat).toArray⟩
 | [],b=>by simp
 |n::ns,b=>by
  rw[my,OQ ns];simp[ByteArray.push]
def OR{ce:CE}{σ:aq}{nl:Nat}{ps:List dd}{r:Rf->AV}{o:Oper}{s d:TypeId}{x:Operand}{y:Rf}{z:AV}{p:Option dd}{ρ:Operand->Value}(N:o.op = .convert s d x)
  (j:(match P.underlying s,P.underlying d with|some (.slice e),aa .string=>(match P.underlying e with|some (.int .u8)=>ad|_=>ae)|_,_=>ae)=ad) (O:Good C w) (D:∀b u B,C.lim b u->upto σ b u=aa B->∃id,C.own b u=aa (B,id)) (Q:VR C w.heap (r y) (ρ x)) (a:ev ce σ nl ps r (.DR y)=aa (z,p)):Plain P ρ o w C w.heap z/\p=ab:=by
 have R:∃e,P.underlying s=aa (.slice e)/\P.underlying d=aa .string/\P.underlying e=aa (.int .u8):=by
  split at j
  .rename_i e E l
   split at j
   .rename_i F;exact⟨e,E,l,F⟩
   .simp at j
  .simp at j
 obtain⟨e,M,hd,h⟩:=R;simp only[ev]at a;cases G:bw σ ab (r y)with
 |none=>rw[G]at a;simp at a
 |some q=>
  obtain⟨n,cs⟩:=q;rw[G]at a;simp only at a;cases H:bytesOf cs with
  |none=>rw[H]at a;simp at a
  |some S=>
   rw[H]at a;simp at a;obtain⟨T,U⟩:=a;subst T U;obtain⟨g,⟨q,m,V⟩,i,E,l,F⟩:=sL (P:=P) G O D Q;obtain⟨ns,I,J⟩:=OP H l F;have A:=i w rfl;have W:ah g=n:=by rw[l,E];simp[ba]
   refine⟨gk (s:=Go.convert s d (ρ x)) (v:=.string ⟨S.toArray⟩) (by simp only[execOp,N]) ?_ iy,rfl⟩
   rw[V]at A ⊢;cases q with
   |none=>
    rw[run_convert_bytes_string w s d e ab n m M h hd];have K:g=[]:=by
     simp only[Builtin.firstCells,bX,Result.ok.injEq,and_true]at A;simpa using A.symm
    rw[K]at I;have:ns=[]:=by simpa using I.symm
    subst this;simp at J;subst J;simp[Conv.bytesToString]
    rfl
   |some L=>
    rw[run_convert_bytes_string w s d e (aa L) n m M h hd];have X:(loadCells L n).run P w = .ok (ns.map (Value.int .u8)).toArray w:=by
     rw[<-I];simpa[Builtin.firstCells,ba]using A
    rw[run_bytesToString w L n m ns X,OQ];simp[J,ByteArray.empty,ByteArray.emptyWithCapacity]
    rfl
def OS (n:Nat):∀(m c:Nat),Builtin.growBy n m c<=2^m*(c+768)
 |0,c=>by simp[Builtin.growBy]
 |m+1,c=>by
  unfold Builtin.growBy;split
  .have:1*(c+768)<=2^(m+1)*(c+768):=mq _ (Nat.one_le_two_pow)
   omega
  .refine oC (OS n m _) ?_
   rw[Nat.pow_succ,Nat.mul_assoc];refine Nat.mul_le_mul_left _ ?_;omega
variable{cap:Nat}
def aat{a:Nat}(h:a<=1073741824) (d:cap<a):Builtin.nextslicecap a cap<=17179881472:=by
 unfold Builtin.nextslicecap;split
 .omega
 .split
  .omega
  .have b:Builtin.growBy a 4 cap<=16*(cap+768):=OS a 4 cap
   exact oC b (oC (Nat.mul_le_mul_left 16 (show cap+768<=1073742592 by omega)) cp)
variable{T T' ty:TypeId}{x:Value}{len m:Nat}{q base:Option Addr}{vals:List Value}
def HC{e:TypeId}(j:bF P T=aa e) (h : (bF P T').isSome=ad) (l:cg P e k=ad){n:Nat}{w' : World}
  (p:x = .slice q n m) (o:(Builtin.firstCells (ba k) n x).run P w = .ok vals.toArray w) (a:len+n<=cap)
  (d:∀b,base=aa b->(storeCells (b.add (len*ba k)) vals).run P w = .ok () w') (i:base=ab->w' = w) :
  (Builtin.append_ #[T,T'] ty #[.slice base len cap,x]).run P w = .ok (.slice base (len+n) cap) w' :=by
 obtain⟨r, g⟩:=vS.1 h;subst p;cases base with
 |none=>simp[Builtin.append_,oy j,oy g, mr (px l),Builtin.lenOf,a,o,i rfl]
 |some b=>
  have d:=d b rfl;simp[Builtin.append_,oy j,oy g, mr (px l),Builtin.lenOf,a,o,d]
def aau{e:TypeId}(K:bF P T=aa e) (r : (bF P T').isSome=ad) (J:cg P e k=ad) (j:gv P e=ad) (p:dD P e=ad){n:Nat}
  {olds:List Value} (L:x = .slice q n m) (M:∀a:World,a.heap=w.heap->(Builtin.firstCells (ba k) n x).run P a = .ok vals.toArray a) (N:∀a:World,a.heap=w.heap->(Builtin.firstCells (ba k) len (.slice base len cap)).run P a = .ok olds.toArray a)
  (s:cap<len+n) (O:len+n<=1073741824) :
  ∃(g:Nat) (rest:Array Value),len+n<=g/\rest.size=(g-(len+n))*ba k/\
   (Builtin.append_ #[T,T'] ty #[.slice base len cap,x]).run P w = .ok (.slice (aa ⟨w.heap.size,0,ab⟩) (len+n) g) (cF w.drew (.cells (olds.toArray++vals.toArray++rest) e)):=by
 obtain⟨V, u⟩:=vS.1 r;obtain⟨i,l,j⟩:=OI j;subst L;have y : ∃z,i.zero=aa z/\z.cells.size=ba k:=by
  unfold dD at p;simp only[l]at p;cases d:i.zero with
  |none=>simp[d]at p
  |some z=>
   simp[d]at p;have:=px J;simp[cS,l]at this;exact⟨z,rfl,ax⟩
 obtain⟨z,d,A⟩:=y;have B:∀a:World,(zeroValue e).run P a = .ok z a:=λa=>by
  simp only[zeroValue,bJ,run_typeInfo a l,bO,d,bX]
 have Q:¬(len+n<=cap):=ax
 have W:¬(((len+n:Nat):Int)>IntKind.i64.max):=by
  have:IntKind.i64.max=9223372036854775807:=cp
  rw[this];omega
 have X:¬(Builtin.nextslicecap (len+n) cap*i.bytes>2^48):=by
  have R:=aat O s;have S:Builtin.nextslicecap (len+n) cap*i.bytes<=17179881472*4096:=kH R j;have U:17179881472*4096<=2^48:=cp
  exact Nat.not_lt.2 (oC S U)
 let g:Nat:=(Question.appendCap (len+n) cap e).cut (w.tape w.drawn (.appendCap (len+n) cap e))
 have C:len+n<=g:=by show _<=_+_;omega
 have D:(choose (.appendCap (len+n) cap e)).run P w = .ok g w.drew:=by
  rfl
 have o:∀(b:Nat) (a:World),(askRoom b).run P a = .ok () a:=λb a=>by
  unfold askRoom;split<;>rfl
 have E:=mr (px J) (P:=P);refine⟨g,Builtin.zeroCells z.cells (g-(len+n)),C,?_,?_⟩
 .simp[Builtin.zeroCells,A]
 .have hold:=N w.drew rfl
  have F:=M w.drew rfl;have G : ¬((9223372036854775807:Int)<(len:Int)+(n:Int)):=ax
  have H:(Question.appendCap (len+n) cap e).forced=ae:=rfl;have I : Builtin.nextslicecap (len+n) cap*i.bytes<=281474976710656:=by
   have:(2:Nat)^48=281474976710656:=cp
   omega
  simp[Builtin.append_,oy K,oy u, E,Builtin.lenOf,Q,G, run_typeInfo w l,I, H,D,run_typeInfo w.drew l,o,hold,F,B,Av];rw[aC ax]
  have h:∀Z:Array Value,olds.toArray++(vals.toArray++Z)=(olds++vals).toArray++Z:=λZ=>by rw[<-Array.append_assoc];simp
  first
   |(rw[h];done)
   |(rw[h];rfl)
   |rfl
end
end Ab
set_option linter.all false
namespace Ab
open Go
variable{P:Program}
def kZ (w:World) (g:Nat) (c:Array Value){k:Nat}(h:k ≠ g):(w.setRow g c).heap[k]? = w.heap[k]?:=by
 simp only[World.setRow,ug];rw[aC ax]
def py (w:World) (g:Nat) (c:Array Value):(w.setRow g c).heap.size=w.heap.size:=by simp[World.setRow]
def OT{C:Ctx}{w:World}(l:Good C w){id:Nat}{c c' : Array Value}{el:TypeId}(h:owned C id) (j:w.heap[id]? = aa (.cells c el (0,0))) (m:c'.size=c.size) (C' : Ctx) (n:∀k,C.I k->C'.I k) (a:∀b u,C.lim b u->C'.lim b u)
  (d:∀b u B' i,C.lim b u->C'.own b u=aa (B', i)->∃B,C.own b u=aa (B,i)/\B.st=B'.st/\B.k=B'.k):gM C w.heap C' (w.setRow id c').heap:=by
 refine⟨n,λk o=>kZ w id c' λe=>l.aav h (e▸o),a,λb u B' i p r=>?_⟩;obtain⟨B,s,x,y⟩:=d b u B' i p r;refine⟨B,s,by rw[x],y,λq z g=>?_⟩
 by_cases e:i=id
 .subst e
  rw[j]at g;simp only[ct,mw]at g;obtain⟨rfl,rfl,_⟩:=g;exact⟨c', setRow_heap w i c c' el (0,0) j,m⟩
 .exact⟨q,by rw[kZ w id c' e];exact g,rfl⟩
section
variable{a:Act}{ρ:Operand->Value}{r:Rf->AV}{w:World}{C:Ctx}{R:Operand->Rf->Bool}{ce:CE}{σ:aq}{nl:Nat}{ps:List dd}
variable{o:Oper}{ca:Call}
def aaw{bi:Builtin}(b:o.op = .call ca) (d:ca.callee = .builtin bi) (w:World) :
  (execOp a.eval o).run P w=(builtin bi ca.argTypes o.type (ca.args.map fun | .const _=>ad|_=>ae) (ca.args.map a.eval)).run P w:=by
 simp only[execOp,b,resolve,d,bJ,bX,bO,invoke]
 rfl
def k8{s x:Operand}{t e : TypeId}{b:Value->World->Prop}{v:Value}{w' : World}(j:o.op = .call ca) (l:ca.callee = .builtin .append) (m:ca.args.toList=[s,x]) (g:ca.argTypes.toList=[t,e])
  (h:(Builtin.append_ #[t,e] o.type #[a.eval s,a.eval x]).run P w = .ok v w') (n:b v w'):cm P o a w b:=by
 have i : ca.args = #[s,x]:=by rw[<-Array.toList_inj];simpa using m
 have d : ca.argTypes = #[t,e]:=by rw[<-Array.toList_inj];simpa using g
 refine cm.val (v:=v) (w' :=w') ?_ n;rw[aaw j l];simp only[builtin,i, d, bJ];have:Array.map a.eval #[s,x] = #[a.eval s,a.eval x]:=aA
 rw[this,h];simp
variable{cs:ao}{vals:List Value}
def aax{cells:ao}{olds:List Value}{rest:Array Value}{H:Array Obj}(g:ah olds=ah cells) (m:ah vals=ah cs)
  (h:∀(i:Nat) q,cells[i]? = aa q->∃y,olds[i]? = aa y/\VR C H q y/\y.oneCell' = ad) (j:∀(i:Nat) q,cs[i]? = aa q->∃y,vals[i]? = aa y/\VR C H q y/\y.oneCell' = ad) :
  ah (cells++cs)<=(olds.toArray++vals.toArray++rest).size/\∀(i:Nat) q,(cells++cs)[i]? = aa q->∃y,(olds.toArray++vals.toArray++rest)[i]? = aa y/\VR C H q y/\y.oneCell' = ad:=by
 refine⟨aT,λi q a=>?_⟩
 have b:=(dp.1 a).1;simp at b;rw[mm aT]
 by_cases l:i<ah cells
 .rw[dq l]at a
  obtain⟨y,d,e⟩:=h i q a;exact⟨y,by rw[mm aT];simpa using d,e⟩
 .rw[dW ax]at a
  obtain⟨y,d,e⟩:=j _ q a;exact⟨y,by rw[vT aT];simpa[g]using d,e⟩
variable{B:aO}{b:Nat}{c:Array Value}{el:TypeId}
def aay(d:Good C w) (e:¬C.lim b (ah B.cells)) (a:B.st = .live) (hle:ah B.cells<=c.size) (g:∀(i:Nat) x,B.cells[i]? = aa x->∃y,c[i]? = aa y/\VR C w.heap x y/\y.oneCell' = ad) :
  Good (aU C b (ah B.cells) (B,w.heap.size)) (cF w.drew (.cells c el))/\Step C w (aU C b (ah B.cells) (B,w.heap.size)) (cF w.drew (.cells c el)):=by
 have h:Good C w.drew:=d.heap rfl;obtain⟨j,l⟩:=DG h B e c el a hle g;exact⟨j,(Step.heap (C:=C) (w:=w) (w' :=w.drew) rfl rfl ⟨rfl,Nat.le_succ _⟩ rfl).trans l⟩
def aaz{id:Nat}(m:Good C w) (D:C.own b (ah B.cells)=aa (B,id)) (E:B.st = .live) (H:¬C.lim b (ah (B.cells++cs)))
  (n:∀u' B' id', C.own b u' = aa (B', id')->u' = ah B.cells) (L:w.heap[id]? = aa (.cells c el (0,0))) (Y:ah B.cells+ah vals<=c.size) (yB:ah vals=ah cs)
  (hv:∀(i:Nat) q,cs[i]? = aa q->∃y,vals[i]? = aa y/\VR C w.heap q y/\y.oneCell' = ad) :
  Good (aU C b (ah (B.cells++cs)) (⟨B.k,B.cells++cs,.live⟩,id)) (w.setRow id (c.toList.take (ah B.cells)++vals++c.toList.drop (ah B.cells+ah vals)).toArray)/\
  Step C w (aU C b (ah (B.cells++cs)) (⟨B.k,B.cells++cs,.live⟩,id)) (w.setRow id (c.toList.take (ah B.cells)++vals++c.toList.drop (ah B.cells+ah vals)).toArray):=by
 have o:owned C id:=⟨b,_,B,D,mZ E⟩;generalize J : (c.toList.take (ah B.cells)++vals++c.toList.drop (ah B.cells+ah vals)).toArray=c';have Z:c'.size=c.size:=by subst J; simp;omega
 have r:∀i,c'[i]? = if (ah B.cells)<=i/\i<ah B.cells+ah vals then vals[i-ah B.cells]? else c[i]?:=λi=>by
  subst J;simp only[List.getElem?_toArray]
  by_cases P:i<ah B.cells
  .rw[aC ax,jg,dq aT,List.getElem?_take_of_lt P];simp
  .by_cases h2:i<ah B.cells+ah vals
   .rw[aD ⟨ax,h2⟩,dq aT,dW aT]
    congr 1;simp;omega
   .rw[aC ax,dW aT,oB]
    simp
    congr 1;omega
 have ev:=OT (c' :=c') m o L Z (aU C b (ah (B.cells++cs)) (⟨B.k,B.cells++cs,.live⟩,id)) (λ_ h=>h) (λ_ _ h=>.inr h) (λg u' B' i Q a =>by
  have s:¬(g = b/\u' = ah (B.cells++cs)):=λ⟨e1,e2⟩=>H (e1▸e2▸Q);simp only[aU,aC s]at a;exact⟨B', a, rfl,rfl⟩)
 obtain⟨n1,c0,el0,R,n3,n4⟩:=m.live b _ B id D E;rw[L]at R;simp only[ct,mw]at R;obtain⟨rfl,rfl,_⟩:=R;have j:(w.setRow id c').heap[id]? = aa (.cells c' el (0,0)):=setRow_heap w id c c' el (0,0) L;refine⟨⟨λk F=>by rw[py];exact m.I k F,λg u' B' i a =>?_,λg u' B' i a d =>?_,λb1 u1 B1 i1 b2 u2 B2 i2 k1 l1 k2 l2 s=>?_,λg u' B' i es a d =>?_⟩,
  ⟨ev,by rw[py];exact bG _,λk F S=>kZ w id c' λe=>S (e▸o),λk F=>?_,λk F=>.inl F,rfl,⟨rfl,bG _⟩,rfl⟩⟩
 .by_cases e:g = b/\u' = ah (B.cells++cs)
  .simp only[aU,aD e]at a
   simp at a; obtain⟨rfl,rfl⟩:=a;exact⟨.inl e,e.2,λh=>fE,aA⟩
  .simp only[aU,aC e]at a
   obtain⟨M,G,T,N⟩:=m.mT g u' B' i a;exact⟨.inr M,G,T,N⟩
 .by_cases e:g = b/\u' = ah (B.cells++cs)
  .simp only[aU,aD e]at a
   simp at a; obtain⟨rfl,rfl⟩:=a;refine⟨n1,c', el,j,by rw[Z];simp;omega,λi q p=>?_⟩
   rw[r]
   by_cases P:i<ah B.cells
   .have l : (B.cells++cs)[i]? = aa q:=p
    rw[dq P]at l;obtain⟨y,u,x,z⟩:=n4 i q l;exact⟨y,by rw[aC ax];exact u,VR.mono ev _ _ x,z⟩
   .have l : (B.cells++cs)[i]? = aa q:=p
    rw[dW ax]at l
    have U:=(dp.1 l).1;obtain⟨y,u,x,z⟩:=hv _ q l;exact⟨y,by rw[aD ⟨ax,ax⟩];exact u,VR.mono ev _ _ x,z⟩
  .simp only[aU,aC e]at a
   obtain⟨M,c1,V,G,T,N⟩:=m.live g u' B' i a d
   by_cases p:i=id
   .subst p
    have A:g = b:=Decidable.byContradiction λh=>m.apart g u' B' i b _ B i a (mZ d) D (mZ E) h rfl;subst A;have hu:=n u' B' i a;have hlen:=(m.mT g u' B' i a).2.1;rw[L]at G;simp only[ct,mw]at G;obtain⟨rfl,rfl,_⟩:=G;refine⟨M,c', el,j,ax,λW q O=>?_⟩
    have U:=(dp.1 O).1;obtain⟨y,u,x,z⟩:=N W q O;exact⟨y,by rw[r,aC ax];exact u,VR.mono ev _ _ x,z⟩
   .refine⟨M,c1,V,by rw[kZ w id c' p];exact G,T,λW q O=>?_⟩
    obtain⟨y,u,x,z⟩:=N W q O;exact⟨y,u,VR.mono ev _ _ x,z⟩
 .have hb:∀g u' B' i,(aU C b (ah (B.cells++cs)) (⟨B.k,B.cells++cs,.live⟩,id)).own g u' = aa (B', i)->B'.st.kI=ad->∃X K, C.own g X = aa (K, i)/\K.st.kI=ad:=by
   intro g u' B' i a d
   by_cases e:g = b/\u' = ah (B.cells++cs)
   .simp only[aU,aD e]at a
    simp at a; obtain⟨rfl,rfl⟩:=a;exact⟨_,B,by rw[e.1];exact D,mZ E⟩
   .simp only[aU,aC e]at a
    exact⟨u', B', a, d⟩
  obtain⟨_,_,q1,q2⟩:=hb b1 u1 B1 i1 k1 l1;obtain⟨_,_,q3,q4⟩:=hb b2 u2 B2 i2 k2 l2;exact m.apart _ _ _ _ _ _ _ _ q1 q2 q3 q4 s
 .by_cases e:g = b/\u' = ah (B.cells++cs)
  .simp only[aU,aD e]at a
   simp at a; obtain⟨rfl,rfl⟩:=a;simp at d
  .simp only[aU,aC e]at a
   have p:i ≠ id:=λp=>by
    subst p;have A:g = b:=Decidable.byContradiction λh=>m.apart g u' B' i b _ B i a (mW d) D (mZ E) h rfl;subst A;have hu:=n u' B' i a;rw[hu,D]at a;simp at a;rw[<-a, E]at d;simp at d
   exact m.dK (C' :=aU C b (ah (B.cells++cs)) (⟨B.k,B.cells++cs,.live⟩,id)) ev a d (kZ w id c' p) (m.maps g u' B' i es a d).1
 .obtain⟨g, u', B', a, d⟩:=F
  by_cases e:g = b/\u' = ah (B.cells++cs)
  .simp only[aU,aD e]at a
   simp at a; obtain⟨rfl,rfl⟩:=a;exact .inl o
  .simp only[aU,aC e]at a
   exact .inl ⟨g, u', B', a, d⟩
end
end Ab
set_option linter.all false
namespace Ab
open Go
variable{P:Program}
def Good.shrink{C C2:Ctx}{w:World}(hg:Good C w) (hI:C2.I=C.I) (dF:∀b u e,C2.own b u=aa e->C.own b u=aa e) (jh:∀b u,C.lim b u->C2.lim b u):Good C2 w/\Step C w C2 w:=by
 have ev:gM C w.heap C2 w.heap:=⟨λk h=>by rw[hI];exact h,λ_ _=>rfl,jh,λb u B' id _ ho=>⟨B', dF _ _ _ ho,rfl,rfl,λc el hc=>⟨c,hc,rfl⟩⟩⟩
 refine⟨⟨by rw[hI];exact hg.I,λb u B id ho=>?_,λb u B id ho hl=>?_,λb1 u1 B1 i1 b2 u2 B2 i2 h1 l1 h2 l2 fg=>hg.apart _ _ _ _ _ _ _ _ (dF _ _ _ h1) l1 (dF _ _ _ h2) l2 fg,λb u B id es ho hl=>hg.dK ev (dF _ _ _ ho) hl rfl (by rw[hI];exact(hg.maps b u B id es (dF _ _ _ ho) hl).1)⟩,
  ⟨ev,bG _,λ_ _ _=>rfl,λk ⟨b,u,B,ho,hl⟩=>.inl ⟨b,u,B,dF _ _ _ ho,hl⟩,λk h=>.inl (by rw[hI]at h;exact h),rfl,⟨rfl,bG _⟩,rfl⟩⟩
 .obtain⟨h1,h2,h3,h4⟩:=hg.mT b u B id (dF _ _ _ ho)
  exact⟨jh _ _ h1,h2,h3,h4⟩
 .obtain⟨h1,c,el,h2,h3,h4⟩:=hg.live b u B id (dF _ _ _ ho) hl
  refine⟨by rw[hI];exact h1,c,el,h2,h3,λi x hi=>?_⟩
  obtain⟨y,k1,k2,k3⟩:=h4 i x hi;exact⟨y,k1,VR.mono ev _ _ k2,k3⟩
section
variable{a:Act}{ρ:Operand->Value}{r:Rf->AV}{w:World}{C:Ctx}{R:Operand->Rf->Bool}{ce:CE}{σ:aq}{nl:Nat}{ps:List dd}
variable{T T' ty:TypeId}{k:Option Nat}{X:AV}{vx:Value}{cs:ao}{b len:Nat}
def sM{e:TypeId}{k0:Option Nat}(I:bF P T=aa e) (j : (bF P T').isSome=ad) (J:cg P e k=ad) (l:gv P e=ad) (K:dD P e=ad){n:Nat}{cells:ao}(E:Good C w)
  (o:∀b u B,C.lim b u->upto σ b u=aa B->∃id,C.own b u=aa (B,id)) (d:bw σ k X=aa (n,cs)) (L:VR C w.heap X vx) {cap:Nat} {base:Option Addr} {olds:List Value} (M:¬C.lim b (ah (cells++cs))) (p:ba k0=ba k)
  (hlen:ah cells=len*ba k) (r:ah olds=ah cells) (hold:∀s:World,s.heap=w.heap->(Builtin.firstCells (ba k) len (.slice base len cap)).run P s = .ok olds.toArray s)
  (x:∀(i:Nat) q,cells[i]? = aa q->∃y,olds[i]? = aa y/\VR C w.heap q y/\y.oneCell' = ad) (z:cap<len+n) (g:len+n<=eE) :
  ∃v w' id', (Builtin.append_ #[T,T'] ty #[.slice base len cap,vx]).run P w = .ok v w' /\Good (aU C b (ah (cells++cs)) (⟨k0,cells++cs,.live⟩,id')) w' /\Step C w (aU C b (ah (cells++cs)) (⟨k0,cells++cs,.live⟩,id')) w' /\
    VR (aU C b (ah (cells++cs)) (⟨k0,cells++cs,.live⟩,id')) w'.heap (.sl b (ah (cells++cs)) 0 (len+n)) v:=by
 obtain⟨h,⟨q,m,A⟩,N,O,D,a⟩:=sL (P:=P) d E o L;obtain⟨F,rest,G,Y,Q⟩:=aau (P:=P) (w:=w) (ty:=ty) (olds:=olds) I j J l K A N hold z g;obtain⟨R,S⟩:=aax (rest:=rest) (C:=C) (H:=w.heap) r D x a;have Z:ah (⟨k0,cells++cs,.live⟩:aO).cells=ah (cells++cs):=rfl;obtain⟨U,V⟩:=aay (b:=b) (B:=⟨k0,cells++cs,.live⟩) (c:=olds.toArray++h.toArray++rest) (el:=e) E M rfl R S;refine⟨_,_,w.heap.size,Q,U,V,yu (B:=⟨k0,cells++cs,.live⟩) (id:=w.heap.size) (by simp[aU]) (.inl ⟨rfl,rfl⟩) rfl (qf w.drew _) G ?_⟩
 simp only[p];have W:(F-(len+n))*ba k+(len+n)*ba k=F*ba k:=by rw[<-Nat.add_mul,Nat.sub_add_cancel G]
 rw[fG len n]at W;simp;omega
def OU{e:TypeId}(Q:bF P T=aa e) (x : (bF P T').isSome=ad) (R:cg P e k=ad) (E:gv P e=ad) (Z:dD P e=ad){n:Nat}(F:Good C w)
  (z:∀b u B,C.lim b u->upto σ b u=aa B->∃id,C.own b u=aa (B,id)) (g:bw σ k X=aa (n,cs)) (S:VR C w.heap X vx)  {vs:Value} {B:aO} {id:Nat} (U:C.own b (ah B.cells)=aa (B,id)) (V:ah B.cells=len*ba k) (p:ba B.k=ba k)
  (G:VR C w.heap (.sl b (ah B.cells) 0 len) vs) (hn:0<n) (D:len+n<=eE) (K:B.st.isMap=ae) (H:¬C.lim b (ah (B.cells++cs))) (I:∀u' B' id', C.own b u' = aa (B', id')->u' = ah B.cells) :
  ∃v w' id', (Builtin.append_ #[T,T'] ty #[vs,vx]).run P w = .ok v w' /\Good (aU C b (ah (B.cells++cs)) (⟨B.k,B.cells++cs,.live⟩,id')) w' /\Step C w (aU C b (ah (B.cells++cs)) (⟨B.k,B.cells++cs,.live⟩,id')) w' /\
    VR (aU C b (ah (B.cells++cs)) (⟨B.k,B.cells++cs,.live⟩,id')) w'.heap (.sl b (ah (B.cells++cs)) 0 (len+n)) v:=by
 obtain⟨_,_,e3,e4⟩:=F.mT b _ B id U;unfold VR at G;have G:=G.2.2 B id U;cases d:B.st with
 |dead=>exact absurd d e4
 |map es=>rw[d]at K;simp[fR.isMap]at K
 |jN=>
  simp only[d]at G;obtain⟨_,rfl,rfl⟩:=G;have l:=e3 d;have:=sM (P:=P) (σ:=σ) (cells:=B.cells) (k0:=B.k) (b:=b) (len:=0) (cap:=0) (base:=ab) (olds:=[]) (ty:=ty) Q x R E Z F z g S H p (by rw[l];simp) (by rw[l];rfl) (λW _=>by simp[Builtin.firstCells]) (by rw[l];simp) ax ax
  simpa using this
 |live=>
  simp only[d]at G;obtain⟨c,el,o,cap,L,rfl,g3,g4,g5⟩:=G;obtain⟨_,c', Da, n2,n3,n4⟩:=F.live b _ B id U d;rw[L]at n2;simp only[ct,mw]at n2;obtain⟨rfl,rfl,_⟩:=n2
  by_cases r:len+n<=cap
  .have M:0<cap:=by omega
   have ho0:=g3 M;subst ho0;obtain⟨a,⟨q,m,hvx⟩,hf,sN,yB,s⟩:=sL (P:=P) g F z S;have J : ah B.cells+ah a<=c.size:=by
    have:(len+n)*ba k<=cap*ba k:=mq _ r;rw[fG]at this;rw[p]at g5;omega
   obtain⟨p1,p2⟩:=aaz F U d H I L J yB s;have N:∀v∈a,v.oneCell' = ad:=λv hv=>by
    obtain⟨i,Y⟩:=List.getElem?_of_mem hv;have cw:=(dp.1 Y).1;obtain⟨y,m1,m2,m3⟩:=s i cs[i] (dG ax)
    rw[Y]at m1;simp at m1;subst m1;exact m3
   have A:=run_storeCells_at P id (ah B.cells) el a 0 c w L ax N
   have O:=HC (P:=P) (w:=w) (ty:=ty) (base:=aa ⟨id,0,ab⟩) Q x R hvx (hf w rfl) r (λb H=>by
    simp at H;subst H;rw[sK,gQ,<-V];exact A) (λh=>fE)
   refine⟨_,_,id,O,p1,p2,?_⟩;have yD : (w.setRow id (c.toList.take (ah B.cells)++a++c.toList.drop (ah B.cells+ah a)).toArray).heap[id]? = aa (.cells _ el (0,0)):=setRow_heap w id c _ el (0,0) L;refine yu (B:=⟨B.k,B.cells++cs,.live⟩) (id:=id) (by simp[aU]) (.inl ⟨rfl,rfl⟩) rfl yD r ?_
   rw[p]at g5 ⊢;simp only[List.size_toArray,bM,pA,List.length_drop,pB];omega
  .by_cases h0:len=0
   .subst h0
    have l:B.cells=[]:=eK ax
    refine sM (P:=P) (σ:=σ) (cells:=B.cells) (k0:=B.k) (b:=b) (olds:=[]) (ty:=ty) Q x R E Z F z g S H p V (by rw[l];rfl) (λW h1=>?_) (by rw[l];simp) ax D
    have:=run_loadCells (P:=P) W ⟨id,o,ab⟩ 0 (λ_=>undef) (λj hj=>absurd hj (Nat.not_lt_zero j));simpa[Builtin.firstCells]using this
   .obtain rfl:=g3 ax
    obtain⟨olds,k1,k2,k3⟩:=HB (P:=P) (cs:=B.cells) (off:=0) L (λi q Y=>by rw[gQ];exact n4 i q Y)
    exact sM (P:=P) (σ:=σ) (cells:=B.cells) (k0:=B.k) (b:=b) (olds:=olds) (ty:=ty) Q x R E Z F z g S H p V k2 (λW h1=>by simp only[Builtin.firstCells];rw[<-V];exact k1 W h1) k3 ax D
end
end Ab
namespace Ab
open Go
variable{P:Program}
section
variable{a:Act}{ρ:Operand->Value}{r:Rf->AV}{w:World}{C:Ctx}{R:Operand->Rf->Bool}{ce:CE}{σ:aq}{nl:Nat}{ps:List dd}
def DS{a b:Option Nat}(h:vD a b=ad):a=b:=by
 cases a<;>cases b<;>simp[vD]at h<;>simp[h]
variable{k:Option Nat}
def uh{T p e:TypeId}(s:bF P T=aa e) (h : (bF P p).isSome=ad) (x:cg P e k=ad){ty:TypeId}{X:AV}{r vs:Value}{cs:ao}(y:Good C w)
  (i:∀b u B,C.lim b u->upto σ b u=aa B->∃id,C.own b u=aa (B,id)) (d:bw σ k X=aa (0,cs)) (z:VR C w.heap X r) (A:∃a l c,vs = .slice a l c/\l<=c) :
  (Builtin.append_ #[T,p] ty #[vs,r]).run P w = .ok vs w:=by
 obtain⟨base,l,c,rfl,D⟩:=A;obtain⟨g,⟨q,m,j⟩,E,F,G,n⟩:=sL (P:=P) d y i z;have o:g=[]:=eK ax
 subst o;have:=HC (P:=P) (w:=w) (w' :=w) (ty:=ty) (base:=base) (len:=l) (cap:=c) s h x j (E w rfl) ax (λb _=>rfl) (λ_=>rfl)
 simpa using this
def aaA{o:Oper}{ca:Call}{s x:Operand}{t t' e:TypeId}{s' x' : Rf}{z:AV}{p:Option dd}(ho:o.op = .call ca) (hc:ca.callee = .builtin .append) (ha:ca.args.toList=[s,x]) (na:ca.argTypes.toList=[t,t'])
  (ht:bF P t=aa e) (od : (bF P t').isSome=ad) (hk:cg P e k=ad) (xD:gv P e=ad) (hz:dD P e=ad) (hg:Good C w)
  (kJ:∀b u B,C.lim b u->upto σ b u=aa B->∃id,C.own b u=aa (B,id)) (hb:∀u,¬C.lim nl u)
  (hgr:∀b u B cs,upto σ b u=aa B->p=aa (.grow b cs)->qj b ps=ae->(∀n,u<n->¬C.lim b n)/\∀u' B' id', C.own b u' = aa (B', id')->u' = u)
  (hs:VR C w.heap (r s') (a.eval s)) (hx:VR C w.heap (r x') (a.eval x)) (he:ev ce σ nl ps r (.app s' x' k)=aa (z,p)):cm P o a w (jR nl C w z p):=by
 simp only[ev]at he;cases gR:bw σ k (r x')with
 |none=>simp[gR]at he
 |some ncs=>
  obtain⟨n,cs⟩:=ncs;simp only[gR]at he;cases j8 : r s' <;>simp only[j8]at he<;>try(simp at he;done)
  .-- nil
   rw[j8]at hs;have hv:a.eval s = .slice ab 0 0:=hs
   by_cases hn:n=0
   .subst hn
    simp at he;obtain⟨rfl,rfl⟩:=he;refine k8 ho hc ha na (uh ht od hk hg kJ gR hx ⟨ab,0,0,hv,bG 0⟩) ?_;exact(dL.same hg (by rw[hv];exact rfl)).e
   .have mz : (n==0)=ae:=by simpa using hn
    simp only[mz, ff,fv]at he;split at he
    case isFalse=>simp at he
    rename_i qk;simp only[ct,Prod.mk.injEq]at he;obtain⟨rfl,rfl⟩:=he;obtain⟨v,w', id', h1,h2,h3,h4⟩:=sM (P:=P) (σ:=σ) (cells:=[]) (k0:=k) (b:=nl) (len:=0) (cap:=0) (base:=ab) (olds:=[]) (ty:=o.type) ht od hk xD hz hg kJ gR hx (hb _) rfl aA rfl (λw1 _=>by simp[Builtin.firstCells]) aA ax ax
    rw[<-hv]at h1;simp only[rB,gQ]at h2 h3 h4;exact k8 ho hc ha na h1 ⟨_,h2,h3,h4,id', rfl,rfl⟩
  .-- an empty slice Zh room
   rw[j8]at hs;have vU:=hs;unfold VR at hs;obtain⟨a0,hv⟩:=hs
   by_cases hn:n=0
   .subst hn
    simp at he;obtain⟨rfl,rfl⟩:=he;refine k8 ho hc ha na (uh ht od hk hg kJ gR hx ⟨_,_,_,hv,bG 0⟩) ?_;exact(dL.same hg vU).e
   .have mz : (n==0)=ae:=by simpa using hn
    simp only[mz, ff,fv]at he;split at he
    case isFalse=>simp at he
    rename_i qk;simp only[ct,Prod.mk.injEq]at he;obtain⟨rfl,rfl⟩:=he;obtain⟨olds,_,k1,k2,k3,k4⟩:=sL (P:=P) (σ:=σ) (k:=k) (X:=.emp) (v:=a.eval s) (n:=0) (cs:=[]) (by simp[bw]) hg kJ vU
    rw[hv]at k1;obtain⟨v,w', id', h1,h2,h3,h4⟩:=sM (P:=P) (σ:=σ) (cells:=[]) (k0:=k) (b:=nl) (len:=0) (cap:=0) (base:=a0) (olds:=olds) (ty:=o.type) ht od hk xD hz hg kJ gR hx (hb _) rfl k2 k3 k1 k4 ax ax
    rw[<-hv]at h1;simp only[rB,gQ]at h2 h3 h4;exact k8 ho hc ha na h1 ⟨_,h2,h3,h4,id', rfl,rfl⟩
  .-- a literal
   rename_i l;rw[j8]at hs;have vU:=hs;unfold VR at hs;obtain⟨aQ,off,st,c,el,fz,hv,hI,hH,hl⟩:=hs
   by_cases hn:n=0
   .subst hn
    simp at he;obtain⟨rfl,rfl⟩:=he;refine k8 ho hc ha na (uh ht od hk hg kJ gR hx ⟨_,_,_,hv,bG _⟩) ?_;refine(dL.same hg ?_).e;split
    .rename_i Db
     unfold VR;exact⟨Db,.inr ⟨aQ,off,ah l,st,c,el,fz,hv,bG _,hI,hH,hl⟩⟩
    .exact vU
   .have mz : (n==0)=ae:=by simpa using hn
    simp only[mz, ff,fv]at he;split at he
    case isFalse=>simp at he
    rename_i iP;simp only[bd,fy]at iP;simp only[ct,Prod.mk.injEq]at he;obtain⟨rfl,rfl⟩:=he;obtain⟨olds,_,k1,k2,k3,k4⟩:=sL (P:=P) (σ:=σ) (k:=k) (X:=.arr l) (v:=a.eval s) (n:=ah l) (cs:=l.flatMap AV.cells) (by simp only[bw,iP.1,dM]) hg kJ vU
    rw[hv]at k1;obtain⟨v,w', id', h1,h2,h3,h4⟩:=sM (P:=P) (σ:=σ) (cells:=l.flatMap AV.cells) (k0:=k) (b:=nl) (olds:=olds) (ty:=o.type) ht od hk xD hz hg kJ gR hx (hb _) rfl k2 k3 k1 k4 ax iP.2
    rw[<-hv]at h1;exact k8 ho hc ha na h1 ⟨_,h2,h3,h4,id', rfl,rfl⟩
  .-- an owned slice
   rename_i b u off len;cases hu:upto σ b u with
   |none=>simp[hu]at he
   |some B=>
    simp only[hu]at he;split at he
    case isFalse=>simp at he
    rename_i iP;simp only[bd,dA,fy,Bool.not_eq_true']at iP;obtain⟨⟨⟨⟨rfl,ui⟩,qk⟩,aaB⟩,AD⟩:=iP;have AD:=DS AD;rw[j8]at hs;obtain⟨id,dF⟩:=kJ b u B (DQ hs) hu;have aaC :=(hg.mT b u B id dF).2.1
    by_cases hn:n=0
    .subst hn
     simp at he;obtain⟨rfl,rfl⟩:=he;have Ac:∃a' l' c', a.eval s = .slice a' l' c' /\l' <=c' :=by
      unfold VR at hs;obtain⟨⟨q,c,e1,e2,_⟩,_⟩:=hs;exact⟨_,_,_,e1,e2⟩
     exact k8 ho hc ha na (uh ht od hk hg kJ gR hx Ac) (dL.same hg hs).e
    .have mz : (n==0)=ae:=by simpa using hn
     simp only[mz, ff,fv]at he;split at he
     case isTrue=>simp at he
     rename_i vE;simp at vE;simp only[ct,Prod.mk.injEq]at he;obtain⟨rfl,rfl⟩:=he;subst aaC;obtain⟨q1,q2⟩:=hgr b _ B cs hu rfl aaB;have cw:ah B.cells<ah (B.cells++cs):=by
      have:0<ah cs:=nc.2 vE;simp;omega
     obtain⟨v,w', id', h1,h2,h3,h4⟩:=OU (P:=P) (σ:=σ) (ty:=o.type) ht od hk xD hz hg kJ gR hx dF ui (by rw[AD]) hs ax qk (AB hu) (q1 _ cw) q2
     have e1:ah B.cells+ah cs=ah (B.cells++cs):=aA
     rw[e1];exact k8 ho hc ha na h1 ⟨_,h2,h3,h4,B,id,id', vE,dF,rfl,rfl⟩
end
end Ab
set_option linter.all false
namespace Ab
open Go
variable{P:Program}
def k9 (σ:aq) (ids:Nat->Nat) (I:Nat->Prop) (w:World) (x:AV) (b : aq) (v:Value) (w' : World):Prop:=
 ∃a d, Good (aI b a d) w' /\Step (aI σ ids I) w (aI b a d) w' /\VR (aI b a d) w'.heap x v
def OV{c:Array Value}{off:Nat}{vals:List Value}(a:off+ah vals<=c.size) :
  (c.toList.take off++vals++c.toList.drop (off+ah vals)).toArray.size=c.size/\∀i,(c.toList.take off++vals++c.toList.drop (off+ah vals)).toArray[i]? = if off<=i/\i<off+ah vals then vals[i-off]? else c[i]?:=by
 refine⟨aT,λi=>?_⟩
 simp only[List.getElem?_toArray]
 by_cases b:i<off
 .rw[aC ax,jg,dq aT,List.getElem?_take_of_lt b];simp
 .by_cases d:i<off+ah vals
  .rw[aD ⟨ax,d⟩,dq aT,dW aT]
   congr 1;simp;omega
  .rw[aC ax,dW aT,oB]
   simp
   congr 1;omega
section
variable{a:Act}{ρ:Operand->Value}{r:Rf->AV}{w:World}{C:Ctx}{R:Operand->Rf->Bool}{ce:CE}{σ:aq}{nl:Nat}{ps:List dd}
variable{B:aO}{b id:Nat}
def yE{off:Nat}{new:ao}{c:Array Value}{el:TypeId}{vals:List Value}(n:Good C w) (A:C.own b (ah B.cells)=aa (B,id)) (K:B.st = .live)
  (o:∀u' B' id', C.own b u' = aa (B', id')->u' = ah B.cells) (S:w.heap[id]? = aa (.cells c el (0,0))) (m:off+ah new<=ah B.cells) (yB:ah vals=ah new)
  (hv:∀(i:Nat) q,new[i]? = aa q->∃y,vals[i]? = aa y/\VR C w.heap q y/\y.oneCell' = ad) :
  Good {C with own:=λd u' =>if d = b/\u' = ah B.cells then aa (⟨B.k,putAt B.cells off new,B.st⟩,id)else C.own d u'} (w.setRow id (c.toList.take off++vals++c.toList.drop (off+ah vals)).toArray)/\
  Step C w {C with own:=λd u' =>if d = b/\u' = ah B.cells then aa (⟨B.k,putAt B.cells off new,B.st⟩,id)else C.own d u'} (w.setRow id (c.toList.take off++vals++c.toList.drop (off+ah vals)).toArray):=by
 have D:owned C id:=⟨b,_,B,A,mZ K⟩;obtain⟨n1,c0,el0,T,n3,n4⟩:=n.live b _ B id A K;rw[S]at T;simp only[ct,mw]at T;obtain⟨rfl,rfl,_⟩:=T;obtain⟨hs,L⟩:=OV (c:=c) (off:=off) (vals:=vals) ax
 generalize (c.toList.take off++vals++c.toList.drop (off+ah vals)).toArray=c' at *;obtain⟨pl,pg⟩:=uj B.cells new off m;obtain⟨_,_,M,U⟩:=n.mT b _ B id A;generalize G : ({C with own:=λd u' =>if d = b/\u' = ah B.cells then aa (⟨B.k,putAt B.cells off new,B.st⟩,id)else C.own d u'}:Ctx)=N
 have j : ∀d u', N.own d u' = if d = b/\u' = ah B.cells then aa (⟨B.k,putAt B.cells off new,B.st⟩,id)else C.own d u' :=λd u' =>by subst G; rfl
 have p : N.I=C.I:=by subst G; rfl
 have r : N.lim=C.lim:=by subst G; rfl
 have ev:=OT (c' :=c') n D S hs N (λk h=>by rw[p];exact h) (λb u h=>by rw[r];exact h) (λd u' B' i NJ a =>by
  rw[j]at a
  by_cases e:d = b/\u' = ah B.cells
  .rw[aD e]at a
   simp at a; obtain⟨rfl,rfl⟩:=a;exact⟨B,by rw[e.1,e.2];exact A,rfl,rfl⟩
  .rw[aC e]at a
   exact⟨B', a, rfl,rfl⟩)
 have x:(w.setRow id c').heap[id]? = aa (.cells c' el (0,0)):=setRow_heap w id c c' el (0,0) S;have l:∀d u' B' i,N.own d u' = aa (B', i)->B'.st.kI=ad->∃H z, C.own d H = aa (z, i)/\z.st.kI=ad:=by
  intro d u' B' i a g;rw[j]at a
  by_cases e:d = b/\u' = ah B.cells
  .rw[aD e]at a
   simp at a; obtain⟨rfl,rfl⟩:=a;exact⟨_,B,by rw[e.1];exact A,mZ K⟩
  .rw[aC e]at a
   exact⟨u', B', a, g⟩
 refine⟨⟨λk E=>by rw[py];rw[p]at E;exact n.I k E,λd u' B' i a =>?_,λd u' B' i a g =>?_,λb1 u1 B1 i1 b2 u2 B2 i2 k1 l1 k2 l2 V=>?_,λd u' B' i es a g =>?_⟩,
  ⟨ev,by rw[py];exact bG _,λk E W=>kZ w id c' λe=>W (e▸D),λk E=>?_,λk E=>.inl (by rw[p]at E;exact E),rfl,⟨rfl,bG _⟩,rfl⟩⟩
 .rw[r]
  rw[j]at a
  by_cases e:d = b/\u' = ah B.cells
  .rw[aD e]at a
   simp at a; obtain⟨rfl,rfl⟩:=a;refine⟨by rw[e.1,e.2];exact(n.mT b _ B id A).1,by rw[e.2];exact pl.symm,λh=>?_,U⟩
   have h0:=M h;have:new=[]:=by
    have:ah new=0:=by rw[h0]at m;simp at m;simp[m]
    exact eK this
   have hz:ah (putAt B.cells off new)=0:=by rw[pl,h0];rfl
   exact eK hz
  .rw[aC e]at a
   exact n.mT d u' B' i a
 .rw[p]
  rw[j]at a
  by_cases e:d = b/\u' = ah B.cells
  .rw[aD e]at a
   simp at a; obtain⟨rfl,rfl⟩:=a;refine⟨n1,c', el,x,by rw[hs];show(ah (putAt B.cells off new))<=_;omega,λi q F=>?_⟩
   have s : (putAt B.cells off new)[i]? = aa q:=F;rw[pg]at s;rw[L]
   by_cases O:off<=i/\i<off+ah new
   .rw[aD O]at s
    obtain⟨y,P,Q,R⟩:=hv _ q s;exact⟨y,by rw[aD ax];exact P,VR.mono ev _ _ Q,R⟩
   .rw[aC O]at s
    obtain⟨y,P,Q,R⟩:=n4 i q s;exact⟨y,by rw[aC ax];exact P,VR.mono ev _ _ Q,R⟩
  .rw[aC e]at a
   obtain⟨j1,c1,X,j2,j3,j4⟩:=n.live d u' B' i a g
   by_cases F:i=id
   .subst F
    have J:d = b:=Decidable.byContradiction λh=>n.apart d u' B' i b _ B i a (mZ g) A (mZ K) h rfl;subst J;exact absurd ⟨rfl,o u' B' i a⟩ e
   .refine⟨j1,c1,X,by rw[kZ w id c' F];exact j2,j3,λi' q hq=>?_⟩
    obtain⟨y,P,Q,R⟩:=j4 i' q hq;exact⟨y,P,VR.mono ev _ _ Q,R⟩
 .obtain⟨_,_,Y,Z⟩:=l b1 u1 B1 i1 k1 l1
  obtain⟨_,_,q3,q4⟩:=l b2 u2 B2 i2 k2 l2;exact n.apart _ _ _ _ _ _ _ _ Y Z q3 q4 V
 .rw[j]at a
  by_cases e:d = b/\u' = ah B.cells
  .rw[aD e]at a
   simp at a; obtain⟨rfl,rfl⟩:=a;rw[show(⟨B.k,putAt B.cells off new,B.st⟩:aO).st=B.st from rfl,K]at g;simp at g
  .rw[aC e]at a
   have F:i ≠ id:=λF=>by
    subst F;have J:d = b:=Decidable.byContradiction λh=>n.apart d u' B' i b _ B i a (mW g) A (mZ K) h rfl;subst J;exact e ⟨rfl,o u' B' i a⟩
   exact n.dK ev a g (kZ w id c' F) (by rw[p];exact(n.maps d u' B' i es a g).1)
 .obtain⟨d, u', B', a, g⟩:=E
  obtain⟨H, z, Y,Z⟩:=l d u' B' k a g;exact .inl ⟨d, H, z, Y,Z⟩
variable{es Ad: List (AV×AV)}{l l': Array MapEntry}
def OW{clock clock' : Nat}(x:Good C w) (G:C.own b 0=aa (B,id)) (K:B.st = .map es)
  (A:∀u' B' id', C.own b u' = aa (B', id')->u' = 0) (P:w.heap[id]? = aa (.map l clock)) (Z:MR C w.heap Ad l'.toList) :
  Good {C with own:=λd u' =>if d = b/\u' = 0 then aa (⟨B.k,B.cells,.map Ad⟩,id)else C.own d u'} {w with heap:=w.heap.setIfInBounds id (.map l' clock')}/\
  Step C w {C with own:=λd u' =>if d = b/\u' = 0 then aa (⟨B.k,B.cells,.map Ad⟩,id)else C.own d u'} {w with heap:=w.heap.setIfInBounds id (.map l' clock')}:=by
 have L:owned C id:=⟨b,_,B,G,mW K⟩;obtain⟨Y,_⟩:=x.maps b _ B id es G K;obtain⟨M,m⟩:=Go.MapKept.heap_set (o' :=.map l' clock') P;have N:(w.heap.setIfInBounds id (.map l' clock')).size=w.heap.size:=aA
 generalize w.heap.setIfInBounds id (.map l' clock')=H at *;obtain⟨e1,e2,_,_⟩:=x.mT b _ B id G;generalize D : ({C with own:=λd u' =>if d = b/\u' = 0 then aa (⟨B.k,B.cells,.map Ad⟩,id)else C.own d u'}:Ctx)=O
 have j : ∀d u', O.own d u' = if d = b/\u' = 0 then aa (⟨B.k,B.cells,.map Ad⟩,id)else C.own d u' :=λd u' =>by subst D; rfl
 have o : O.I=C.I:=by subst D; rfl
 have p : O.lim=C.lim:=by subst D; rfl
 have E:∀k,C.I k->H[k]? = w.heap[k]?:=λk s=>m k λe=>Y (e▸s);have ev:gM C w.heap O H :=by
  refine⟨λk h=>by rw[o];exact h,E,λb u h=>by rw[p];exact h,λd u' B' i NJ a =>?_⟩
  rw[j]at a
  by_cases e:d = b/\u' = 0
  .rw[aD e]at a
   simp at a; obtain⟨rfl,rfl⟩:=a;refine⟨B,by rw[e.1,e.2];exact G,by rw[K];rfl,rfl,λc el J=>?_⟩
   rw[P]at J;simp at J
  .rw[aC e]at a
   refine⟨B', a, rfl,rfl,λc el J=>⟨c,?_,rfl⟩⟩;have r:i ≠ id:=λr=>by subst r;rw[P]at J;simp at J
   rw[m i r];exact J
 have n:∀d u' B' i,O.own d u' = aa (B', i)->B'.st.kI=ad->∃F z, C.own d F = aa (z, i)/\z.st.kI=ad:=by
  intro d u' B' i a g;rw[j]at a
  by_cases e:d = b/\u' = 0
  .rw[aD e]at a
   simp at a; obtain⟨rfl,rfl⟩:=a;exact⟨_,B,by rw[e.1];exact G,mW K⟩
  .rw[aC e]at a
   exact⟨u', B', a, g⟩
 refine⟨⟨λk s=>by show k<H.size;rw[N];rw[o]at s;exact x.I k s,λd u' B' i a =>?_,λd u' B' i a g =>?_,λb1 u1 B1 i1 b2 u2 B2 i2 k1 l1 k2 l2 Q=>?_,λd u' B' i R a g =>?_⟩,
  ⟨ev,by show w.heap.size<=H.size;rw[N];exact bG _,λk s S=>m k λe=>S (e▸L),λk s=>?_,λk s=>.inl (by rw[o]at s;exact s),rfl,⟨rfl,bG _⟩,rfl⟩⟩
 .rw[p]
  rw[j]at a
  by_cases e:d = b/\u' = 0
  .rw[aD e]at a
   simp at a; obtain⟨rfl,rfl⟩:=a;exact⟨by rw[e.1,e.2];exact e1,by rw[e.2];exact e2,λh=>fE,aA⟩
  .rw[aC e]at a
   exact x.mT d u' B' i a
 .rw[o]
  rw[j]at a
  by_cases e:d = b/\u' = 0
  .rw[aD e]at a
   simp at a; obtain⟨rfl,rfl⟩:=a;simp at g
  .rw[aC e]at a
   obtain⟨j1,c1,T,U,j3,j4⟩:=x.live d u' B' i a g;have r:i ≠ id:=λr=>by subst r;rw[P]at U;simp at U
   refine⟨j1,c1,T,by show H[i]? = _;rw[m i r];exact U,j3,λi' q hq=>?_⟩
   obtain⟨y,m1,m2,m3⟩:=j4 i' q hq;exact⟨y,m1,VR.mono ev _ _ m2,m3⟩
 .obtain⟨_,_,V,W⟩:=n b1 u1 B1 i1 k1 l1
  obtain⟨_,_,q3,q4⟩:=n b2 u2 B2 i2 k2 l2;exact x.apart _ _ _ _ _ _ _ _ V W q3 q4 Q
 .rw[j]at a
  by_cases e:d = b/\u' = 0
  .rw[aD e]at a
   simp at a; obtain⟨rfl,rfl⟩:=a;simp at g; subst g;exact⟨by rw[o];exact Y,l', clock', M,Z.mono ev⟩
  .rw[aC e]at a
   have r:i ≠ id:=λr=>by
    subst r;have X:d = b:=Decidable.byContradiction λh=>x.apart d u' B' i b _ B i a (mW g) G (mW K) h rfl;subst X;exact e ⟨rfl,A u' B' i a⟩
   exact x.dK (w' :={w with heap:=H}) ev a g (m i r) (by rw[o];exact(x.maps d u' B' i R a g).1)
 .obtain⟨d, u', B', a, g⟩:=s
  obtain⟨F, z, V,W⟩:=n d u' B' k a g;exact .inl ⟨d, F, z, V,W⟩
variable{ids:Nat->Nat}{I:Nat->Prop}
def pC{u:Nat}(h:aQ σ b=aa B):∀u' B' id', (aI σ ids I).own b u' = aa (B', id')->u' = ah B.cells:=λu' B' id' a =>by
 simp only[aI,h]at a;cases d:B.st<;>simp only[d]at a <;>first
  |(split at a <;>simp_all)
  |simp at a
def uk{u:Nat}(h:upto σ b u=aa B):aQ σ b=aa B/\ah B.cells=u/\B.st ≠ .dead:=by
 unfold upto at h;cases d:aQ σ b with
 |none=>simp[d]at h
 |some e =>
  simp only[d]at h;cases g:e.st<;>simp only[g]at h<;>first
   |(simp at h;done)
   |(by_cases a:ah e.cells=u
     .simp[a]at h;subst h;exact⟨rfl,a,by rw[g];simp⟩
     .simp[a]at h)
def AE{b a : Nat}(h:b<ah σ):aQ (aV σ b B) a = if a = b then aa B else aQ σ a :=by
 rw[dX,aaD,dX,List.getElem?_set]
 by_cases e:a = b
 .subst e;simp[h]
 .rw[aC (λd =>e d.symm),aC e]
variable{B': aO}
def rC{B: aO}{id' : Nat}(l:aQ σ b=aa B) (g:B'.st ≠ .dead):∀b1 d e,(aI (aV σ b B') (λq=>if q=b then id' else ids q) I).own b1 d=aa e->
  (if b1=b/\d=ah B'.cells then aa (B', id')else(aI σ ids I).own b1 d)=aa e:=λb1 d e h=>by
 have i:b<ah σ:=by rw[dX]at l;exact(dp.1 l).1
 simp only[aI,AE i]at h ⊢
 by_cases j:b1=b
 .subst j
  simp only[dM]at h;cases m:B'.st with
  |dead=>exact absurd m g
  |jN=>
   by_cases a:ah B'.cells=d
   .simp only[a,dM]at h
    rw[aD ⟨rfl,a.symm⟩];exact h
   .simp[a]at h
  |live=>
   by_cases a:ah B'.cells=d
   .simp only[a,dM]at h
    rw[aD ⟨rfl,a.symm⟩];exact h
   .simp[a]at h
  |map es=>
   by_cases a:ah B'.cells=d
   .simp only[a,dM]at h
    rw[aD ⟨rfl,a.symm⟩];exact h
   .simp[a]at h
 .rw[aC (λn =>j n.1)]
  simp only[aC j]at h;exact h
def rD{ids a : Nat->Nat}{B: aO}(e:aQ σ b=aa B) (hle:ah B.cells<=ah B'.cells):∀b1 g,(aI σ ids I).lim b1 g->(aI (aV σ b B') a I).lim b1 g:=λb1 g ⟨j,d,l⟩=>by
 have h:b<ah σ:=by rw[dX]at e;exact(dp.1 e).1
 simp only[aI,AE h]
 by_cases i:b1=b
 .subst i
  rw[e]at d;simp at d;subst d;exact⟨B', by simp,ax⟩
 .exact⟨j,by rw[aC i];exact d,l⟩
variable{o:Oper}{t:TypeId}{x:Operand}{x': Rf}{z:AV}{dC: aq}
def OX{p:Operand}{p': Rf}{n:Nat}(ho:o.op = .store t p x) (hn:cS P t n=ad) (hg:Good (aI σ ids I) w)
  (hp:VR (aI σ ids I) w.heap (r p') (a.eval p)) (hx:VR (aI σ ids I) w.heap (r x') (a.eval x)) (he:gS ce σ r (.st p' x' n)=aa (z,dC)):cm P o a w (k9 σ ids I w z dC):=by
 simp only[gS]at he;cases hp' : r p' <;>simp only[hp']at he<;>try(simp at he;done)
 rename_i b u off;cases hu:upto σ b u with
 |none=>simp[hu]at he
 |some B=>
  simp only[hu]at he;split at he
  case isFalse=>simp at he
  rename_i hc;simp only[bd,dA,fy]at hc;obtain⟨⟨⟨c1,c2⟩,c3⟩,c4⟩:=hc;simp only[ct,Prod.mk.injEq]at he;obtain⟨rfl,rfl⟩:=he;obtain⟨hb,ui,rp⟩:=uk hu;have hs:B.st = .live:=by revert c3;cases B.st<;>simp[fR.isLive]
  have dF:=pt ids I hu;subst ui;rw[hp']at hp;unfold VR at hp;have e:=hp.2.2 B _ dF hs;obtain⟨_,c,el,hH,hle,ql⟩:=hg.live b _ B _ dF hs;have HE:=DL c4;have sf:=VR.size HE hx;have hv:=Hy HE hx;obtain⟨g1,g2⟩:=yE (vals:=(a.eval x).cells.toList) (new:=(r x').cells) (off:=off) hg dF hs (pC (u:=0) hb) hH ax (by simpa using sf) (λi q hi=>by
   obtain⟨y,k1,k2,k3⟩:=hv i q hi;exact⟨y,by rw[jS];exact k1,k2,k3⟩)
  obtain⟨pl,_⟩:=uj B.cells (r x').cells off ax
  have ji:=rC (ids:=ids) (I:=I) (id' :=ids b) (B' :=⟨B.k,putAt B.cells off (r x').cells,B.st⟩) hb rp;have qm:(λq=>if q=b then ids b else ids q)=ids:=lf
  rw[qm]at ji;obtain⟨f1,f2⟩:=Good.shrink (C2:=aI (aV σ b ⟨B.k,putAt B.cells off (r x').cells,B.st⟩) ids I) g1 rfl (λb1 u1 e1 h1=>by
   have:=ji b1 u1 e1 h1;simp only[pl]at this;exact this) (λb1 u1 h1=>rD (ids:=ids) (I:=I) hb (by show _<=ah (putAt B.cells off (r x').cells);omega) b1 u1 h1)
  have ng:∀v∈(a.eval x).cells.toList,v.oneCell' = ad:=(VR.cells HE hx).2;have mA:=run_storeCells_at P (ids b) off el (a.eval x).cells.toList 0 c w hH aT ng
  refine cm.skip (w' :=w.setRow (ids b) (c.toList.take off++(a.eval x).cells.toList++c.toList.drop (off+ah (a.eval x).cells.toList)).toArray) ?_ ⟨ids,I,f1,g2.trans f2,by unfold VR;trivial⟩
  have hsi:=mr hn w;simp only[execOp,ho,Instr.storeAt,e,Instr.sureAddr,storeVar,bJ,bX,bO,hsi];rw[aC (by rw[sf,c1];simp)]
  simp only[Nat.add_zero]at mA;rw[mA]
  rfl
variable{kt:TypeId}{m k:Operand}{m' k': Rf}{kd:Nat}
def OY{e:TypeId}(ho:o.op = .mapUpdate t m k x\/o.op = .insert t m k x) (ht:P.underlying t=aa (.map kt e)) (hk:eH P kt kd=ad) (hg:Good (aI σ ids I) w)
  (Ae:VR (aI σ ids I) w.heap (r m') (a.eval m)) (vV:VR (aI σ ids I) w.heap (r k') (a.eval k)) (hx:VR (aI σ ids I) w.heap (r x') (a.eval x)) (he:gS ce σ r (.xE m' kd k' x')=aa (z,dC)):cm P o a w (k9 σ ids I w z dC):=by
 simp only[gS]at he;cases rE : r m' <;>simp only[rE]at he<;>try(simp at he;done)
 rename_i b;rw[rE]at Ae;cases hm:fM σ b with
 |none=>simp[hm]at he
 |some es=>
  simp only[hm]at he;split at he
  case isFalse=>simp at he
  rename_i hf;simp only[bd]at hf;cases hq:dg es (r k')with
  |none=>simp[hq]at he
  |some q=>
   cases q with
   |some _=>simp[hq]at he
   |none=>
    simp only[hq,ct,Prod.mk.injEq]at he;obtain⟨rfl,rfl⟩:=he;obtain⟨id,l,c,e1,hH,hM,B,hB,hs⟩:=DU hg (λb u B _ hu=>⟨_,um ids I hu⟩) hm Ae;obtain⟨q', h1,h2⟩:=HF hk hf.1 vV w hM hq;cases q' with
    |some _=>exact h2.elim
    |none=>
     have hc:=HG hk hf.1 vV w ae;obtain⟨hb,rfl⟩:=AF hB;have hu0:=pC (ids:=ids) (I:=I) (u:=0) hb 0 B _ hB;have OZ : MR (aI σ ids I) w.heap (es ++ [(r k', r x')]) (l.push {key:=a.eval k,val:=a.eval x,born:=c}).toList:=by
      rw[Array.toList_push];exact hM.push (O1 hf.1) vV hx
     obtain⟨g1,g2⟩:=OW (l' :=l.push {key:=a.eval k,val:=a.eval x,born:=c}) (clock' :=c+1) hg hB hs (λu' B' id' h=>by
      have:=pC (ids:=ids) (I:=I) (u:=0) hb u' B' id' h;omega) hH OZ
     have ji:=rC (ids:=ids) (I:=I) (id' :=ids b) (B' :=⟨B.k,B.cells,.map (es ++ [(r k', r x')])⟩) hb aA
     have qm:(λq=>if q=b then ids b else ids q)=ids:=lf
     rw[qm]at ji;have aaE:qo σ b (es ++ [(r k', r x')])=aV σ b ⟨B.k,B.cells,.map (es ++ [(r k', r x')])⟩:=by simp only[qo,hb]
     rw[aaE];obtain⟨f1,f2⟩:=Good.shrink (C2:=aI (aV σ b ⟨B.k,B.cells,.map (es ++ [(r k', r x')])⟩) ids I) g1 rfl (λb1 u1 e1 h1=>by
      have:=ji b1 u1 e1 h1;simp only[<-hu0]at this;exact this) (λb1 u1 h1=>rD (ids:=ids) (I:=I) hb (by show _<=ah B.cells;omega) b1 u1 h1)
     refine cm.skip (w' :={w with heap:=w.heap.setIfInBounds (ids b) (.map (l.push {key:=a.eval k,val:=a.eval x,born:=c}) (c+1))}) ?_ ⟨ids,I,f1,g2.trans f2,by unfold VR;trivial⟩
     have eO:(Instr.mapUpdate t (a.eval m) (a.eval k) (a.eval x)).run P w = .ok () {w with heap:=w.heap.setIfInBounds (ids b) (.map (l.push {key:=a.eval k,val:=a.eval x,born:=c}) (c+1))}:=by
      rw[e1];simp only[Instr.mapUpdate,bJ,run_underlying ht,bO,yF hH,hc,h1,Go.MapKept.run_setObj_map _ hH]
     rcases ho with ho|ho
     .simp only[execOp,ho,bJ,eO,bO,bX]
     .simp only[execOp,ho,bJ,eO,bO,bX]
def O2{c c' : Nat}(o:Good (aI σ ids I) w) (d:aQ σ b=aa B) (n:(aI σ ids I).own b 0=aa (B,ids b)) (p:B.st = .map es)
  (r:w.heap[ids b]? = aa (.map l c)) (s:MR (aI σ ids I) w.heap Ad l'.toList) :
  Good (aI (qo σ b Ad) ids I) {w with heap:=w.heap.setIfInBounds (ids b) (.map l' c')}/\Step (aI σ ids I) w (aI (qo σ b Ad) ids I) {w with heap:=w.heap.setIfInBounds (ids b) (.map l' c')}:=by
 have i:=pC (ids:=ids) (I:=I) (u:=0) d 0 B _ n;obtain⟨x,y⟩:=OW (l' :=l') (clock' :=c') o n p (λz B' id' h=>by
  have:=pC (ids:=ids) (I:=I) (u:=0) d z B' id' h;omega) r s
 have a:=rC (ids:=ids) (I:=I) (id' :=ids b) (B' :=⟨B.k,B.cells,.map Ad⟩) d aA
 have e:(λq=>if q=b then ids b else ids q)=ids:=lf
 rw[e]at a;have g:qo σ b Ad = aV σ b ⟨B.k,B.cells,.map Ad⟩:=by simp only[qo,d]
 rw[g];obtain⟨f1,A⟩:=Good.shrink (C2:=aI (aV σ b ⟨B.k,B.cells,.map Ad⟩) ids I) x rfl (λb1 j C m=>by
  have:=a b1 j C m;simp only[<-i]at this;exact this) (λb1 j m=>rD (ids:=ids) (I:=I) d (by show _<=ah B.cells;omega) b1 j m)
 exact⟨f1,y.trans A⟩
def O3{e:TypeId}(ho:o.op = .mapUpdate t m k x\/o.op = .insert t m k x) (ht:P.underlying t=aa (.map kt e)) (hk:eH P kt kd=ad) (vF:kd<2) (hg:Good (aI σ ids I) w)
  (Ae:VR (aI σ ids I) w.heap (r m') (a.eval m)) (vV:VR (aI σ ids I) w.heap (r k') (a.eval k)) (hx:VR (aI σ ids I) w.heap (r x') (a.eval x)) (he:gS ce σ r (.Af m' kd k' x')=aa (z,dC)):cm P o a w (k9 σ ids I w z dC):=by
 simp only[gS]at he;cases rE : r m' <;>simp only[rE]at he<;>try(simp at he;done)
 rename_i b;rw[rE]at Ae;cases hm:fM σ b with
 |none=>simp[hm]at he
 |some es=>
  simp only[hm]at he;split at he
  case isFalse=>simp at he
  rename_i hf;simp only[bd]at hf;have hc:=HG hk hf.1 vV w ae;obtain⟨id,l,c,e1,hH,hM,B,hB,hs⟩:=DU hg (λb u B _ hu=>⟨_,um ids I hu⟩) hm Ae;obtain⟨hb,rfl⟩:=AF hB;have fin:∀{w'},(Instr.mapUpdate t (a.eval m) (a.eval k) (a.eval x)).run P w = .ok () w' ->k9 σ ids I w .aW dC undef w' ->cm P o a w (k9 σ ids I w .aW dC):=λeO hp=>by
   refine cm.skip ?_ hp;rcases ho with ho|ho
   .simp only[execOp,ho,bJ,eO,bO,bX]
   .simp only[execOp,ho,bJ,eO,bO,bX]
  cases hq:dg es (r k')with
  |none=>simp[hq]at he
  |some q=>
   cases q with
   |none=>
    simp only[hq,ct,Prod.mk.injEq]at he;obtain⟨rfl,rfl⟩:=he;obtain⟨q', h1,h2⟩:=HF hk hf.1 vV w hM hq;cases q' with
    |some _=>exact h2.elim
    |none=>
     have OZ : MR (aI σ ids I) w.heap (es ++ [(r k', r x')]) (l.push {key:=a.eval k,val:=a.eval x,born:=c}).toList:=by
      rw[Array.toList_push];exact hM.push (O1 hf.1) vV hx
     obtain⟨f1,f2⟩:=O2 (c' :=c+1) hg hb hB hs hH OZ;refine fin (w' :={w with heap:=w.heap.setIfInBounds (ids b) (.map (l.push {key:=a.eval k,val:=a.eval x,born:=c}) (c+1))}) ?_ ⟨ids,I,f1,f2,by unfold VR;trivial⟩
     rw[e1];simp only[Instr.mapUpdate,bJ,run_underlying ht,bO,yF hH,hc,h1,Go.MapKept.run_setObj_map _ hH]
   |some y=>
    simp only[hq,ct,Prod.mk.injEq]at he;obtain⟨rfl,rfl⟩:=he;obtain⟨j,en,h1,h2,h3,h4⟩:=aaF hk vF hf.1 vV hx w hM hq;have OZ : MR (aI σ ids I) w.heap (jU es (r k') (r x')) (l.modify j λe=>{e with key:=a.eval k,val:=a.eval x}).toList:=by
     have:(l.modify j λe=>{e with key:=a.eval k,val:=a.eval x}).toList=l.toList.set j {en with key:=a.eval k,val:=a.eval x}:=by
      rw[Array.toList_modify];apply List.ext_getElem?;intro i;rw[List.getElem?_modify,List.getElem?_set]
      by_cases hi:j=i
      .subst hi
       have cw:=(dp.1 h2).1;simp only[dM,h2,nh,aD cw]
       rfl
      .simp only[aC hi]
       cases l.toList[i]?<;>rfl
     rw[this];exact h4
    obtain⟨f1,f2⟩:=O2 (c' :=c) hg hb hB hs hH OZ;refine fin (w' :={w with heap:=w.heap.setIfInBounds (ids b) (.map (l.modify j λe=>{e with key:=a.eval k,val:=a.eval x}) c)}) ?_ ⟨ids,I,f1,f2,by unfold VR;trivial⟩
    have hj:l[j]? = aa en:=by rw[<-Array.getElem?_toList];exact h2
    have fT:(Instr.keyThatStays (((l[j]?).map (·.key)).getD (a.eval k)) (a.eval k)).run P w = .ok (a.eval k) w:=by
     rw[hj];simp only[nh,Option.getD_some,h3];exact aaG hk vF hf.1 vV w
    rw[e1];simp only[Instr.mapUpdate,bJ,run_underlying ht,bO,yF hH,hc,h1,fT,Go.MapKept.run_setObj_map _ hH]
end
end Ab
set_option linter.all false
namespace Ab
open Go
variable{P:Program}
section
variable{a:Act}{ρ:Operand->Value}{r:Rf->AV}{w:World}{C:Ctx}{R:Operand->Rf->Bool}{ce:CE}{σ:aq}{nl:Nat}{ps:List dd}
variable{B:aO}
def O4{b:Nat}:aQ (σ ++ [B]) b=if b=ah σ then aa B else aQ σ b:=by
 rw[dX,dX]
 by_cases e:b=ah σ
 .subst e;simp
 .rw[aC e]
  by_cases h:b<ah σ
  .rw[dq h]
  .rw[dW ax,il aT,il ax]
variable{ids:Nat->Nat}{I:Nat->Prop}{id:Nat}
def DV(g:B.st ≠ .dead):∀b u e,(aI (σ ++ [B]) (λq=>if q=ah σ then id else ids q) I).own b u=aa e->(aU (aI σ ids I) (ah σ) (ah B.cells) (B,id)).own b u=aa e:=λb u e h=>by
 simp only[aI,aU,O4]at h ⊢
 by_cases d:b=ah σ
 .simp only[d,dM]at h
  cases i:B.st with
  |dead=>exact absurd i g
  |jN=>
   by_cases a:ah B.cells=u
   .simp only[a,dM]at h
    rw[aD ⟨d,a.symm⟩];exact h
   .simp[a]at h
  |live=>
   by_cases a:ah B.cells=u
   .simp only[a,dM]at h
    rw[aD ⟨d,a.symm⟩];exact h
   .simp[a]at h
  |map es=>
   by_cases a:ah B.cells=u
   .simp only[a,dM]at h
    rw[aD ⟨d,a.symm⟩];exact h
   .simp[a]at h
 .rw[aC (λj =>d j.1)]
  simp only[aC d]at h;exact h
def DW{ids a : Nat->Nat}:∀b u,(aU (aI σ ids I) (ah σ) (ah B.cells) (B,id)).lim b u->(aI (σ ++ [B]) a I).lim b u:=λb u h=>by
 simp only[aI,aU,O4]at h ⊢;rcases h with⟨rfl,rfl⟩|⟨g,d,i⟩
 .exact⟨B,aA,bG _⟩
 .have:b ≠ ah σ:=λe=>by
   rw[dX,il ax]at d;simp at d
  exact⟨g,by rw[aC this];exact d,i⟩
def yG:∀u,¬(aI σ ids I).lim (ah σ) u:=λu ⟨b,a,_⟩=>by
 rw[dX,il ax]at a;simp at a
def aaH{o:Oper}{ca:Call}{s x:Operand}{t t' e:TypeId}{s' x' : Rf}{k:Option Nat}{z:AV}{dC : aq}(ho:o.op = .call ca) (hc:ca.callee = .builtin .append) (ha:ca.args.toList=[s,x]) (na:ca.argTypes.toList=[t,t'])
  (ht:bF P t=aa e) (od : (bF P t').isSome=ad) (hk:cg P e k=ad) (xD:gv P e=ad) (hz:dD P e=ad) (hg:Good (aI σ ids I) w)
  (hs:VR (aI σ ids I) w.heap (r s') (a.eval s)) (hx:VR (aI σ ids I) w.heap (r x') (a.eval x)) (he:gS ce σ r (.dH s' x' k)=aa (z,dC)):cm P o a w (k9 σ ids I w z dC):=by
 have kJ:∀b u B,(aI σ ids I).lim b u->upto σ b u=aa B->∃id,(aI σ ids I).own b u=aa (B,id):=λb u B _ h=>⟨_,pt ids I h⟩
 -- a new block at the aaI end
 have HH:∀(B:aO) (x1:AV) v w' id', B.st = .live->Good (aU (aI σ ids I) (ah σ) (ah B.cells) (B,id')) w' ->Step (aI σ ids I) w (aU (aI σ ids I) (ah σ) (ah B.cells) (B,id')) w' ->
   VR (aU (aI σ ids I) (ah σ) (ah B.cells) (B,id')) w'.heap x1 v->k9 σ ids I w x1 (σ ++ [B]) v w' :=λB x1 v w' id' fT h2 h3 h4=>by
  obtain⟨f1,f2⟩:=Good.shrink (C2:=aI (σ ++ [B]) (λq=>if q=ah σ then id' else ids q) I) h2 rfl (DV (by rw[fT];simp)) DW
  exact⟨_,I,f1,h3.trans f2,VR.mono f2.ev _ _ h4⟩
 simp only[gS]at he;cases gR:bw σ k (r x')with
 |none=>simp[gR]at he
 |some ncs=>
  obtain⟨n,cs⟩:=ncs;simp only[gR]at he;cases j8 : r s' <;>simp only[j8]at he<;>try(simp at he;done)
  .rw[j8]at hs
   have hv:a.eval s = .slice ab 0 0:=hs
   by_cases hn:n=0
   .subst hn
    simp at he;obtain⟨rfl,rfl⟩:=he;exact k8 ho hc ha na (uh ht od hk hg kJ gR hx ⟨ab,0,0,hv,bG 0⟩) ⟨ids,I,hg,Step.refl _ _,by rw[hv];exact rfl⟩
   .have mz : (n==0)=ae:=by simpa using hn
    simp only[mz, ff,fv]at he;split at he
    case isFalse=>simp at he
    rename_i qk;simp only[ct,Prod.mk.injEq]at he;obtain⟨rfl,rfl⟩:=he;obtain⟨v,w', id', h1,h2,h3,h4⟩:=sM (P:=P) (σ:=σ) (cells:=[]) (k0:=k) (b:=ah σ) (len:=0) (cap:=0) (base:=ab) (olds:=[]) (ty:=o.type) ht od hk xD hz hg kJ gR hx (yG _) rfl aA rfl (λw1 _=>by simp[Builtin.firstCells]) aA ax ax
    rw[<-hv]at h1;simp only[rB,gQ]at h2 h3 h4;exact k8 ho hc ha na h1 (HH ⟨k,cs,.live⟩ _ _ _ id' rfl h2 h3 h4)
  .rw[j8]at hs
   have vU:=hs;unfold VR at hs;obtain⟨a0,hv⟩:=hs
   by_cases hn:n=0
   .subst hn
    simp at he;obtain⟨rfl,rfl⟩:=he;exact k8 ho hc ha na (uh ht od hk hg kJ gR hx ⟨_,_,_,hv,bG 0⟩) ⟨ids,I,hg,Step.refl _ _,vU⟩
   .have mz : (n==0)=ae:=by simpa using hn
    simp only[mz, ff,fv]at he;split at he
    case isFalse=>simp at he
    rename_i qk;simp only[ct,Prod.mk.injEq]at he;obtain⟨rfl,rfl⟩:=he;obtain⟨olds,_,k1,k2,k3,k4⟩:=sL (P:=P) (σ:=σ) (k:=k) (X:=.emp) (v:=a.eval s) (n:=0) (cs:=[]) (by simp[bw]) hg kJ vU
    rw[hv]at k1;obtain⟨v,w', id', h1,h2,h3,h4⟩:=sM (P:=P) (σ:=σ) (cells:=[]) (k0:=k) (b:=ah σ) (len:=0) (cap:=0) (base:=a0) (olds:=olds) (ty:=o.type) ht od hk xD hz hg kJ gR hx (yG _) rfl k2 k3 k1 k4 ax ax
    rw[<-hv]at h1;simp only[rB,gQ]at h2 h3 h4;exact k8 ho hc ha na h1 (HH ⟨k,cs,.live⟩ _ _ _ id' rfl h2 h3 h4)
  .rename_i l
   rw[j8]at hs;have vU:=hs;unfold VR at hs;obtain⟨aaJ, off,st,c,el,fz,hv,hI,hH,hl⟩:=hs
   by_cases hn:n=0
   .subst hn
    simp at he;obtain⟨rfl,rfl⟩:=he;refine k8 ho hc ha na (uh ht od hk hg kJ gR hx ⟨_,_,_,hv,bG _⟩) ⟨ids,I,hg,Step.refl _ _,?_⟩;split
    .rename_i Db
     unfold VR;exact⟨Db,.inr ⟨aaJ, off,ah l,st,c,el,fz,hv,bG _,hI,hH,hl⟩⟩
    .exact vU
   .have mz : (n==0)=ae:=by simpa using hn
    simp only[mz, ff,fv]at he;split at he
    case isFalse=>simp at he
    rename_i iP;simp only[bd,fy]at iP;simp only[ct,Prod.mk.injEq]at he;obtain⟨rfl,rfl⟩:=he;obtain⟨olds,_,k1,k2,k3,k4⟩:=sL (P:=P) (σ:=σ) (k:=k) (X:=.arr l) (v:=a.eval s) (n:=ah l) (cs:=l.flatMap AV.cells) (by simp only[bw,iP.1,dM]) hg kJ vU
    rw[hv]at k1;obtain⟨v,w', id', h1,h2,h3,h4⟩:=sM (P:=P) (σ:=σ) (cells:=l.flatMap AV.cells) (k0:=k) (b:=ah σ) (olds:=olds) (ty:=o.type) ht od hk xD hz hg kJ gR hx (yG _) rfl k2 k3 k1 k4 ax iP.2
    rw[<-hv]at h1;exact k8 ho hc ha na h1 (HH ⟨k,l.flatMap AV.cells++cs,.live⟩ _ _ _ id' rfl h2 h3 h4)
  .rename_i b u off len
   cases hu:upto σ b u with
   |none=>simp[hu]at he
   |some B=>
    simp only[hu]at he;split at he
    case isFalse=>simp at he
    rename_i iP;simp only[bd,dA,fy]at iP;obtain⟨⟨rfl,qk⟩,AD⟩:=iP;have AD:=DS AD;obtain⟨hb,ui,rp⟩:=uk hu;have dF:=pt ids I hu;subst ui;rw[j8]at hs
    by_cases hn:n=0
    .subst hn
     simp at he;obtain⟨rfl,rfl⟩:=he;have Ac:∃a' l' c', a.eval s = .slice a' l' c' /\l' <=c' :=by
      unfold VR at hs;obtain⟨⟨q,c,e1,e2,_⟩,_⟩:=hs;exact⟨_,_,_,e1,e2⟩
     exact k8 ho hc ha na (uh ht od hk hg kJ gR hx Ac) ⟨ids,I,hg,Step.refl _ _,hs⟩
    .have mz : (n==0)=ae:=by simpa using hn
     simp only[mz, ff,fv]at he;split at he
     case isTrue=>simp at he
     rename_i vE;simp at vE;have arI : 0<ah cs:=nc.2 vE;split at he
     .rename_i ui
      simp only[dA]at ui;simp only[ct,Prod.mk.injEq]at he;obtain⟨rfl,rfl⟩:=he;obtain⟨v,w', id', h1,h2,h3,h4⟩:=OU (P:=P) (σ:=σ) (ty:=o.type) ht od hk xD hz hg kJ gR hx dF ui (by rw[AD]) hs ax qk (AB hu) (λ⟨B1,q1,q2⟩=>by rw[hb]at q1;simp at q1;subst q1;simp at q2;omega) (pC (u:=0) hb)
      have ji:=rC (ids:=ids) (I:=I) (id' :=id') (B' :=⟨B.k,B.cells++cs,.live⟩) hb aA
      obtain⟨f1,f2⟩:=Good.shrink (C2:=aI (aV σ b ⟨B.k,B.cells++cs,.live⟩) (λq=>if q=b then id' else ids q) I) h2 rfl (λb1 u1 e1 h1=>ji b1 u1 e1 h1) (λb1 u1 h1=>by
       rcases h1 with⟨e1,e2⟩|h1
       .have cw:b<ah σ:=by rw[dX]at hb;exact(dp.1 hb).1
        exact⟨⟨B.k,B.cells++cs,.live⟩,by rw[AE cw,aD e1],by rw[e2];exact bG _⟩
       .exact rD (ids:=ids) (I:=I) hb (by show _<=ah (B.cells++cs);simp) b1 u1 h1)
      have e1:ah B.cells+ah cs=ah (B.cells++cs):=aA
      rw[e1];exact k8 ho hc ha na h1 ⟨_,I,f1,h3.trans f2,VR.mono f2.ev _ _ h4⟩
     .split at he
      case isFalse=>simp at he
      rename_i hle;simp only[ct,Prod.mk.injEq]at he;obtain⟨rfl,rfl⟩:=he;obtain⟨vals,⟨q,m,hvx⟩,hf,sN,yB,Gs⟩:=sL (P:=P) gR hg kJ hx;have HJ:len*ba k+ah cs<=ah B.cells:=by rw[sN,<-Nat.add_mul];exact hle
      obtain⟨_,_,aaK,_⟩:=hg.mT b _ B _ dF;have kC:B.st = .live:=by
       cases fT:B.st with
       |dead=>exact absurd fT rp
       |map es=>have:=AB hu;rw[fT]at this;simp[fR.isMap]at this
       |live=>rfl
       |jN=>
        have h0:ah B.cells=0:=by rw[aaK fT];rfl
        omega
      have O5:=hs;unfold VR at O5;have O5:=O5.2.2 B _ dF;simp only[kC]at O5;obtain⟨c,el,o', cap,g1,hv,g3,g4,g5⟩:=O5;obtain⟨_,c', Da, n2,n3,n4⟩:=hg.live b _ B _ dF kC;rw[g1]at n2;simp only[ct,mw]at n2;obtain⟨rfl,rfl,_⟩:=n2;rw[AD]at g5;have Aa:0<ba k:=Nat.pos_of_ne_zero λh=>by rw[h,Nat.mul_zero]at sN;omega
      have vW:len+n<=cap:=by
       have:(len+n)*ba k<=cap*ba k:=ax
       exact Nat.le_of_mul_le_mul_right this Aa
      have aaL:0<cap:=ax
      have ho0:=g3 aaL;subst ho0;have ng:∀v∈vals,v.oneCell' = ad:=λv hv=>by
       obtain⟨i,hi⟩:=List.getElem?_of_mem hv;have cw:=(dp.1 hi).1;obtain⟨y,m1,m2,m3⟩:=Gs i cs[i] (dG ax)
       rw[hi]at m1;simp at m1;subst m1;exact m3
      have mA:=run_storeCells_at P (ids b) (len*ba k) el vals 0 c w g1 ax ng
      have O6:=HC (P:=P) (w:=w) (ty:=o.type) (base:=aa ⟨ids b,0,ab⟩) ht od hk hvx (hf w rfl) vW (λb' Zg =>by
       simp at Zg; subst Zg;rw[sK,gQ];exact mA) (λh=>fE)
      rw[<-hv]at O6;obtain⟨p1,p2⟩:=yE (vals:=vals) (new:=cs) (off:=len*ba k) hg dF kC (pC (u:=0) hb) g1 HJ yB Gs;obtain⟨pl,_⟩:=uj B.cells cs (len*ba k) HJ;have ji:=rC (ids:=ids) (I:=I) (id' :=ids b) (B' :=⟨B.k,putAt B.cells (len*ba k) cs,B.st⟩) hb rp;have qm:(λq=>if q=b then ids b else ids q)=ids:=lf
      rw[qm]at ji;obtain⟨f1,f2⟩:=Good.shrink (C2:=aI (aV σ b ⟨B.k,putAt B.cells (len*ba k) cs,B.st⟩) ids I) p1 rfl (λb1 u1 e1 h1=>by
       have:=ji b1 u1 e1 h1;simp only[pl]at this;exact this) (λb1 u1 h1=>rD (ids:=ids) (I:=I) hb (by show _<=ah (putAt B.cells (len*ba k) cs);omega) b1 u1 h1)
      refine k8 ho hc ha na O6 ⟨ids,I,f1,p2.trans f2,?_⟩;have cw:b<ah σ:=by rw[dX]at hb;exact(dp.1 hb).1
      unfold VR;refine⟨⟨_,_,rfl,vW,λ_=>⟨_,rfl⟩⟩,⟨_,by rw[AE cw,aD rfl],by show _<=ah (putAt B.cells (len*ba k) cs);omega⟩,λB2 Dc h2=>?_⟩
      have AG :=ji b _ _ h2;rw[aD ⟨rfl,pl.symm⟩]at AG;simp at AG;obtain⟨rfl,rfl⟩:=AG;simp only[kC];refine⟨_,el,0,cap,setRow_heap w (ids b) c _ el (0,0) g1,rfl,λ_=>rfl,vW,?_⟩;rw[(OV ax).1,AD]
      exact g5
end
end Ab
set_option linter.all false
namespace Ab
open Go
variable{P:Program}
def sO (n:Nat):∀l:ao,lR n l=l.map (iz n)
 | []=>rfl
 |x::r=>by simp only[lR,sO n r,da]
structure uo (n:Nat) (C1 C' : Ctx):Prop where
 aX:∀k,C1.I k->C'.I k
 lim:∀b u,C1.lim b u->C'.lim (b+n) u
 own:∀b u B' id,C1.lim b u->C'.own (b+n) u=aa (B', id)->∃B,C1.own b u=aa (B,id)/\B'.st=pZ n B.st/\B.k=B'.k
def aaM{n:Nat}{B:aO}{es:List (AV×AV)}(h:(gl n B).st = .map es):∃a,B.st = .map a/\es=HK n a:=by
 have h:pZ n B.st = .map es:=h;cases b:B.st with
 |map a=>rw[b]at h;simp[pZ]at h;exact⟨a,rfl,h.symm⟩
 |jN=>rw[b]at h;simp[pZ]at h
 |live=>rw[b]at h;simp[pZ]at h
 |dead=>rw[b]at h;simp[pZ]at h
variable{s:fR}
def aaN{n:Nat}:(pZ n s).isMap=s.isMap:=by cases s<;>rfl
def AH{n:Nat}:(pZ n s).kI=s.kI:=by cases s<;>rfl
def O7{n:Nat}(h:pZ n s = .live):s = .live:=by cases s<;>simp_all [pZ]
def aaO{n:Nat}(h:pZ n s = .jN):s = .jN:=by cases s<;>simp_all [pZ]
def aaP{n:Nat}(h:pZ n s = .dead):s = .dead:=by cases s<;>simp_all [pZ]
section
variable{n:Nat}{C1 C' : Ctx}{H:Array Obj}
mutual
theorem VR.shift (h:uo n C1 C'):∀(x:AV) (v:Value),VR C1 H x v->VR C' H (iz n x) v
 |.int _,_,hv=>hv
 |.ik _ _,_,hv=>hv
 |.bool _,_,hv=>hv
 |.str _,_,hv=>hv
 |.agg l,_,⟨vs,e,hl,hc⟩=>⟨vs,e,cH.shift h l vs hl,hc⟩
 |.bY l,_,⟨vs,e,hl⟩=>⟨vs,e,cH.shift h l vs hl⟩
 |.aJ,_,hv=>hv
 |.emp,_,hv=>hv
 |.aX nn l,v,hv=>VR.free (show qi C1 H C' H from⟨h.aX,λ_ _=>rfl⟩) (.aX nn l) v rfl hv
 |.arr l,v,hv=>by
  unfold VR at hv;unfold iz VR;obtain⟨b,off,st,c,el,fz,e,hI,hH,hl⟩:=hv;refine⟨b,off,st,c,el,fz,?_,h.aX b hI,hH,kF.shift h c st l off hl⟩;rw[sO];simpa using e
 |.sl b u off len,v,hv=>by
  unfold VR at hv;unfold iz VR;obtain⟨h0,h1,h3⟩:=hv;refine⟨h0,h.lim b u h1,λB' id ho=>?_⟩;obtain⟨B,g1,g2,g3⟩:=h.own b u B' id h1 ho;have:=h3 B id g1;rw[g3]at this;rw[g2];cases hs:B.st<;>rw[hs]at this<;>simpa[pZ]using this
 |.jj,_,hv=>hv
 |.bN x,v,hv=>VR.free (show qi C1 H C' H from⟨h.aX,λ_ _=>rfl⟩) (.bN x) v rfl hv
 |.ptr b u off,v,hv=>by
  unfold VR at hv;unfold iz VR;obtain⟨h0,h1,h3⟩:=hv;refine⟨h0,h.lim b u h1,λB' id ho hl=>?_⟩;obtain⟨B,g1,g2,g3⟩:=h.own b u B' id h1 ho;exact h3 B id g1 (O7 (g2.symm.trans hl))
 |.lS,_,hv=>hv
 |.func _ l,_,⟨vs,e,hl⟩=>⟨vs,e,cH.shift h l vs hl⟩
 |.iR,_,hv=>hv
 |.iface _ x,_,⟨y,e,hx⟩=>⟨y,e,VR.shift h x y hx⟩
 |.cZ b,v,hv=>by
  unfold VR at hv;unfold iz VR;obtain⟨h0,h1,h3⟩:=hv;refine⟨h0,h.lim b 0 h1,λB' id ho hl=>?_⟩;obtain⟨B,g1,g2,g3⟩:=h.own b 0 B' id h1 ho;exact h3 B id g1 (by rw[g2,aaN]at hl;exact hl)
 |.rF,_,hv=>hv
 |.aW,_,_=>trivial
theorem cH.shift (h:uo n C1 C'):∀(l:ao) (vs:List Value),cH C1 H l vs->cH C' H (lR n l) vs
 | [],_,hv=>hv
 |x::r,_,⟨v,s,e,hx,hr⟩=>⟨v,s,e,VR.shift h x v hx,cH.shift h r s hr⟩
theorem kF.shift (h:uo n C1 C') (c:Array Value) (st:Nat):∀(l:ao) (off:Nat),kF C1 H c st l off->kF C' H c st (lR n l) off
 | [],_,_=>trivial
 |x::r,off,⟨⟨v,hx,e,hj⟩,hr⟩=>⟨⟨v,VR.shift h x v hx,e,hj⟩,kF.shift h c st r (off+st) hr⟩
end
def MR.shift (h:uo n C1 C'):∀{es:List (AV×AV)}{l:List MapEntry},MR C1 H es l->MR C' H (HK n es) l
 | [],_,e=>e
 |(k,x)::r,_,⟨e,s,q,⟨k1,k2⟩,x2,hr⟩=>⟨e,s,q,⟨k1,VR.free ⟨h.aX,λ_ _=>rfl⟩ _ _ k1 k2⟩,VR.shift h _ _ x2,MR.shift h hr⟩
end
section
variable{a:Act}{ρ:Operand->Value}{r:Rf->AV}{w:World}{C:Ctx}{R:Operand->Rf->Bool}{ce:CE}{σ:aq}{nl:Nat}{ps:List dd}
variable{ids:Nat->Nat}{I:Nat->Prop}{o:Oper}{ca:Call}{f:Nat}{ys:List Rf}{z:AV}{dC: aq}
def aaQ(d:cR P ce) (h:o.op = .call ca) (i:ca.callee = .value (.func f)) (j:dm P f=ad) (l:Good (aI σ ids I) w)
  (m:cH (aI σ ids I) w.heap (ys.map r) (ca.args.toList.map a.eval)) (g:gS ce σ r (.gm f ys)=aa (z,dC)):cm P o a w (k9 σ ids I w z dC):=by
 simp only[gS]at g;refine cm.call (DI h i j w) ((d f _ σ z dC g ids I w _ l m).mono ?_);rintro e u ⟨v,b, n, rfl,p,q,s⟩;exact⟨v,rfl,b, n, p,s,q⟩
def aaR{j:Operand}{y:Rf}(g:cR P ce) (h:eT P ce) (n:o.op = .call ca) (p:ca.callee = .value j) (q:Good (aI σ ids I) w)
  (i:VR (aI σ ids I) w.heap (r y) (a.eval j)) (s:cH (aI σ ids I) w.heap (ys.map r) (ca.args.toList.map a.eval)) (b:gS ce σ r (.mB y ys)=aa (z,dC)):cm P o a w (k9 σ ids I w z dC):=by
 simp only[gS]at b;cases l:r y<;>simp only[l]at b<;>try(simp at b;done)
 rename_i f m;rw[l]at i;unfold VR at i;obtain⟨D,e,u⟩:=i;refine cm.call (OA n p e (h _ _ _ _ b) w) ((g f _ σ z dC b ids I w _ q (s.append u)).mono ?_);rintro e E ⟨v,d, x, rfl,A,B,C⟩;exact⟨v,rfl,d, x, A,C,B⟩
variable{b:Nat}
def O8:aQ (dC.map (gl nl)) b=(aQ dC b).map (gl nl):=by
 rw[dX,dX];simp
def AI (B:aO):ah (gl nl B).cells=ah B.cells:=by simp[gl,sO]
def O9{I I' : Nat->Prop}{u:Nat}{B' : aO}{id:Nat}(h:(aI (dC.map (gl nl)) ids I).own b u=aa (B', id)):∃B,(aI dC ids I').own b u=aa (B,id)/\B' = gl nl B:=by
 simp only[aI,O8]at h ⊢;cases a:aQ dC b with
 |none=>simp[a]at h
 |some B=>
  simp only[a,nh]at h ⊢;have e:(gl nl B).st=pZ nl B.st:=rfl;rw[e,AI]at h;cases g:B.st<;>simp only[g,pZ]at h ⊢<;>first
   |(simp at h;done)
   |(by_cases d:ah B.cells=u
     .simp only[d,dM]at h ⊢
      simp at h;exact⟨B,by rw[h.2],h.1.symm⟩
     .simp[d]at h)
def aaS{x:AV}{p:Option dd}(sg:cR P ce) (ho:o.op = .call ca) (hc:ca.callee = .value (.func f)) (hb:dm P f=ad) (hg:Good C w)
  (HL:∀l,p=aa (.news l)->∀b u,nl<=b->b<nl+ah l->¬C.lim b u)
  (hx:cH C w.heap (ys.map r) (ca.args.toList.map a.eval)) (he:ev ce σ nl ps r (.can f ys)=aa (x,p)):cm P o a w (jR nl C w x p):=by
 simp only[ev]at he;split at he
 case isFalse=>simp at he
 rename_i hn;cases Dd:ce f (ys.map r) []with
 |none=>simp[Dd]at he
 |some q=>
  obtain⟨v0,dC⟩:=q;simp only[Dd,ct,Prod.mk.injEq]at he;obtain⟨rfl,rfl⟩:=he;have HL:=HL _ rfl;have Pa:cH (aI [] (λ_=>0) C.I) w.heap (ys.map r) (ca.args.toList.map a.eval):=cH.free (show qi C w.heap (aI [] (λ_=>0) C.I) w.heap from⟨λ_ h=>h,λ_ _=>rfl⟩) _ _ hn hx;refine cm.call (DI ho hc hb w) ((sg f _ [] v0 dC Dd (λ_=>0) C.I w _ (Ox hg _) Pa).mono ?_);rintro e w' ⟨v,cA, I', rfl,Pb,hr,hs⟩;refine⟨v,rfl,?_⟩;have hlen:ah (dC.map (gl nl))=ah dC:=aA
  let C' : Ctx:={I:=I', own:=λb u=>if nl<=b/\b<nl+ah (dC.map (gl nl)) then(aI (dC.map (gl nl)) cA C.I).own (b-nl) u else C.own b u,lim:=λb u=>(nl<=b/\(aI (dC.map (gl nl)) cA C.I).lim (b-nl) u)\/C.lim b u}
  have gd:∀k,k<w.heap.size->w'.heap[k]? = w.heap[k]?:=λk hk=>hs.frame k hk pn;have Pc:∀b u,(aI dC cA I').lim b u->b<ah dC:=λb u ⟨B,h1,_⟩=>by rw[dX]at h1;exact(dp.1 h1).1
  have Gu:∀b u,(aI (dC.map (gl nl)) cA C.I).lim b u↔(aI dC cA I').lim b u:=λb u=>by
   simp only[aI,O8];constructor
   .rintro⟨B,h1,h2⟩
    obtain⟨B0,h3,h4⟩:=pw.1 h1;subst h4;exact⟨B0,h3,by rwa [AI]at h2⟩
   .rintro⟨B,h1,h2⟩
    exact⟨gl nl B,by rw[h1];rfl,by rw[AI];exact h2⟩
  have Ac:uo nl (aI dC cA I') C' :=by
   refine⟨λ_ h=>h,λb u h=>.inl ⟨ax,?_⟩,λb u B' id hl lg =>?_⟩
   .rw[show b+nl-nl=b by omega];exact(Gu b u).2 h
   .have cw:=Pc b u hl
    have jl:nl<=b+nl/\b+nl<nl+ah (dC.map (gl nl)):=by rw[hlen];omega
    simp only[C', aD jl]at lg;rw[show b+nl-nl=b by omega]at lg
    obtain⟨B,h1,h2⟩:=O9 (I' :=I') lg;exact⟨B,h1,by rw[h2];rfl,by rw[h2];rfl⟩
  have ev' : gM C w.heap C' w'.heap:=by
   refine⟨λk hk=>hs.ev.aX k hk,λk hk=>gd k (hg.I k hk),λ_ _ h=>.inr h,λb u B' id hl lg =>?_⟩;have HM:¬(nl<=b/\b<nl+ah (dC.map (gl nl))):=λ⟨h1,h2⟩=>HL b u h1 h2 hl;simp only[C', aC HM]at lg;refine⟨B', lg, rfl,rfl,λc el yy =>⟨c,?_,rfl⟩⟩;rw[gd id (kV.1 yy).1];exact yy
  have yH:∀id,owned (aI dC cA I') id->w.heap.size<=id:=λid h=>(hs.ie id h).elim (λh=>absurd h pn) (λh=>h);have sh:∀b u B' id,C'.own b u=aa (B', id)->(nl<=b/\b<nl+ah (dC.map (gl nl))/\∃B,(aI dC cA I').own (b-nl) u=aa (B,id)/\B' = gl nl B)\/C.own b u=aa (B', id):=λb u B' id h=>by
   by_cases jl:nl<=b/\b<nl+ah (dC.map (gl nl))
   .simp only[C', aD jl]at h
    obtain⟨B,h1,h2⟩:=O9 (I' :=I') h;exact .inl ⟨jl.1,jl.2,B,h1,h2⟩
   .simp only[C', aC jl]at h
    exact .inr h
  refine⟨C', ⟨Pb.I,λb u B' id h=>?_,λb u B' id h hl=>?_,λb1 u1 B1 i1 b2 u2 B2 i2 k1 l1 k2 l2 fg=>?_,λb u B' id es h hl=>?_⟩,⟨ev', hs.size,λk hk _=>gd k hk,λk hk=>?_,λk hk=>?_,hs.os,hs.tape,hs.output⟩,VR.shift Ac _ _ hr,cA, rfl,rfl⟩
  .rcases sh b u B' id h with⟨q1,q2,B,q3,rfl⟩|h'
   .obtain⟨j1,j2,j3,j4⟩:=Pb.mT _ _ _ _ q3
    exact⟨.inl ⟨q1,(Gu _ _).2 j1⟩,by rw[AI];exact j2,λh0=>by
     have:B.cells=[]:=j3 (aaO h0);simp[gl,this,lR],λh0=>j4 (aaP h0)⟩
   .obtain⟨j1,j2,j3,j4⟩:=hg.mT _ _ _ _ h'
    exact⟨.inr j1,j2,j3,j4⟩
  .rcases sh b u B' id h with⟨q1,q2,B,q3,rfl⟩|h'
   .obtain⟨j1,c,el,j2,j3,j4⟩:=Pb.live _ _ _ _ q3 (O7 hl)
    refine⟨j1,c,el,j2,by rw[AI];exact j3,λi y hi=>?_⟩
    have ke : (lR nl B.cells)[i]? = aa y:=hi;rw[sO,gP]at ke;obtain⟨y0,e1,rfl⟩:=pw.1 ke;obtain⟨v', m1,m2,m3⟩:=j4 i y0 e1;exact⟨v', m1,VR.shift Ac _ _ m2,m3⟩
   .obtain⟨j1,c,el,j2,j3,j4⟩:=hg.live _ _ _ _ h' hl
    have cw:=(kV.1 j2).1;refine⟨λhi=>?_,c,el,by rw[gd id cw];exact j2,j3,λi y hi=>?_⟩
    .rcases hs.iH id hi with h1|h1|h1
     .exact j1 h1
     .exact pn h1
     .omega
    .obtain⟨v', m1,m2,m3⟩:=j4 i y hi
     exact⟨v', m1,VR.mono ev' _ _ m2,m3⟩
  .rcases sh _ _ _ _ k1 with⟨q1,q2,B,q3,rfl⟩|h1<;>rcases sh _ _ _ _ k2 with⟨q4,q5,B', q6,rfl⟩|h2
   .exact Pb.apart _ _ _ _ _ _ _ _ q3 (AH.symm.trans l1) q6 (AH.symm.trans l2) ax
   .have:=yH i1 ⟨_,_,B,q3,AH.symm.trans l1⟩
    have:=hg.lt ⟨b2,u2,B2,h2,l2⟩;omega
   .have:=yH i2 ⟨_,_,B', q6,AH.symm.trans l2⟩
    have:=hg.lt ⟨b1,u1,B1,h1,l1⟩;omega
   .exact hg.apart _ _ _ _ _ _ _ _ h1 l1 h2 l2 fg
  .rcases sh b u B' id h with⟨q1,q2,B,q3,rfl⟩|h'
   .obtain⟨es0,hl0,rfl⟩:=aaM hl
    obtain⟨j1,l,c,j2,j3⟩:=Pb.maps _ _ _ _ es0 q3 hl0;exact⟨j1,l,c,j2,MR.shift Ac j3⟩
   .have cw:=hg.lt ⟨_,_,_,h', mW hl⟩
    refine hg.dK (C' :=C') ev' h' hl (gd id cw) λhi=>?_;rcases hs.iH id hi with h1|h1|h1
    .exact(hg.maps _ _ _ _ _ h' hl).1 h1
    .exact pn h1
    .omega
  .obtain⟨b,u,B', h1,h2⟩:=hk
   rcases sh _ _ _ _ h1 with⟨q1,q2,B,q3,rfl⟩|h'
   .exact .inr (yH k ⟨_,_,B,q3,AH.symm.trans h2⟩)
   .exact .inl ⟨b,u,B', h', h2⟩
  .rcases hs.iH k hk with h1|h1|h1
   .exact .inl h1
   .exact absurd h1 pn
   .exact .inr (.inr h1)
end
end Ab
namespace Ab
open Go
variable{P:Program}
section
variable{a:Act}{ρ:Operand->Value}{r:Rf->AV}{w:World}{C:Ctx}{R:Operand->Rf->Bool}{ce:CE}{σ:aq}{nl:Nat}{ps:List dd}
def aaT{ids:Nat->Nat}{I:Nat->Prop}{o:Oper}{ca:Call}{t e:TypeId}{x:Operand}{x' : Rf}{zc:ao}{k:Option Nat}{z:AV}{dC : aq}(ho:o.op = .call ca) (hc:ca.callee = .builtin .clear) (ha:ca.args.toList=[x]) (na:ca.argTypes.toList=[t]) (ht:bF P t=aa e) (hk:cg P e k=ad) (hz:jB P e zc=ad) (hg:Good (aI σ ids I) w)
  (hx:VR (aI σ ids I) w.heap (r x') (a.eval x)) (he:gS ce σ r (.xF x' zc k)=aa (z,dC)):cm P o a w (k9 σ ids I w z dC):=by
 simp only[gS]at he;cases lh : r x' <;>simp only[lh]at he<;>try(simp at he;done)
 rename_i b u off len;cases hu:upto σ b u with
 |none=>simp[hu]at he
 |some B=>
  simp only[hu]at he;split at he
  case isFalse=>simp at he
  rename_i pD;obtain⟨c0,c1,c2,c3,c4⟩:=pD;simp only[ct,Prod.mk.injEq]at he;obtain⟨rfl,rfl⟩:=he;obtain⟨hb,ui,rp⟩:=uk hu;have hs:B.st = .live:=by revert c4;cases B.st<;>simp[fR.isLive]
  have dF:=pt ids I hu;subst ui;rw[lh]at hx;unfold VR at hx;have hx3:=hx.2.2 B _ dF;rw[hs]at hx3;obtain⟨c', Da, o', cap,yD, e,AJ,Zi,vE⟩:=hx3;rw[AJ ax]at e
  obtain⟨_,c,el,hH,hle,ql⟩:=hg.live b _ B _ dF hs;obtain⟨zv,z1,z2,z3⟩:=DN (C:=aI σ ids I) hz w;have OK:zv.cells.size=ba k:=by have:=cH.length z2;simp at this;omega
  obtain⟨d1,d2⟩:=Hz zc len;rw[c3]at d1 d2;have yB:ah (Builtin.zeroCells zv.cells len).toList=len*ba k:=by simp[Builtin.zeroCells,OK]
  obtain⟨g1,g2⟩:=yE (vals:=(Builtin.zeroCells zv.cells len).toList) (new:=fx len zc) (off:=off) hg dF hs (pC (u:=0) hb) hH ax ax (λj q hj=>by
   have cw:=(dp.1 hj).1;rw[d1]at cw;rw[d2 j cw]at hj;have Aa:0<ba k:=Nat.pos_of_ne_zero λh=>by rw[h]at cw;simp at cw
   obtain⟨y,k1,k2⟩:=z2.get (j%ba k) q hj;rw[jS]at k1;refine⟨y,?_,k2,z3 y (by rw[vO];exact Array.mem_of_getElem? k1)⟩
   have hm:=Nat.mod_lt j Aa;rw[mu (by omega:j%ba k<zv.cells.size)]at k1
   simp at k1;rw[jS];simp[Builtin.zeroCells,OK,cw,getElem!_def,mu (by omega:j%ba k<zv.cells.size),k1])
  obtain⟨pl,_⟩:=uj B.cells (fx len zc) off ax
  have ji:=rC (ids:=ids) (I:=I) (id' :=ids b) (B' :=⟨B.k,putAt B.cells off (fx len zc),B.st⟩) hb rp;have qm:(λq=>if q=b then ids b else ids q)=ids:=lf
  rw[qm]at ji;obtain⟨f1,f2⟩:=Good.shrink (C2:=aI (aV σ b ⟨B.k,putAt B.cells off (fx len zc),B.st⟩) ids I) g1 rfl (λb1 u1 e1 h1=>by
   have:=ji b1 u1 e1 h1;simp only[pl]at this;exact this) (λb1 u1 h1=>rD (ids:=ids) (I:=I) hb (by show _<=ah (putAt B.cells off (fx len zc));omega) b1 u1 h1)
  have ng:∀v∈(Builtin.zeroCells zv.cells len).toList,v.oneCell' = ad:=λv hv=>by
   obtain⟨j,hj⟩:=vX.1 hv;have cw:=(dp.1 hj).1;rw[yB]at cw;have Aa:0<ba k:=Nat.pos_of_ne_zero λh=>by rw[h]at cw;simp at cw
   have hm:=Nat.mod_lt j Aa;rw[jS]at hj;simp[Builtin.zeroCells,OK,cw,getElem!_def,mu (by omega:j%ba k<zv.cells.size)]at hj
   subst hj;exact z3 _ (by rw[vO];exact Array.getElem_mem _)
  have mA:=run_storeCells_at P (ids b) off el (Builtin.zeroCells zv.cells len).toList 0 c w hH ax ng
  simp only[Nat.add_zero]at mA;have DX : ca.args = #[x]:=by rw[<-Array.toList_inj];simpa using ha
  have aaU : ca.argTypes = #[t]:=by rw[<-Array.toList_inj];simpa using na
  obtain⟨n', rfl⟩:∃n', len=n' + 1:=⟨len-1,ax⟩
  refine cm.val (v:=.tuple #[]) (w' :=w.setRow (ids b) (c.toList.take off++(Builtin.zeroCells zv.cells (n' + 1)).toList++c.toList.drop (off+ah (Builtin.zeroCells zv.cells (n' + 1)).toList)).toArray) ?_ ⟨ids,I,f1,g2.trans f2,by unfold VR;trivial⟩
  simp only[execOp,ho,resolve,hc,DX, aaU, bJ,bX,bO,invoke,builtin,Builtin.clear_];simp[e,bJ,oy ht,z1,mA]
end
end Ab
namespace Ab
open Go
variable{P:Program}
section
variable{a:Act}{r:Rf->AV}{w:World}{C:Ctx}{R:Operand->Rf->Bool}{ce:CE}{σ:aq}{nl:Nat}{ps:List dd}
variable{o:Oper}{x:AV}{p:Option dd}
def Gv{b:Operand}{y:Rf}(d:o.op = .move b\/o.op = .assign b) (g:Good C w) (h:VR C w.heap (r y) (a.eval b)) (e:ev ce σ nl ps r (.mv y)=aa (x,p)) :
  cm P o a w (dL C w x)/\p=ab:=by
 simp[ev]at e;obtain⟨rfl,rfl⟩:=e;refine⟨cm.val (v:=a.eval b) (w' :=w) ?_ (dL.same g h),rfl⟩;rcases d with d|d<;>simp only[execOp,d,bX]
def dN.o8:dN->Bool
 |.iA _ | .kP ..=>ad
 |_=>ae
def aaV{x:Rf}{d e:Option Rf}{st:Nat}{z:AV×Option dd}(h:ev ce σ nl ps r (.NK x d e st)=aa z):ev ce [] nl ps r (.qp x d e st)=aa z:=by
 simp only[ev]at h ⊢;cases g:uq r d with
 |none=>simp[g]at h
 |some a=>
  cases i:ur r e with
  |none=>simp[g,i]at h
  |some b=>
   simp only[g,i]at h ⊢;cases j:r x<;>simp only[j]at h ⊢<;>first|exact h|simp at h
variable{rG:dN}
def opP(d:nj P R o.op rG=ad) (l:rG.lj=ad) (D:rG.o8=ae) (A:cR P ce) (E:eT P ce) (q:Good C w)
  (g:∀x y,R x y=ad->VR C w.heap (r y) (a.eval x)) (H:r (.c (.int 0)) = .int 0) (j:ev ce σ nl ps r rG=aa (x,p)):cm P o a w (dL C w x)/\p=ab:=by
 obtain⟨dst,op,type,pos,after,guard⟩:=o;have pl:∀{K : AV} {L : Option dd},Plain P a.eval ⟨dst,op,type,pos,after,guard⟩ w C w.heap K /\L = ab->cm P ⟨dst,op,type,pos,after,guard⟩ a w (dL C w K)/\L = ab:=λh=>⟨h.1.does q,h.2⟩;simp only[nj]at d;split at d
 .exact Gv (.inl rfl) q (g _ _ d) j
 .exact Gv (.inr rfl) q (g _ _ d) j
 .simp[dN.lj]at l
 .simp only[bd]at d
  exact pl (aaW rfl d.1.1 (g _ _ d.1.2) (g _ _ d.2) j)
 .simp only[bd]at d
  exact pl (aaX rfl d.1.1.1 d.1.1.2 (g _ _ d.1.2) (g _ _ d.2) j)
 .simp only[bd]at d
  exact pl (aaY rfl d.1.1.1 d.1.1.2 (g _ _ d.1.2) (g _ _ d.2) j)
 .simp[dN.lj]at l
 .exact pl (aaZ rfl (g _ _ d) j)
 .exact pl (aa0 rfl (g _ _ d) H j)
 .simp only[bd]at d
  exact pl (aa1 rfl (g _ _ d.1.1) (g _ _ d.1.2) (g _ _ d.2) j)
 .split at d
  .rename_i F I
   simp only[bd]at d;exact pl (aa2 rfl rfl F I d.1 (g _ _ d.2) j)
  .simp at d
 .split at d
  .rename_i F
   simp only[bd]at d;exact pl (Gx (m:=ad) rfl rfl F (g _ _ d.1) (g _ _ d.2) j)
  .simp at d
 .split at d
  .rename_i F
   simp only[bd]at d;exact pl (Gx (m:=ae) rfl rfl F (g _ _ d.1) (g _ _ d.2) j)
  .simp at d
 .simp only[bd]at d
  obtain⟨i,n⟩:=d;split at i
  .rename_i fs M
   split at i
   .rename_i S N
    simp only[bd,dA,Bool.not_eq_true']at i;exact pl (aa3 rfl M N i.1.1 i.1.2 i.2 (g _ _ n) j)
   .simp at i
  .simp at i
 .simp only[bd]at d
  obtain⟨⟨i,n⟩,s⟩:=d;split at i
  .rename_i e z
   exact pl (aa4 rfl z i (g _ _ n) (g _ _ s) j)
  .simp at i
 .simp only[bd]at d
  obtain⟨⟨i,n⟩,s⟩:=d;split at i
  .rename_i m e z
   simp only[bd,dA,fy]at i;obtain⟨⟨rfl,O⟩,_⟩:=i;exact pl (aa5 rfl z O (g _ _ n) (g _ _ s) j)
  .simp at i
 .exact pl (aa6 rfl (g _ _ d) j)
 .exact aai rfl q (g _ _ d) j
 .simp[dN.lj]at l
 .simp[dN.lj]at l
 .simp[dN.o8]at D
 .simp[dN.o8]at D
 .simp[dN.lj]at l
 .simp[dN.lj]at l
 .simp only[bd]at d
  exact pl (Pd rfl d.1 (g _ _ d.2) j)
 .simp only[bd]at d
  exact pl (aa7 rfl d.1 d.2 g j)
 .simp only[bd,dA]at d
  obtain⟨rfl,n⟩:=d;exact pl (aa8 rfl (g _ _ n) j)
 .simp only[bd,dA]at d
  obtain⟨⟨i,rfl⟩,n⟩:=d;exact pl (aa9 rfl i (oD g n) j)
 .simp only[bd,dA]at d
  obtain⟨⟨rfl,i⟩,n⟩:=d;exact pl (aba rfl i (g _ _ n) j)
 .simp only[bd]at d
  obtain⟨⟨⟨i,n⟩,s⟩,G⟩:=d;split at i
  .rename_i e z
   simp only[bd,fy]at i;exact aak rfl z i.1.1 i.1.2 i.2 n s q (oD g G) j
  .simp at i
 .simp only[bd]at d
  obtain⟨⟨⟨i,n⟩,s⟩,G⟩:=d;split at i
  .rename_i e z
   simp only[bd,fy]at i;exact OE rfl z i.1.1 i.1.2 i.2 n s q (oD g G) j
  .simp at i
 .simp[dN.lj]at l
 .simp[dN.lj]at l
 .simp only[bd]at d
  exact pl (abb rfl d.1 (g _ _ d.2) j)
 .simp[dN.lj]at l
 .simp[dN.lj]at l
 .simp[dN.lj]at l
 .simp only[bd,dA]at d
  obtain⟨⟨rfl,i⟩,n⟩:=d;exact aad A rfl rfl i q (oD g n) j
 .simp[dN.lj]at l
 .simp[dN.lj]at l
 .simp[dN.lj]at l
 .simp only[bd]at d
  exact aae A E rfl rfl q (g _ _ d.1) (oD g d.2) j
 .simp[dN.lj]at l
 .simp only[bd]at d
  exact aag A E rfl rfl d.2 q (g _ _ d.1.1) (oD g d.1.2) j
 .simp[dN.lj]at l
 .simp[dN.lj]at l
 .simp[dN.lj]at l
 .simp[dN.lj]at l
 .simp[dN.lj]at l
 .simp[dN.lj]at l
 .simp only[bd]at d
  exact pl (abc rfl d.1 (g _ _ d.2) j)
 .simp[dN.lj]at l
 .simp[dN.lj]at l
 .simp[dN.lj]at l
 .simp only[bd]at d
  exact aaj rfl d.1 q (g _ _ d.2) j
 .simp only[bd]at d
  exact pl (abd rfl d.1.1 (g _ _ d.1.2) (g _ _ d.2) j)
 .simp only[bd]at d
  exact pl (abe rfl d.1 (g _ _ d.2) j)
 .simp only[bd]at d
  exact pl (abf rfl (g _ _ d.1) (g _ _ d.2) j)
 .simp only[bd]at d
  exact pl (abg rfl d.1.1.1 d.1.1.2 (g _ _ d.1.2) (g _ _ d.2) j)
 .simp only[bd]at d
  obtain⟨⟨⟨i,n⟩,s⟩,G⟩:=d;split at i
  .rename_i e z
   have J : ev ce [] nl ps r (.qp _ _ _ _)=aa (x,p):=aaV j;exact pl (HN (σ:=[]) rfl z i (λb u B _ Q=>by simp[upto,aQ]at Q) (g _ _ n) s G g J)
  .simp at i
 .simp only[bd,dA]at d
  obtain⟨⟨i,n⟩,s⟩:=d;split at i
  .rename_i e z
   simp only[bd]at i;exact aal rfl z i.1 i.2 n s q j
  .simp at i
 .simp only[bd]at d
  exact pl (abh rfl d.1.1.1 d.1.1.2 (g _ _ d.1.2) (g _ _ d.2) j)
 .simp at d
def abi(h:cm P o a w (dL C w x)/\p=ab):cm P o a w (jR nl C w x p):=by
 obtain⟨b,rfl⟩:=h;exact b.mono λv d h=>h.e
def opE(d:nj P R o.op rG=ad) (V:rG.mb=ae) (I:rG.o8=ae) (F:cR P ce) (J:eT P ce) (m:Good C w)
  (A:∀b u B,C.lim b u->gI σ b u=aa B->∃id,C.own b u=aa (B,id)) (S:rG.lj=ae->(∀f as,rG ≠ .can f as)->∀u,¬C.lim nl u) (K:∀l,p=aa (.news l)->∀b u,nl<=b->b<nl+ah l->¬C.lim b u)
  (L:∀b u B cs,upto σ b u=aa B->p=aa (.grow b cs)->qj b ps=ae->(∀n,u<n->¬C.lim b n)/\∀u' B' id', C.own b u' = aa (B', id')->u' = u)
  (i:∀x y,R x y=ad->VR C w.heap (r y) (a.eval x)) (M:r (.c (.int 0)) = .int 0) (j:ev ce σ nl ps r rG=aa (x,p)):cm P o a w (jR nl C w x p):=by
 by_cases N:rG.lj=ad
 .obtain⟨g,rfl⟩:=opP d N I F J m i M j
  exact g.mono λv W h=>h.e
 have O : rG.lj=ae:=by simpa using N
 have z:∀b u B,C.lim b u->upto σ b u=aa B->∃id,C.own b u=aa (B,id):=λb u B X h=>A b u B X (Pe h);have q:=S O;clear S;obtain⟨dst,op,type,pos,after,guard⟩:=o;have pl:∀{T : AV} {U : Option dd},Plain P a.eval ⟨dst,op,type,pos,after,guard⟩ w C w.heap T /\U = ab->cm P ⟨dst,op,type,pos,after,guard⟩ a w (jR nl C w T U):=λh=>by
  obtain⟨g,rfl⟩:=h;exact(g.does m).mono λv W h=>h.e
 simp only[nj]at d;split at d
 all_goals first
  |(exfalso;exact N rfl)
  |(exfalso;simp[dN.mb]at V;done)
  |skip
 .exact OM rfl d m (q aA) j
 .simp only[bd,Bool.or_eq_true]at d
  exact pl (Pf (a:=a) rfl rfl d.1.1 d.1.2 z (d.2.imp (λh=>⟨h.1,i _ _ h.2⟩) (λh=>⟨h.1,i _ _ h.2⟩)) j)
 .simp only[bd]at d
  exact aam rfl m (q aA) (i _ _ d.2) j
 .simp only[bd]at d
  exact aan rfl d.1 m (q aA) j
 .simp only[bd]at d
  exact pl (AK rfl d.1 m z (i _ _ d.2) j)
 .simp only[bd]at d
  obtain⟨⟨⟨g,s⟩,E⟩,H⟩:=d;split at g
  .rename_i e D
   simp only[bd,fy]at g;exact aao rfl D g.1.1 g.1.2 g.2 s E m (q aA) (oD i H) j
  .simp at g
 .simp only[bd]at d
  obtain⟨⟨⟨g,s⟩,E⟩,H⟩:=d;split at g
  .rename_i e D
   exact pl (HN rfl D g z (i _ _ s) E H i j)
  .simp at g
 .simp only[bd]at d
  obtain⟨⟨g,s⟩,E⟩:=d;split at g
  .rename_i e D
   simp only[bd]at g;exact aap rfl D g.1.1 g.1.2 g.2 m (q aA) (i _ _ s) (i _ _ E) j
  .simp at g
 .split at d
  .rename_i Q G
   simp only[bd]at d;obtain⟨⟨⟨g,s⟩,E⟩,H⟩:=d;split at g
   .rename_i e D
    simp only[bd]at g;exact aaA rfl rfl Q G D s g.1.1 g.1.2 g.2 m z (q aA) L (i _ _ E) (i _ _ H) j
   .simp at g
  .simp at d
 .simp only[bd,dA]at d
  obtain⟨⟨rfl,g⟩,s⟩:=d;exact abi (Oz F rfl rfl g m z (oD i s) j)
 .simp only[bd,dA]at d
  obtain⟨⟨rfl,g⟩,s⟩:=d;exact aaS F rfl rfl g m K (oD i s) j
 .exact aar rfl m (q aA) j
 .simp only[bd,dA]at d
  obtain⟨⟨⟨g,rfl⟩,s⟩,E⟩:=d;split at g
  .rename_i D
   simp only[bd]at g;exact pl (Pg rfl D g.1 g.2 m A (i _ _ s) (i _ _ E) j)
  .simp at g
 .split at d
  .rename_i Q G
   simp only[bd]at d;obtain⟨g,s⟩:=d;split at g
   .rename_i D
    exact pl (Ph rfl rfl Q G D m A (i _ _ s) j)
   .simp at g
  .simp at d
 .simp only[bd]at d
  exact pl (OR rfl d.1 m z (i _ _ d.2) j)
 .simp at d
end
end Ab
