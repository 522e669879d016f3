/- Memory, and each operation that makes, lengthens or turns blocks, is what the small language says. Condition: the callees answer as the interpreter says. Two more operations of Go's: the capacity of a nil slice, and clear. One operation of a phase, whatever it is. Condition: the callees answer as the interpreter says. Condition: none. -/
import Derived.Test.YtdenhmniigikcaaGreatAbM
import Derived.Great.BuildSlice
import Derived.Laws.CopyRow
import Derived.Laws.BytesString
import Derived.Lib.ConvBytes
import Derived.Laws.AppendOwn
set_option linter.all false
namespace Ab
open Go
variable{P:Program}
def bF (P:Program) (o:Oper) (a:Act) (w:World) (kE:Value->World->Prop):Prop:=
 ∀(K:Act->World->Prop) (Q:Exit->Act->World->Prop),(∀v w', kE v w' ->K (a.put o.dst v) w')->o.wp P a w K Q
theorem bF.val{o:Oper}{a:Act}{w w' : World}{v:Value}{kE:Value->World->Prop}(h:(execOp a.eval o).run P w = .ok (.value v) w') (hp:kE v w'):bF P o a w kE:=λK Q hk=>by
 unfold Oper.wp;rw[h];exact hk _ _ hp
theorem bF.skip{o:Oper}{a:Act}{w w' : World}{kE:Value->World->Prop}(h:(execOp a.eval o).run P w = .ok .skip w') (hp:kE undef w'):bF P o a w kE:=λK Q hk=>by
 unfold Oper.wp;rw[h];exact hk _ _ hp
theorem bF.call{o:Oper}{a:Act}{w:World}{f:FuncId}{args:Array Value}{kE:Value->World->Prop}(h:(execOp a.eval o).run P w = .ok (.enter f args) w)
  (hc:Calls P f args w λe w' =>∃v,e = .returned v/\kE v w'):bF P o a w kE:=λK Q hk=>by
 unfold Oper.wp;rw[h];show Calls P f args w _;exact hc.mono λe w' ⟨v,he,hp⟩=>by subst he;exact hk _ _ hp
theorem bF.mono{o:Oper}{a:Act}{w:World}{kE Gd : Value->World->Prop}(h:bF P o a w kE) (hp:∀v w', kE v w' ->Gd v w'):bF P o a w Gd :=
 λK Q hk=>h K Q λv w' h' =>hk v w' (hp v w' h')
def cq (w:World) (o:Obj):World:={w with heap:=w.heap.push o}
theorem my (w:World) (o:Obj){k:Nat}(h:k<w.heap.size):(cq w o).heap[k]? = w.heap[k]?:=by
 show(w.heap.push o)[k]? = _;rw[Array.getElem?_push,ab (by omega)]
theorem oA (w:World) (o:Obj):(cq w o).heap[w.heap.size]? = some o:=by
 show(w.heap.push o)[w.heap.size]? = _;simp
theorem ye (w:World) (el:TypeId) (cs:Array Value):(newRow el cs).run P w = .ok ⟨w.heap.size,0,none⟩ (cq w (.cells cs el)):=rfl
theorem Bo (w:World) (t:TypeId) (v:Value):(newVar t v).run P w = .ok ⟨w.heap.size,0,none⟩ (cq w (.cells v.cells t)):=rfl
theorem Good.grow{C:Ctx}{w w' : World}(hg:Good C w) (hs:w.heap.size<=w'.heap.size) (du:∀k,k<w.heap.size->w'.heap[k]? = w.heap[k]?):Good C w' /\fR C w.heap C w'.heap:=by
 have ev:fR C w.heap C w'.heap:=by
  refine⟨λ_ h=>h,λk hk=>du k (hg.I k hk),λ_ _ h=>h,λb u B' id _ ho=>⟨B', ho,rfl,rfl,λc el hc=>⟨c,?_,rfl⟩⟩⟩;rw[du id (jh.1 hc).1];exact hc
 refine⟨⟨λk hk=>Nat.lt_of_lt_of_le (hg.I k hk) hs,hg.kU,λb u B id ho hl=>?_,hg.apart,λb u B id es ho hl=>hg.da ev ho hl (du id (hg.lt ⟨b,u,B,ho,lE hl⟩)) (hg.maps b u B id es ho hl).1⟩,ev⟩;obtain⟨h1,c,el,h2,h3,h4⟩:=hg.live b u B id ho hl;refine⟨h1,c,el,by rw[du id (jh.1 h2).1];exact h2,h3,λi x hi=>?_⟩
 obtain⟨y,g1,g2,g3⟩:=h4 i x hi;exact⟨y,g1,VR.mono ev _ _ g2,g3⟩
theorem Good.oB{C:Ctx}{w w' : World}(hg:Good C w) (hs:w.heap.size<=w'.heap.size) (du:∀k,k<w.heap.size->w'.heap[k]? = w.heap[k]?) (I' : Nat->Prop) (h1:∀k,C.I k->I' k) (h2:∀k,I' k->k<w'.heap.size)
  (h3:∀k,I' k->C.I k\/w.heap.size<=k) (ho:w'.os=w.os) (ht:w'.tape=w.tape/\w.drawn<=w'.drawn) (Hr:w'.output=w.output):Good {C with I:=I'} w' /\Step C w {C with I:=I'} w' :=by
 have ev:fR C w.heap {C with I:=I'} w'.heap:=by
  refine⟨h1,λk hk=>du k (hg.I k hk),λ_ _ h=>h,λb u B' id _ ho=>⟨B', ho,rfl,rfl,λc el hc=>⟨c,?_,rfl⟩⟩⟩;rw[du id (jh.1 hc).1];exact hc
 refine⟨⟨h2,hg.kU,λb u B id ho hl=>?_,hg.apart,λb u B id es ho hl=>hg.da ev ho hl (du id (hg.lt ⟨b,u,B,ho,lE hl⟩)) (λhi=>(h3 id hi).elim (hg.maps b u B id es ho hl).1 (λh=>by have:=hg.lt ⟨b,u,B,ho,lE hl⟩;omega))⟩,⟨ev,hs,λk hk _=>du k hk,λk hk=>.inl hk,λk hk=>(h3 k hk).elim .inl (λh=>.inr (.inr h)),ho,ht,Hr⟩⟩
 obtain⟨g1,c,el,g2,g3,g4⟩:=hg.live b u B id ho hl;have aK:=(jh.1 g2).1;refine⟨λhi=>(h3 id hi).elim g1 (λh=>by omega),c,el,by rw[du id aK];exact g2,g3,λi x hi=>?_⟩
 obtain⟨y,k1,k2,k3⟩:=g4 i x hi;exact⟨y,k1,VR.mono ev _ _ k2,k3⟩
theorem Ht{C:Ctx}{w:World}(hg:Good C w) (c:Array Value) (el:TypeId):Good {C with I:=λk=>C.I k\/k=w.heap.size} (cq w (.cells c el))/\Step C w {C with I:=λk=>C.I k\/k=w.heap.size} (cq w (.cells c el)):=
 hg.oB (by simp[cq]) (λk hk=>my w _ hk) _ (λk hk=>.inl hk) (λk hk=>hk.elim (λh=>by have:=hg.I k h;simp[cq];omega) (λh=>by simp[cq];omega))
  (λk hk=>hk.elim .inl (λh=>.inr (by omega))) rfl ⟨rfl,bA _⟩ rfl
def ar (C:Ctx) (b u:Nat) (e:ag×Nat):Ctx where
 I:=C.I
 own:=λb' u' =>if b' = b/\u' = u then some e else C.own b' u'
 lim:=λb' u' =>(b' = b/\u' = u)\/C.lim b' u'
theorem Bp{C:Ctx}{w:World}(hg:Good C w){b:Nat}(B:ag) (hb:¬C.lim b B.cells.length) (c:Array Value) (el:TypeId) (bV:B.st = .live) (hle:B.cells.length<=c.size)
  (hc:∀(i:Nat) x,B.cells[i]? = some x->∃y,c[i]? = some y/\VR C w.heap x y/\y.oneCell' = true) :
  Good (ar C b B.cells.length (B,w.heap.size)) (cq w (.cells c el))/\Step C w (ar C b B.cells.length (B,w.heap.size)) (cq w (.cells c el)):=by
 have ev:fR C w.heap (ar C b B.cells.length (B,w.heap.size)) (cq w (.cells c el)).heap:=by
  refine⟨λ_ h=>h,λk hk=>my w _ (hg.I k hk),λ_ _ h=>.inr h,λb' u' B' id hl ho=>?_⟩;have b8:¬(b' = b/\u' = B.cells.length):=λ⟨e1,e2⟩=>hb (e1▸e2▸hl);simp only[ar,ab b8]at ho;refine⟨B', ho,rfl,rfl,λc' mi ga =>⟨c', ?_,rfl⟩⟩;rw[my w _ (jh.1 ga).1];exact ga
 have aK:∀k,owned C k->k<w.heap.size:=λk hk=>hg.lt hk;refine⟨⟨λk hk=>by have:=hg.I k hk;simp[cq];omega,λb' u' B' id ho=>?_,λb' u' B' id ho hl=>?_,λb1 u1 B1 i1 b2 u2 B2 i2 h1 l1 h2 l2 b8=>?_,λb' u' B' id es ho hl=>?_⟩,
  ⟨ev,by simp[cq],λk hk _=>my w _ hk,λk hk=>?_,λk hk=>.inl hk,rfl,⟨rfl,bA _⟩,rfl⟩⟩
 ·by_cases he:b' = b/\u' = B.cells.length
  ·simp only[ar,ae he]at ho
   simp at ho;obtain⟨rfl,rfl⟩:=ho;exact⟨.inl he,he.2,λh=>by rw[bV]at h;simp at h,by rw[bV];simp⟩
  ·simp only[ar,ab he]at ho
   obtain⟨k1,k2,k3,k4⟩:=hg.kU b' u' B' id ho;exact⟨.inr k1,k2,k3,k4⟩
 ·by_cases he:b' = b/\u' = B.cells.length
  ·simp only[ar,ae he]at ho
   simp at ho;obtain⟨rfl,rfl⟩:=ho;refine⟨λhi=>Nat.lt_irrefl _ (hg.I _ hi),c,el,oA w _,hle,λi x hi=>?_⟩;obtain⟨y,k1,k2,k3⟩:=hc i x hi;exact⟨y,k1,VR.mono ev _ _ k2,k3⟩
  ·simp only[ar,ab he]at ho
   obtain⟨k1,c', mi, k2,k3,k4⟩:=hg.live b' u' B' id ho hl;refine⟨k1,c', mi, by rw[my w _ (jh.1 k2).1];exact k2,k3,λi x hi=>?_⟩
   obtain⟨y,j1,j2,j3⟩:=k4 i x hi;exact⟨y,j1,VR.mono ev _ _ j2,j3⟩
 ·by_cases e1:b1=b/\u1=B.cells.length<;>by_cases e2:b2=b/\u2=B.cells.length
  ·exact absurd (e1.1.trans e2.1.symm) b8
  ·simp only[ar,ae e1]at h1;simp only[ar,ab e2]at h2
   simp at h1;obtain⟨rfl,rfl⟩:=h1;have:=aK i2 ⟨b2,u2,B2,h2,l2⟩;omega
  ·simp only[ar,ab e1]at h1;simp only[ar,ae e2]at h2
   simp at h2;obtain⟨rfl,rfl⟩:=h2;have:=aK i1 ⟨b1,u1,B1,h1,l1⟩;omega
  ·simp only[ar,ab e1]at h1;simp only[ar,ab e2]at h2
   exact hg.apart b1 u1 B1 i1 b2 u2 B2 i2 h1 l1 h2 l2 b8
 ·by_cases he:b' = b/\u' = B.cells.length
  ·simp only[ar,ae he]at ho
   simp at ho;obtain⟨rfl,rfl⟩:=ho;rw[bV]at hl;simp at hl
  ·simp only[ar,ab he]at ho
   exact hg.da (C' :=ar C b B.cells.length (B,w.heap.size)) (w' :=cq w (.cells c el)) ev ho hl (my w _ (aK id ⟨b', u', B', ho,lE hl⟩)) (hg.maps b' u' B' id es ho hl).1
 ·obtain⟨b', u', B', ho,hl⟩:=hk
  by_cases he:b' = b/\u' = B.cells.length
  ·simp only[ar,ae he]at ho
   simp at ho;right;omega
  ·simp only[ar,ab he]at ho
   exact .inl ⟨b', u', B', ho,hl⟩
theorem XU{C:Ctx}{w:World}(hg:Good C w){b:Nat}(hb:¬C.lim b 0) :
  Good (ar C b 0 (⟨some 0,[],.map []⟩,w.heap.size)) (cq w (.map #[] 0))/\Step C w (ar C b 0 (⟨some 0,[],.map []⟩,w.heap.size)) (cq w (.map #[] 0)):=by
 have ev:fR C w.heap (ar C b 0 (⟨some 0,[],.map []⟩,w.heap.size)) (cq w (.map #[] 0)).heap:=by
  refine⟨λ_ h=>h,λk hk=>my w _ (hg.I k hk),λ_ _ h=>.inr h,λb' u' B' id hl ho=>?_⟩;have b8:¬(b' = b/\u' = 0):=λ⟨e1,e2⟩=>hb (e1▸e2▸hl);simp only[ar,ab b8]at ho;refine⟨B', ho,rfl,rfl,λc' mi ga =>⟨c', ?_,rfl⟩⟩;rw[my w _ (jh.1 ga).1];exact ga
 have aK:∀k,owned C k->k<w.heap.size:=λk hk=>hg.lt hk;refine⟨⟨λk hk=>by have:=hg.I k hk;simp[cq];omega,λb' u' B' id ho=>?_,λb' u' B' id ho hl=>?_,λb1 u1 B1 i1 b2 u2 B2 i2 h1 l1 h2 l2 b8=>?_,λb' u' B' id es ho hl=>?_⟩,
  ⟨ev,by simp[cq],λk hk _=>my w _ hk,λk hk=>?_,λk hk=>.inl hk,rfl,⟨rfl,bA _⟩,rfl⟩⟩
 ·by_cases he:b' = b/\u' = 0
  ·simp only[ar,ae he]at ho
   simp at ho;obtain⟨rfl,rfl⟩:=ho;exact⟨.inl he,he.2,λh=>by simp at h,by simp⟩
  ·simp only[ar,ab he]at ho
   obtain⟨k1,k2,k3,k4⟩:=hg.kU b' u' B' id ho;exact⟨.inr k1,k2,k3,k4⟩
 ·by_cases he:b' = b/\u' = 0
  ·simp only[ar,ae he]at ho
   simp at ho;obtain⟨rfl,rfl⟩:=ho;simp at hl
  ·simp only[ar,ab he]at ho
   obtain⟨k1,c', mi, k2,k3,k4⟩:=hg.live b' u' B' id ho hl;refine⟨k1,c', mi, by rw[my w _ (jh.1 k2).1];exact k2,k3,λi x hi=>?_⟩
   obtain⟨y,j1,j2,j3⟩:=k4 i x hi;exact⟨y,j1,VR.mono ev _ _ j2,j3⟩
 ·by_cases e1:b1=b/\u1=0<;>by_cases e2:b2=b/\u2=0
  ·exact absurd (e1.1.trans e2.1.symm) b8
  ·simp only[ar,ae e1]at h1;simp only[ar,ab e2]at h2
   simp at h1;obtain⟨rfl,rfl⟩:=h1;have:=aK i2 ⟨b2,u2,B2,h2,l2⟩;omega
  ·simp only[ar,ab e1]at h1;simp only[ar,ae e2]at h2
   simp at h2;obtain⟨rfl,rfl⟩:=h2;have:=aK i1 ⟨b1,u1,B1,h1,l1⟩;omega
  ·simp only[ar,ab e1]at h1;simp only[ar,ab e2]at h2
   exact hg.apart b1 u1 B1 i1 b2 u2 B2 i2 h1 l1 h2 l2 b8
 ·by_cases he:b' = b/\u' = 0
  ·simp only[ar,ae he]at ho
   simp at ho;obtain⟨rfl,rfl⟩:=ho;simp at hl;subst hl;exact⟨λhi=>Nat.lt_irrefl _ (hg.I _ hi),#[],0,oA w _,rfl⟩
  ·simp only[ar,ab he]at ho
   exact hg.da (C' :=ar C b 0 (⟨some 0,[],.map []⟩,w.heap.size)) (w' :=cq w (.map #[] 0)) ev ho hl (my w _ (aK id ⟨b', u', B', ho,lE hl⟩)) (hg.maps b' u' B' id es ho hl).1
 ·obtain⟨b', u', B', ho,hl⟩:=hk
  by_cases he:b' = b/\u' = 0
  ·simp only[ar,ae he]at ho
   simp at ho;right;omega
  ·simp only[ar,ab he]at ho
   exact .inl ⟨b', u', B', ho,hl⟩
end Ab
set_option linter.all false
namespace Ab
open Go
variable{P:Program}
def cz (P:Program) (ce:CE):Prop:=
 ∀f args σ r bp, ce f args σ=some (r,bp)->∀(ids:Nat->Nat) (I:Nat->Prop) (w:World) (vs:List Value),Good (af σ ids I) w->cm (af σ ids I) w.heap args vs->
  Calls P f vs.toArray w λe w' =>∃v aJ I', e = .returned v/\Good (af bp aJ I') w' /\VR (af bp aJ I') w'.heap r v/\Step (af σ ids I) w (af bp aJ I') w'
def dc (C:Ctx) (w:World) (x:AV) (v:Value) (w' : World):Prop:=
 ∃I', Good {C with I:=I'} w' /\Step C w {C with I:=I'} w' /\VR {C with I:=I'} w'.heap x v
theorem dc.same{C:Ctx}{w:World}{x:AV}{v:Value}(hg:Good C w) (h:VR C w.heap x v):dc C w x v w:=⟨C.I,hg,Step.refl _ _,h⟩
theorem Mn{C:Ctx}{w:World}(hg:Good C w) (ids:Nat->Nat):Good (af [] ids C.I) w:=
 ⟨hg.I,λb u B id h=>by simp[af,al]at h,λb u B id h=>by simp[af,al]at h,λb u B id b' u' B' id' h=>by simp[af,al]at h,λb u B id es h=>by simp[af,al]at h⟩
theorem nD{ids:Nat->Nat}{I:Nat->Prop}{k:Nat}:¬owned (af [] ids I) k:=λ⟨b,u,B,h,_⟩=>by simp[af,al]at h
theorem yg{ce:CE}(dM:cz P ce){f:Nat}{args:List AV}{x:AV}(h:je ce f args=some x){C:Ctx}{w:World}(hg:Good C w){vs:List Value}(hv:cm C w.heap args vs) :
  Calls P f vs.toArray w λe w' =>∃v,e = .returned v/\dc C w x v w' :=by
 unfold je at h;split at h<;>try(simp at h;done)
 rename_i hn;cases hc:ce f (args.map wk) []with
 |none=>simp[hc]at h
 |some rs=>
  obtain⟨v0,bp⟩:=rs;simp only[hc]at h;have qG:cm (af [] (λ_=>0) C.I) w.heap (args.map wk) vs:=(cm.free (show oC C w.heap (af [] (λ_=>0) C.I) w.heap from⟨λ_ h=>h,λ_ _=>rfl⟩) _ _ hn hv).wk;refine(dM f _ [] v0 bp hc (λ_=>0) C.I w vs (Mn hg _) qG).mono ?_;rintro e w' ⟨v,aJ, I', rfl,xz,hr,hs⟩;refine⟨v,rfl,?_⟩
  let I2:Nat->Prop:=λk=>I' k\/owned (af bp aJ I') k
  have pL:=Mp (C2:={C with I:=I2}) (λb u B _ hb=>⟨_,lF aJ I' hb⟩) xz (fr:=false) ⟨λ_ k hk=>.inl hk,λk hk=>.inr hk⟩ h hr
  obtain⟨h1,h2⟩:=hg.oB hs.size (λk hk=>hs.frame k hk nD) I2 (λk hk=>.inl (hs.ev.aE k hk)) (λk hk=>hk.elim (xz.I k) xz.lt)
   (λk hk=>hk.elim (λh=>(hs.gD k h).elim .inl (λh=>h.elim (λh=>absurd h nD) .inr)) (λh=>(hs.gd k h).elim (λh=>absurd h nD) .inr)) hs.os hs.tape hs.output
  exact⟨I2,h1,h2,pL⟩
theorem XV{ce:CE}(dM:cz P ce){σ:List ag}{f:Nat}{args vf : List AV}{v0 x:AV}{bp : List ag}(h1:bZ (view σ false vd) args=some vf) (h2:ce f vf []=some (v0,bp)) (h3:cx bp true v0=some x)
  {C:Ctx} {w:World} (hg:Good C w) (db:∀b u B,C.lim b u->upto σ b u=some B->∃id,C.own b u=some (B,id)) {vs:List Value} (hv:cm C w.heap args vs) :
  Calls P f vs.toArray w λe w' =>∃v,e = .returned v/\dc C w x v w' :=by
 let I0:Nat->Prop:=λk=>C.I k\/owned C k
 have Mq:Good (af [] (λ_=>0) I0) w:=
  ⟨λk hk=>hk.elim (hg.I k) hg.lt,λb u B id h=>by simp[af,al]at h,λb u B id h=>by simp[af,al]at h,λb u B id b' u' B' id' h=>by simp[af,al]at h,λb u B id es h=>by simp[af,al]at h⟩
 have qG:cm (af [] (λ_=>0) I0) w.heap vf vs:=
  (yh (λx y v hx hv=>Br (C2:=af [] (λ_=>0) I0) db hg (fr:=false) ⟨λ_ k hk=>.inl hk,λk hk=>.inr hk⟩ vd x y v hx hv) h1 hv).2
 refine(dM f vf [] v0 bp h2 (λ_=>0) I0 w vs Mq qG).mono ?_;rintro e w' ⟨v,aJ, I', rfl,xz,hr,hs⟩;refine⟨v,rfl,?_⟩
 let I2:Nat->Prop:=λk=>C.I k\/owned (af bp aJ I') k
 have pL:=Mp (C2:={C with I:=I2}) (λb u B _ hb=>⟨_,lF aJ I' hb⟩) xz (fr:=true) ⟨λh=>by simp at h,λk hk=>.inr hk⟩ h3 hr
 obtain⟨g1,g2⟩:=hg.oB hs.size (λk hk=>hs.frame k hk nD) I2 (λk hk=>.inl hk) (λk hk=>hk.elim (λh=>Nat.lt_of_lt_of_le (hg.I k h) hs.size) xz.lt)
  (λk hk=>hk.elim .inl (λh=>(hs.gd k h).elim (λh=>absurd h nD) .inr)) hs.os hs.tape hs.output
 exact⟨I2,g1,g2,pL⟩
section
variable{a:Act}{r:Rf->AV}{w:World}{C:Ctx}{R:Operand->Rf->Bool}{ce:CE}{σ:List ag}{nl:Nat}{ps:List aZ}
theorem Plain.does{o:Oper}{x:AV}(hg:Good C w) (h:Plain P a.eval o w C w.heap x):bF P o a w (dc C w x):=by
 obtain⟨v,h1,h2⟩:=h;exact bF.val h1 (dc.same hg h2)
theorem yi{f:Nat}(h:cM P f=true) (args:Array Value) (w:World):(callFunc f args).run P w = .ok (.enter f args) w:=by
 unfold cM at h;cases hf:P.funcs[f]? with
 |none=>simp[hf]at h
 |some fn=>
  simp[hf]at h;simp only[callFunc,aL,program,Sem.run,aS,hf];rw[ab (by simpa using h.2)]
  cases hb:fn.body with
  |none=>simp[hb]at h
  |some b=>simp
theorem Bt{o:Oper}{ca:Call}{f:Nat}(ho:o.op = .call ca) (hc:ca.callee = .value (.func f)) (hb:cM P f=true) (w:World) :
  (execOp a.eval o).run P w = .ok (.enter f (ca.args.toList.map a.eval).toArray) w:=by
 have:ca.args.map a.eval=(ca.args.toList.map a.eval).toArray:=by rw[<-Array.toList_inj];simp
 simp only[execOp,ho,resolve,hc,aL,Act.eval,Deferred.ofValue,bh,aS,invoke];simp only[Array.append_empty,Array.empty_append];rw[show Array.map a.eval ca.args=(ca.args.toList.map a.eval).toArray from this];exact yi hb _ w
theorem XW{o:Oper}{ca:Call}{f:Nat}{ys:List Rf}{x:AV}{p:Option aZ}(dM:cz P ce) (ho:o.op = .call ca) (hc:ca.callee = .value (.func f)) (hb:cM P f=true) (hg:Good C w)
  (hx:cm C w.heap (ys.map r) (ca.args.toList.map a.eval)) (he:ev ce σ nl ps r (.bW f ys)=some (x,p)):bF P o a w (dc C w x)/\p=none:=by
 simp only[ev]at he;cases hp:je ce f (ys.map r)with
 |none=>simp[hp]at he
 |some x' =>
  simp[hp]at he;obtain⟨rfl,rfl⟩:=he;exact⟨bF.call (Bt ho hc hb w) (yg dM hp hg hx),rfl⟩
theorem Mr{o:Oper}{ca:Call}{f:Nat}{ys:List Rf}{x:AV}{p:Option aZ}(dM:cz P ce) (ho:o.op = .call ca) (hc:ca.callee = .value (.func f)) (hb:cM P f=true) (hg:Good C w)
  (db:∀b u B,C.lim b u->upto σ b u=some B->∃id,C.own b u=some (B,id))
  (hx:cm C w.heap (ys.map r) (ca.args.toList.map a.eval)) (he:ev ce σ nl ps r (.tS f ys)=some (x,p)):bF P o a w (dc C w x)/\p=none:=by
 simp only[ev]at he;cases h1:bZ (λx=>view σ false vd (r x)) ys with
 |none=>simp[h1]at he
 |some vf =>
  simp only[h1]at he;cases h2:ce f vf []with
  |none=>simp[h2]at he
  |some q=>
   obtain⟨v0,bp⟩:=q;simp only[h2]at he;cases h3:cx bp true v0 with
   |none=>simp[h3]at he
   |some x' =>
    simp[h3]at he;obtain⟨rfl,rfl⟩:=he;have Bu : bZ (view σ false vd) (ys.map r)=some vf :=by
     rw[<-h1];clear h1 h2 hx
     induction ys with
     |nil=>rfl
     |cons y ys ih=>simp only[dd,bZ,ih]
    exact⟨bF.call (Bt ho hc hb w) (XV dM Bu h2 h3 hg db hx),rfl⟩
def dZ (P:Program) (ce:CE):Prop:=∀f args σ r,ce f args σ=some r->cM P f=true
theorem Ms{o:Oper}{ca:Call}{f:Nat}{x:Operand}{vs:List Value}(ho:o.op = .call ca) (hc:ca.callee = .value x) (hx:a.eval x = .func (.func f) #[] vs.toArray) (hb:cM P f=true) (w:World) :
  (execOp a.eval o).run P w = .ok (.enter f (ca.args.toList.map a.eval++vs).toArray) w:=by
 have:Array.map a.eval ca.args++vs.toArray=(ca.args.toList.map a.eval++vs).toArray:=by rw[<-Array.toList_inj];simp
 simp only[execOp,ho,resolve,hc,aL,hx,Deferred.ofValue,bh,aS,invoke];simp only[Array.empty_append];rw[this];exact yi hb _ w
theorem XX{o:Oper}{ca:Call}{x0:Operand}{y:Rf}{ys:List Rf}{x:AV}{p:Option aZ}(dM:cz P ce) (jz:dZ P ce) (ho:o.op = .call ca) (hc:ca.callee = .value x0) (hg:Good C w)
  (h0:VR C w.heap (r y) (a.eval x0)) (hx:cm C w.heap (ys.map r) (ca.args.toList.map a.eval)) (he:ev ce σ nl ps r (.lG y ys)=some (x,p)):bF P o a w (dc C w x)/\p=none:=by
 simp only[ev]at he;cases hy:r y<;>simp only[hy]at he<;>try(simp at he;done)
 rename_i f aI;cases hp:je ce f (ys.map r++aI)with
 |none=>simp[hp]at he
 |some x' =>
  simp[hp]at he;obtain⟨rfl,rfl⟩:=he;rw[hy]at h0;unfold VR at h0;obtain⟨vs,e,hl⟩:=h0;have hb:cM P f=true:=by
   unfold je at hp;split at hp<;>try(simp at hp;done)
   cases ga : ce f ((ys.map r++aI).map wk) []with
   |none=>simp only[ga]at hp;simp at hp
   |some q=>exact jz _ _ _ _ ga
  exact⟨bF.call (Ms ho hc e hb w) (yg dM hp hg (hx.append hl)),rfl⟩
theorem Mt{m:String}:∀{gE:List (Nat×Nat)}{t f:Nat},na P m gE=true->eM gE t=some f->∀(w:World) (v:Value),(method (P.types.size+Made.depth) t v m).run P w = .ok (f,v) w
 | [],t,f,_,h=>by simp[eM]at h
 |(t', f')::rest,t,f,ht,h=>by
  simp only[na,aD]at ht;simp only[eM]at h
  by_cases e:t' = t
  ·subst e
   simp at h;subst h;intro w v;obtain⟨n,hn⟩:∃n,P.types.size+Made.depth=n+1:=⟨P.types.size+Made.depth-1,(by have:0<Made.depth:=(by decide);omega)⟩
   rw[hn];have h1:=ht.1;cases hi:P.info? t' with
   |none=>simp[hi]at h1
   |some i=>
    simp only[hi]at h1;cases hm:i.methods.find? (λx=>x.name==m)with
    |none=>simp[hm]at h1
    |some x=>
     simp only[hm,aD]at h1;obtain⟨hp,h1⟩:=h1;have hpe:x.path = #[]:=by simpa using hp
     cases hf:x.func with
     |none=>simp[hf]at h1
     |some gp=>
      obtain⟨g,ptr⟩:=gp;simp only[hf,aD,cP]at h1;obtain⟨rfl,h1⟩:=h1;cases hu:P.underlying t' with
      |none=>simp[hu]at h1
      |some d=>
       simp only[hu]at h1;have hr:(receiverAt t' (.val v) ptr (if x.path.isEmpty then some ((m.splitOn ".").getLastD m)else none)).run P w = .ok v w:=by
        unfold receiverAt;simp only[aL,run_underlying hu,aS];cases d<;>cases ptr<;>simp_all [Place.get]
       simp only[method,aL,run_typeInfo w hi,aS,hm,hpe,follow,bh,hf];rw[hpe]at hr;simp only[hr,aS,bh]
  ·have e' : (t' == t)=false:=by simpa using e
   simp only[e', eu,ew]at h;exact Mt ht.2 h
theorem Mu{o:Oper}{ca:Call}{x0:Operand}{m:String}{gE:List (Nat×Nat)}{t f:Nat}{v:Value}(ho:o.op = .call ca) (hc:ca.callee = .invoke x0 m) (hx:a.eval x0 = .iface t v)
  (ht:na P m gE=true) (hl:eM gE t=some f) (hb:cM P f=true) (w:World) :
  (execOp a.eval o).run P w = .ok (.enter f (v::ca.args.toList.map a.eval).toArray) w:=by
 have hm:=Mt ht hl w v;have h1:(#[Value.iface t v]++Array.map a.eval ca.args)[0]? = some (.iface t v):=by rw[kV (by show 0<1;omega)];rfl
 have h2:(#[Value.iface t v]++Array.map a.eval ca.args).extract 1 (#[Value.iface t v]++Array.map a.eval ca.args).size=Array.map a.eval ca.args:=by
  rw[<-Array.toList_inj];simp;rw[gu (by simp)]
 have h3 : #[v]++Array.map a.eval ca.args=(v::ca.args.toList.map a.eval).toArray:=by rw[<-Array.toList_inj];simp
 simp only[execOp,ho,resolve,hc,aL,bh,aS,invoke,hx,h1,h2,callMethod,program,Sem.run,hm];rw[h3];exact yi hb _ w
theorem XY{o:Oper}{ca:Call}{x0:Operand}{m:String}{gE:List (Nat×Nat)}{y:Rf}{ys:List Rf}{x:AV}{p:Option aZ}(dM:cz P ce) (jz:dZ P ce) (ho:o.op = .call ca) (hc:ca.callee = .invoke x0 m) (ht:na P m gE=true) (hg:Good C w)
  (h0:VR C w.heap (r y) (a.eval x0)) (hx:cm C w.heap (ys.map r) (ca.args.toList.map a.eval)) (he:ev ce σ nl ps r (.inv y gE ys)=some (x,p)):bF P o a w (dc C w x)/\p=none:=by
 simp only[ev]at he;cases hy:r y<;>simp only[hy]at he<;>try(simp at he;done)
 rename_i t q;cases hl:eM gE t with
 |none=>simp[hl]at he
 |some f=>
  simp only[hl]at he;cases hp:je ce f (q::ys.map r)with
  |none=>simp[hp]at he
  |some x' =>
   simp[hp]at he;obtain⟨rfl,rfl⟩:=he;rw[hy]at h0;unfold VR at h0;obtain⟨v,e,hq⟩:=h0;have hb:cM P f=true:=by
    unfold je at hp;split at hp<;>try(simp at hp;done)
    cases ga : ce f ((q::ys.map r).map wk) []with
    |none=>simp only[ga]at hp;simp at hp
    |some q=>exact jz _ _ _ _ ga
   exact⟨bF.call (Mu ho hc e ht hl hb w) (yg dM hp hg ⟨v,_,rfl,hq,hx⟩),rfl⟩
theorem XZ{x:AV}{v:Value}(hg:Good C w) (hn:aO x=true) (hv:VR C w.heap x v) (t:TypeId):dc C w (.bd x) (.pointer (some ⟨w.heap.size,0,none⟩)) (cq w (.cells v.cells t)):=by
 obtain⟨h1,h2⟩:=Ht hg v.cells t;refine⟨_,h1,h2,?_⟩;unfold VR;exact⟨hn,w.heap.size,0,v.cells,t,(0,0),v,rfl,.inr rfl,oA w _,VR.mono h2.ev _ _ hv,λj hj=>by simp⟩
theorem X0{o:Oper}{t:TypeId}{x0:Operand}{y:Rf}{x:AV}{p:Option aZ}(ho:o.op = .box t x0) (hg:Good C w) (h0:VR C w.heap (r y) (a.eval x0)) (he:ev ce σ nl ps r (.gj y)=some (x,p)) :
  bF P o a w (dc C w x)/\p=none:=by
 simp only[ev]at he;split at he<;>simp at he
 rename_i hn;obtain⟨rfl,rfl⟩:=he;refine⟨bF.val (v:=.pointer (some ⟨w.heap.size,0,none⟩)) (w' :=cq w (.cells (a.eval x0).cells t)) ?_ (XZ hg hn h0 t),rfl⟩;simp only[execOp,ho,Instr.box,aL,Bo,aS,bh]
theorem X1{o:Oper}{s d:TypeId}{x0:Operand}{y:Rf}{x:AV}{p:Option aZ}(ho:o.op = .convert s d x0)
  (ht:(match P.underlying s,P.underlying d with|some .string,some (.slice e)=>(match P.underlying e with|some (.int .u8)=>true|_=>false)|_,_=>false)=true)
  (hg:Good C w) (h0:VR C w.heap (r y) (a.eval x0)) (he:ev ce σ nl ps r (.Lx y)=some (x,p)):bF P o a w (dc C w x)/\p=none:=by
 have hu:∃e,P.underlying s=some .string/\P.underlying d=some (.slice e)/\P.underlying e=some (.int .u8):=by
  split at ht
  ·rename_i e h1 h2
   split at ht
   ·rename_i h3;exact⟨e,h1,h2,h3⟩
   ·simp at ht
  ·simp at ht
 obtain⟨e,hs,hd,sr⟩:=hu;simp only[ev]at he;cases hy:r y<;>simp only[hy]at he<;>try(simp at he;done)
 rename_i t;simp at he;obtain⟨hz,hp⟩:=he;subst hz hp;rw[hy]at h0;unfold VR at h0;have cG:=Go.Lib.run_convert_string_bytes (P:=P) w s d e ⟨t.toArray⟩ hs hd sr;have mj:(⟨t.toArray⟩:ByteArray).size=t.length:=by show t.toArray.size=_;simp
 rw[mj]at cG;have hb:=Go.Lib.bytesWorld_size w e ⟨t.toArray⟩;have nE:=Go.Lib.bytesWorld_at_new w e ⟨t.toArray⟩;have hold:=λk hk=>Go.Lib.bytesWorld_at_old w e ⟨t.toArray⟩ k hk;have jO:∀(i:Nat) b,t[i]? = some b->(Go.Lib.bytesCells w e ⟨t.toArray⟩)[i]? = some (.int .u8 (b.toNat:Int)):=λi b hi=>by
  have aK:=(cV.1 hi).1;unfold Go.Lib.bytesCells;rw[kV (by simpa using aK)]
  simp[hi]
 have p8:t.length<=grownCap w t.length 0 e:=grownCap_ge w _ _ _;obtain⟨g1,g2⟩:=hg.oB (w' :=Go.Lib.bytesWorld w e ⟨t.toArray⟩) (by omega) hold (λk=>C.I k\/k=w.heap.size) (λk hk=>.inl hk)
  (λk hk=>hk.elim (λh=>by have:=hg.I k h;omega) (λh=>by omega)) (λk hk=>hk.elim .inl (λh=>.inr (by omega))) rfl ⟨rfl,Nat.le_succ _⟩ rfl
 refine⟨bF.val (v:=.slice (some ⟨w.heap.size,0,none⟩) t.length (grownCap w t.length 0 e)) (w' :=Go.Lib.bytesWorld w e ⟨t.toArray⟩) ?_ ⟨_,g1,g2,?_⟩,rfl⟩
 ·simp only[execOp,ho,h0,aL,cG,aS,bh]
 ·unfold VR
  refine⟨Bv λq hq=>?_,.inr ⟨w.heap.size,0,grownCap w t.length 0 e,1,_,e,_,?_,?_,.inr rfl,nE,ji.of λi q hi=>?_⟩⟩
  ·obtain⟨b,_,rfl⟩:=cU.1 hq;rfl
  ·simp
  ·simpa using p8
  ·rw[iv]at hi
   obtain⟨b,h1,rfl⟩:=nG.1 hi;refine⟨.int .u8 (b.toNat:Int),Bw,rfl,λj hj=>?_⟩;obtain rfl:j=0:=by omega
   rw[show 0+i*1+0=i by omega,jO i b h1];rfl
end
end Ab
set_option linter.all false
namespace Ab
open Go
variable{P:Program}
section
variable{a:Act}{ρ:Operand->Value}{r:Rf->AV}{w:World}{C:Ctx}{R:Operand->Rf->Bool}{ce:CE}{σ:List ag}{nl:Nat}{ps:List aZ}
theorem Mv (sz:Nat):∀(vs:List Value) (k:Nat) (c:Array Value),(∀v,v∈vs->v.cells.size=sz)->(k+vs.length)*sz<=c.size->
  ∃c', Instr.fill (λi=>some (i*sz,sz)) c ((vs.zipIdx k).map λp=>(p.2,p.1))=some c' /\c'.size=c.size/\(∀i,i<k*sz->c'[i]? = c[i]?)/\
   ∀(i:Nat) v,vs[i]? = some v->∀j,j<sz->c'[(k+i)*sz+j]? = v.cells[j]?
 | [],k,c,_,_=>⟨c,rfl,rfl,λ_ _=>rfl,λi v h=>by simp at h⟩
 |v::vs,k,c,hv,hb=>by
  have hs:=hv v (by simp)
  have hk:k*sz+sz<=c.size:=by
   have:(k+1)*sz<=(k+(v::vs).length)*sz:=jT _ (by simp)
   rw[fC]at this;omega
  simp only[List.zipIdx_cons,dd,Instr.fill];rw[ab (by rw[hs];simp;omega)]
  have hf:∀i,(v.cells.zipIdx.foldl (λcs (c,j)=>cs.setIfInBounds (k*sz+j) c) c).size=c.size/\(v.cells.zipIdx.foldl (λcs (c,j)=>cs.setIfInBounds (k*sz+j) c) c)[i]? = if k*sz<=i/\i<k*sz+v.cells.size then v.cells[i-k*sz]? else c[i]?:=λi=>by
   have:=Hu (k*sz) v.cells.toList 0 c i (by simp;omega)
   rw[<-Array.foldl_toList];simp only[Array.toList_zipIdx];simpa using this
  obtain⟨c', h1,h2,h3,h4⟩:=Mv sz vs (k+1) (v.cells.zipIdx.foldl (λcs (c,j)=>cs.setIfInBounds (k*sz+j) c) c) (λu hu=>hv u (by simp[hu])) (by
   rw[(hf 0).1];have:(k+(v::vs).length)=k+1+vs.length:=by simp;omega
   rwa [this]at hb)
  refine⟨c', h1,by rw[h2,(hf 0).1],λi hi=>?_,λi u hu j hj=>?_⟩
  ·rw[h3 i (by rw[fC];omega),(hf i).2,ab (by omega)]
  ·cases i with
   |zero=>
    simp at hu;subst hu;simp only[Nat.add_zero];rw[h3 _ (by rw[fC];omega),(hf _).2,ae (by omega)]
    congr 1;omega
   |succ i=>
    have:=h4 i u (by simpa using hu) j hj
    rw[show k+(i+1)=k+1+i by omega]
    exact this
theorem ue{st:Nat}:∀{l:List AV},fitAll st l=true->∀x∈l,x.cells.length=st/\gU x
 | [],_,x,hx=>by simp at hx
 |y::l,h,x,hx=>by
  simp only[fitAll,aD,cP]at h;rcases cD.1 hx with rfl|hx
  ·exact⟨h.1.1,Bx h.1.2⟩
  ·exact ue h.2 x hx
theorem Mw:∀{k:Nat}{ps:List (Nat×Operand)},gf k ps=true->∀(f:Operand->Value),ps.map (λp=>(p.1,f p.2))=((ps.map λp=>f p.2).zipIdx k).map λp=>(p.2,p.1)
 |_,[],_,_=>rfl
 |k,(i,x)::r,h,f=>by
  simp only[gf,aD,cP]at h;simp only[dd,List.zipIdx_cons,h.1];rw[Mw h.2 f]
theorem cm.get'{H:Array Obj}:∀{l:List AV}{vs:List Value},cm C H l vs->∀(i:Nat) v,vs[i]? = some v->∃x,l[i]? = some x/\VR C H x v
 | [],vs,h,i,v,hi=>by rw[show vs=[]from h]at hi;simp at hi
 |x::l,_,⟨v0,s,e,hx,hr⟩,0,v,hi=>by rw[e]at hi;simp at hi;subst hi;exact⟨x,rfl,hx⟩
 |x::l,_,⟨v0,s,e,hx,hr⟩,i+1,v,hi=>by rw[e]at hi;exact cm.get' hr i v (by simpa using hi)
theorem Hv{t e:TypeId}{n st:Nat}{xs:Array (Nat×Operand)}{ys:List Rf}(ht:aF P t=some e) (bV:b5 P e st=true) (hz:cX P e=true) (hb:n*st<=2^24) (hn:(n==xs.size)=true) (ho:gf 0 xs.toList=true)
  (hx:cm C w.heap (ys.map r) ((xs.toList.map (·.2)).map ρ)) (hf:fitAll st (ys.map r)=true) :
  ∃c:Array Value,(Instr.buildSlice t n (xs.map λ(i,x)=>(i,ρ x))).run P w = .ok (.slice (some ⟨w.heap.size,0,none⟩) ys.length ys.length) (cq w (.cells c e))/\c.size=ys.length*st/\
   ∀(i:Nat) x,(ys.map r)[i]? = some x->∃v,VR C w.heap x v/\v.cells.size=st/\gU x/\∀j,j<st->c[i*st+j]? = v.cells[j]?:=by
 have hlen:ys.length=n:=by
  have h1:=cm.length hx;simp at h1 hn;omega
 have yj:(xs.map λ(i,x)=>(i,ρ x)).toList=(((xs.toList.map (·.2)).map ρ).zipIdx 0).map λp=>(p.2,p.1):=by
  have:=Mw ho ρ;simp only[Array.toList_map,List.map_map]at this ⊢;exact this
 have mj:∀v,v∈(xs.toList.map (·.2)).map ρ->v.cells.size=st:=λv hv=>by
  obtain⟨i,hi⟩:=List.getElem?_of_mem hv;obtain⟨x,h1,h2⟩:=cm.get' hx i v hi;obtain⟨h3,h4⟩:=ue hf x (qY h1);rw[VR.size h4 h2,h3]
 obtain⟨z,X2⟩:∃z,(zeroValue e).run P w = .ok z w:=by
  unfold cX at hz;cases hi:P.info? e with
  |none=>simp[hi]at hz
  |some i=>
   simp only[hi]at hz;cases Hw:i.zero with
   |none=>simp[Hw]at hz
   |some z=>exact⟨z,by simp only[zeroValue,aL,run_typeInfo w hi,aS,Hw,bh]⟩
 have hu:=jU ht w;have Ge:=iT bV w;have ss:((xs.toList.map (·.2)).map ρ).length=n:=by have:=cm.length hx;simp at this;simp;omega
 -- whatever the zero cells are
 have key:∀zc:Array Value,∃c,Instr.fill (λi=>some (i*st,st)) ((Array.range (n*st)).map λq=>zc[q%zc.size]!) (xs.map λ(i,x)=>(i,ρ x)).toList=some c/\c.size=ys.length*st/\
   ∀(i:Nat) x,(ys.map r)[i]? = some x->∃v,VR C w.heap x v/\v.cells.size=st/\gU x/\∀j,j<st->c[i*st+j]? = v.cells[j]?:=λzc=>by
  obtain⟨c,h1,h2,_,h4⟩:=Mv st ((xs.toList.map (·.2)).map ρ) 0 ((Array.range (n*st)).map λq=>zc[q%zc.size]!) mj (by rw[ss];simp)
  refine⟨c,by rw[yj];exact h1,by rw[h2,hlen];simp,λi x hi=>?_⟩
  obtain⟨v,g1,g2⟩:=hx.get i x hi;obtain⟨h5,h6⟩:=ue hf x (qY hi);exact⟨v,g2,by rw[VR.size h6 g2,h5],h6,λj hj=>by have:=h4 i v g1 j hj;simpa using this⟩
 by_cases h0:n*st=0
 ·obtain⟨c,h1,h2,h3⟩:=key #[]
  refine⟨c,?_,h2,h3⟩;simp only[Instr.buildSlice,aL,hu,Ge,aS];rw[ab (by omega)]
  simp only[h0,dA,aL,bh,aS];simp only[h0]at h1;simp only[h1,ye,aL,bh,aS,hlen]
 ·obtain⟨c,h1,h2,h3⟩:=key z.cells
  refine⟨c,?_,h2,h3⟩;simp only[Instr.buildSlice,aL,hu,Ge,aS];rw[ab (by omega)]
  simp only[h0,ew,aL,X2, bh,aS];simp only[h1,ye,aL,bh,aS,hlen]
theorem X3{o:Oper}{t e:TypeId}{n st:Nat}{xs:Array (Nat×Operand)}{ys:List Rf}{x:AV}{p:Option aZ}(ho:o.op = .buildSlice t n xs) (ht:aF P t=some e) (bV:b5 P e st=true) (hz:cX P e=true) (hb:n*st<=2^24) (hn:(n==xs.size)=true) (Mx:gf 0 xs.toList=true)
  (hg:Good C w) (hx:cm C w.heap (ys.map r) ((xs.toList.map (·.2)).map a.eval)) (he:ev ce σ nl ps r (.cd ys st)=some (x,p)):bF P o a w (dc C w x)/\p=none:=by
 simp only[ev]at he;split at he<;>simp at he
 rename_i hc;obtain⟨rfl,rfl⟩:=he;simp only[aD]at hc;obtain⟨c,h1,h2,h3⟩:=Hv ht bV hz hb hn Mx hx hc.2;refine⟨bF.val (v:=.slice (some ⟨w.heap.size,0,none⟩) ys.length ys.length) (w' :=cq w (.cells c e)) ?_ ?_,rfl⟩
 ·simp only[execOp,ho,aL,h1,aS,bh]
 ·obtain⟨g1,g2⟩:=Ht hg c e
  refine⟨_,g1,g2,?_⟩;unfold VR;refine⟨hc.1,.inr ⟨w.heap.size,0,ys.length,st,c,e,(0,0),by simp,by simp,.inr rfl,oA w _,ji.of λi x hi=>?_⟩⟩
  obtain⟨v,k1,k2,_,k3⟩:=h3 i x hi;exact⟨v,VR.mono g2.ev _ _ k1,k2,λj hj=>by rw[jj];exact k3 j hj⟩
theorem My{o:Oper}{t e:TypeId}{n st:Nat}{xs:Array (Nat×Operand)}{ys:List Rf}{x:AV}{p:Option aZ}(ho:o.op = .buildSlice t n xs) (ht:aF P t=some e) (bV:b5 P e st=true) (hz:cX P e=true) (hb:n*st<=2^24) (hn:(n==xs.size)=true) (Mx:gf 0 xs.toList=true)
  (hg:Good C w) (hx:cm C w.heap (ys.map r) ((xs.toList.map (·.2)).map a.eval)) (he:ev ce σ nl ps r (.dE ys st)=some (x,p)):bF P o a w (dc C w x)/\p=none:=by
 simp only[ev]at he;split at he<;>simp at he
 rename_i hc;obtain⟨rfl,rfl⟩:=he;obtain⟨c,h1,h2,h3⟩:=Hv ht bV hz hb hn Mx hx hc;refine⟨bF.val (v:=.slice (some ⟨w.heap.size,0,none⟩) ys.length ys.length) (w' :=cq w (.cells c e)) ?_ ?_,rfl⟩
 ·simp only[execOp,ho,aL,h1,aS,bh]
 ·obtain⟨g1,g2⟩:=Ht hg c e
  refine⟨_,g1,g2,?_⟩;unfold VR;refine⟨w.heap.size,0,st,c,e,(0,0),by simp,.inr rfl,oA w _,ji.of λi x hi=>?_⟩
  obtain⟨v,k1,k2,_,k3⟩:=h3 i x hi;exact⟨v,VR.mono g2.ev _ _ k1,k2,λj hj=>by rw[jj];exact k3 j hj⟩
def Ext (nl:Nat):Option aZ->Ctx->Ctx->Prop
 |none,C,C' =>C'.own=C.own/\C'.lim=C.lim
 |some (.new B),C,C' =>∃id,C'.own=(ar C nl B.cells.length (B,id)).own/\C'.lim=(ar C nl B.cells.length (B,id)).lim
 |some (.news l),C,C' =>∃ids:Nat->Nat,C'.own=(λb u=>if nl<=b/\b<nl+l.length then(af l ids C.I).own (b-nl) u else C.own b u)/\C'.lim=(λb u=>(nl<=b/\(af l ids C.I).lim (b-nl) u)\/C.lim b u)
 |some (.grow b cs),C,C' =>∃B0 X4 id,cs ≠ []/\C.own b B0.cells.length=some (B0,X4)/\C'.own=(ar C b (B0.cells++cs).length (⟨B0.k,B0.cells++cs,.live⟩,id)).own/\C'.lim=(ar C b (B0.cells++cs).length (⟨B0.k,B0.cells++cs,.live⟩,id)).lim
def iU (nl:Nat) (C:Ctx) (w:World) (x:AV) (p:Option aZ) (v:Value) (w' : World):Prop:=
 ∃C', Good C' w' /\Step C w C' w' /\VR C' w'.heap x v/\Ext nl p C C'
theorem X5{o:Oper}{t e:TypeId}{n st:Nat}{xs:Array (Nat×Operand)}{x:AV}{p:Option aZ}(ho:o.op = .buildSlice t n xs) (ht:aF P t=some e) (bV:b5 P e st=true) (hz:cX P e=true) (hn:n=0) (yj:xs.size=0)
  (hg:Good C w) (he:ev ce σ nl ps r (.su st)=some (x,p)):bF P o a w (dc C w x)/\p=none:=by
 simp only[ev,bJ,Prod.mk.injEq]at he;obtain⟨rfl,rfl⟩:=he;obtain⟨h1,_⟩:=My (P:=P) (a:=a) (r:=r) (ce:=ce) (σ:=σ) (nl:=nl) (ps:=ps) (ys:=[]) (x:=.arr []) (p:=none) ho ht bV hz (by subst hn;simp) (by rw[yj,hn];rfl) (by
  have:xs.toList=[]:=by rw[<-List.length_eq_zero_iff];simpa using yj
  rw[this];rfl) hg (by
  have:xs.toList=[]:=by rw[<-List.length_eq_zero_iff];simpa using yj
  rw[this];rfl) (by simp[ev,fitAll])
 refine⟨h1.mono λv w' ⟨I', g1,g2,g3⟩=>⟨I', g1,g2,?_⟩,rfl⟩;unfold VR at g3 ⊢;obtain⟨al,off,oo, c,el,fz,e1,_⟩:=g3;exact⟨_,e1⟩
theorem dc.e{nl:Nat}{x:AV}{v:Value}{w' : World}(h:dc C w x v w'):iU nl C w x none v w' :=by
 obtain⟨I', h1,h2,h3⟩:=h;exact⟨_,h1,h2,h3,rfl,rfl⟩
theorem By{x:AV}{v:Value}{B:ag}{c:Array Value}{el:TypeId}(hg:Good C w) (hb:∀u,¬C.lim nl u) (bV:B.st = .live) (hle:B.cells.length<=c.size)
  (hc:∀(i:Nat) x,B.cells[i]? = some x->∃y,c[i]? = some y/\VR C w.heap x y/\y.oneCell' = true)
  (hv:∀C', C'.own nl B.cells.length=some (B,w.heap.size)->C'.lim nl B.cells.length->VR C' (cq w (.cells c el)).heap x v):iU nl C w x (some (.new B)) v (cq w (.cells c el)):=by
 obtain⟨h1,h2⟩:=Bp hg B (hb _) c el bV hle hc;exact⟨_,h1,h2,hv _ (by simp[ar]) (.inl ⟨rfl,rfl⟩),w.heap.size,rfl,rfl⟩
theorem Hx{x:AV}{v:Value}{H:Array Obj}(hu:gU x) (h:VR C H x v):∀(i:Nat) q,x.cells[i]? = some q->∃y,v.cells[i]? = some y/\VR C H q y/\y.oneCell' = true:=λi q hi=>by
 obtain⟨h1,h2⟩:=VR.cells hu h;obtain⟨y,g1,g2⟩:=h1.get i q hi;rw[iV]at g1;exact⟨y,g1,g2,h2 y (by rw[uf];exact Array.mem_of_getElem? g1)⟩
theorem Mz{B:ag}{id:Nat}{C' : Ctx}{H:Array Obj}{b u:Nat}(h1:C'.own b u=some (B,id)) (h2:C'.lim b u):VR C' H (.ptr b u 0) (.pointer (some ⟨id,0,none⟩)):=by
 unfold VR;exact⟨⟨id,rfl⟩,h2,λB' id' h _=>by rw[h1]at h;simp at h;rw[h.2]⟩
theorem vX{B:ag}{id:Nat}{C' : Ctx}{H:Array Obj}{b u len cap:Nat}{c:Array Value}{el:TypeId}(h1:C'.own b u=some (B,id)) (h2:C'.lim b u) (hs:B.st = .live) (hH:H[id]? = some (.cells c el (0,0))) (hl:len<=cap)
  (hc:cap*aC B.k=c.size):VR C' H (.sl b u 0 len) (.slice (some ⟨id,0,none⟩) len cap):=by
 unfold VR;refine⟨⟨_,_,rfl,hl,λ_=>⟨id,rfl⟩⟩,h2,λB' id' h=>?_⟩;rw[h1]at h;simp at h;obtain⟨rfl,rfl⟩:=h;simp only[hs];exact⟨c,el,0,cap,hH,rfl,λ_=>rfl,hl,by omega⟩
theorem X6{o:Oper}{t:TypeId}{x0:Operand}{y:Rf}{k:Option Nat}{x:AV}{p:Option aZ}(ho:o.op = .box t x0) (hg:Good C w) (hb:∀u,¬C.lim nl u) (h0:VR C w.heap (r y) (a.eval x0))
  (he:ev ce σ nl ps r (.vg y k)=some (x,p)):bF P o a w (iU nl C w x p):=by
 simp only[ev]at he;split at he<;>simp at he
 rename_i hc;simp only[aD,cP]at hc;obtain⟨rfl,rfl⟩:=he;have hu:=Bx hc.2;refine bF.val (v:=.pointer (some ⟨w.heap.size,0,none⟩)) (w' :=cq w (.cells (a.eval x0).cells t)) ?_ (By hg hb rfl ?_ ?_ ?_)
 ·simp only[execOp,ho,Instr.box,aL,Bo,aS,bh]
 ·rw[VR.size hu h0];exact bA _
 ·exact Hx hu h0
 ·intro C' h1 h2
  simp only[hc.1]at h1 h2;exact Mz h1 h2
theorem X7{o:Oper}{t:TypeId}{z:List AV}{k:Option Nat}{x:AV}{p:Option aZ}(ho:o.op = .alloc t) (hz:iJ P t z=true) (hg:Good C w) (hb:∀u,¬C.lim nl u)
  (he:ev ce σ nl ps r (.oD z k)=some (x,p)):bF P o a w (iU nl C w x p):=by
 simp only[ev]at he;split at he<;>simp at he
 rename_i hc;simp only[cP]at hc;obtain⟨rfl,rfl⟩:=he;obtain⟨v,h1,h2,h3⟩:=Bz (C:=C) hz w;refine bF.val (v:=.pointer (some ⟨w.heap.size,0,none⟩)) (w' :=cq w (.cells v.cells t)) ?_ (By hg hb rfl ?_ ?_ ?_)
 ·simp only[execOp,ho,Instr.alloc,aL,h1,Bo,aS,bh]
 ·have:=cm.length h2;simp at this;simp[this]
 ·intro i q hi
  obtain⟨y,g1,g2⟩:=h2.get i q hi;rw[iV]at g1;exact⟨y,g1,g2,h3 y (by rw[uf];exact Array.mem_of_getElem? g1)⟩
 ·intro C' k1 k2
  simp only[hc]at k1 k2;exact Mz k1 k2
theorem yk{st:Nat}:∀{l:List AV},(∀x∈l,x.cells.length=st)->(l.flatMap AV.cells).length=l.length*st/\∀(i:Nat) x j,l[i]? = some x->j<st->(l.flatMap AV.cells)[i*st+j]? = x.cells[j]?
 | [],_=>⟨by simp,λi x j h=>by simp at h⟩
 |y::l,h=>by
  obtain⟨h1,h2⟩:=yk (l:=l) λx hx=>h x (by simp[hx])
  have hy:=h y (by simp)
  refine⟨by simp only[jG,bz,h1,hy,cy];rw[fC];omega,λi x j hi hj=>?_⟩
  simp only[jG];cases i with
  |zero=>
   simp at hi;subst hi;rw[fw (by omega)];simp
  |succ i=>
   rw[gv (by rw[hy,fC];omega),hy,<-h2 i x j (by simpa using hi) hj]
   congr 1
   rw[fC];omega
theorem Hy{H:Array Obj}{st:Nat}{l:List AV}{c:Array Value}{off:Nat}(bV:∀x∈l,x.cells.length=st)
  (h:∀(i:Nat) x,l[i]? = some x->∃v,VR C H x v/\v.cells.size=st/\gU x/\∀j,j<st->c[off+(i*st+j)]? = v.cells[j]?) :
  ∀(i:Nat) q,(l.flatMap AV.cells)[i]? = some q->∃y,c[off+i]? = some y/\VR C H q y/\y.oneCell' = true:=λi q hi=>by
 obtain⟨h1,h2⟩:=yk bV;have aK:=(cV.1 hi).1;rw[h1]at aK;have MA:0<st:=by
  rcases Nat.eq_zero_or_pos st with h0|h0
  ·subst h0;simp at aK
  ·exact h0
 have hq:i/st<l.length:=(Nat.div_lt_iff_lt_mul MA).2 aK;have hr:=Nat.mod_lt i MA;have e:i=i/st*st+i%st:=by rw[Nat.mul_comm];exact(Nat.div_add_mod i st).symm
 obtain⟨v,g1,g2,g3,g4⟩:=h (i/st) l[i/st] (by simp[hq])
 rw[e]at hi ⊢;rw[h2 (i/st) l[i/st] (i%st) (by simp[hq]) hr]at hi
 rw[g4 _ hr];exact Hx g3 g1 _ q hi
theorem X8{o:Oper}{t e:TypeId}{n:Nat}{k:Option Nat}{xs:Array (Nat×Operand)}{ys:List Rf}{x:AV}{p:Option aZ}(ho:o.op = .buildSlice t n xs) (ht:aF P t=some e) (bV:bt P e k=true) (hz:cX P e=true) (rZ : n*aC k<=2^24) (hn:(n==xs.size)=true) (Mx:gf 0 xs.toList=true)
  (hg:Good C w) (hb:∀u,¬C.lim nl u) (hx:cm C w.heap (ys.map r) ((xs.toList.map (·.2)).map a.eval)) (he:ev ce σ nl ps r (.mz ys k)=some (x,p)):bF P o a w (iU nl C w x p):=by
 simp only[ev]at he;split at he
 case isFalse=>simp at he
 rename_i hc;simp only[bJ,Prod.mk.injEq]at he;obtain⟨rfl,rfl⟩:=he;obtain⟨c,h1,h2,h3⟩:=Hv ht (kF bV) hz rZ hn Mx hx hc;have fK:∀x∈ys.map r,x.cells.length=aC k:=λx hx=>(ue hc x hx).1;obtain⟨f1,f2⟩:=yk fK;refine bF.val (v:=.slice (some ⟨w.heap.size,0,none⟩) ys.length ys.length) (w' :=cq w (.cells c e)) ?_ (By hg hb rfl ?_ ?_ ?_)
 ·simp only[execOp,ho,aL,h1,aS,bh]
 ·simp only[f1,h2];simp
 ·intro i q hi
  have:=Hy (off:=0) fK (λi x hi=>by obtain⟨v,g1,g2,g3,g4⟩:=h3 i x hi;exact⟨v,g1,g2,g3,λj hj=>by rw[jj];exact g4 j hj⟩) i q hi
  simpa using this
 ·intro C' k1 k2
  exact vX k1 k2 rfl (oA w _) (bA _) h2.symm
end
end Ab
set_option linter.all false
namespace Ab
open Go
variable{P:Program}
theorem Good.heap{C:Ctx}{w w' : World}(hg:Good C w) (h:w'.heap=w.heap):Good C w' :=
 ⟨by rw[h];exact hg.I,hg.kU,by rw[h];exact hg.live,hg.apart,by rw[h];exact hg.maps⟩
theorem Step.heap{C:Ctx}{w w' : World}(h:w'.heap=w.heap) (ho:w'.os=w.os) (ht:w'.tape=w.tape/\w.drawn<=w'.drawn) (Hr:w'.output=w.output):Step C w C w' :=
 ⟨by rw[h];exact fR.refl _ _,by rw[h];exact bA _,λ_ _ _=>by rw[h],λ_ h=>.inl h,λ_ h=>.inl h,ho,ht,Hr⟩
section
variable{a:Act}{ρ:Operand->Value}{r:Rf->AV}{w:World}{C:Ctx}{R:Operand->Rf->Bool}{ce:CE}{σ:List ag}{nl:Nat}{ps:List aZ}
theorem Hz (z:List AV):∀(n:Nat),(eG n z).length=n*z.length/\∀i,i<n*z.length->(eG n z)[i]? = z[i%z.length]?
 |0=>⟨by simp[eG],λi hi=>by simp at hi⟩
 |n+1=>by
  obtain⟨h1,h2⟩:=Hz z n;have e:eG (n+1) z=z++eG n z:=by simp[eG,ug]
  refine⟨by rw[e,bz,h1,fC];omega,λi hi=>?_⟩
  rw[e]
  by_cases aK:i<z.length
  ·rw[fw aK,Nat.mod_eq_of_lt aK]
  ·rw[gv (by omega),h2 _ (by rw[fC]at hi;omega)]
   congr 1
   rw[Nat.mod_eq_sub_mod (by omega:z.length<=i)]
theorem MB{n:Int}(h0:0<=n) (h:n<=dG):IntKind.i64.wrap n=n:=by
 unfold dG at h;exact IntWalk.i64_in n ⟨by omega,by omega⟩
theorem MC{e:TypeId}(h:fD P e=true):∃i,P.info? e=some i/\i.bytes<=4096:=by
 unfold fD at h;cases hi:P.info? e with
 |none=>simp[hi]at h
 |some i=>simp[hi]at h;exact⟨i,rfl,h⟩
set_option maxRecDepth 100000 in
theorem X9{o:Oper}{t e:TypeId}{l c:Operand}{l' c' : Rf}{z:List AV}{k:Option Nat}{x:AV}{p:Option aZ}(ho:o.op = .makeSlice t l c) (ht:aF P t=some e) (hk:bt P e k=true) (hz:iJ P e z=true) (ml:fD P e=true)
  (hg:Good C w) (hb:∀u,¬C.lim nl u) (hl:VR C w.heap (r l') (a.eval l)) (hc:VR C w.heap (r c') (a.eval c)) (he:ev ce σ nl ps r (.jV l' c' z k)=some (x,p)):bF P o a w (iU nl C w x p):=by
 simp only[ev]at he;cases cw : r l' <;>simp only[cw]at he<;>try(simp at he;done)
 cases ga : r c' <;>simp only[ga]at he<;>try(simp at he;done)
 rename_i n m;split at he
 case isFalse=>simp at he
 rename_i fo;simp only[bJ,Prod.mk.injEq]at he;obtain⟨rfl,rfl⟩:=he;rw[cw]at hl;rw[ga]at hc;have hl:=hl.ba;have hc:=hc.ba;obtain⟨h1,h2,h3,r5⟩:=fo;obtain⟨M,rfl⟩:=qZ (by omega:0<=m)
 obtain⟨N,rfl⟩:=qZ h1;obtain⟨i,hi,ml⟩:=MC ml;have mj:=iT (kF hk) w;obtain⟨zv,z1,z2,z3⟩:=Bz (C:=C) hz w;have HA:zv.cells.size=aC k:=by have:=cm.length z2;simp at this;omega
 have hM:(M:Int)<=1073741824:=h3;have MD:∀q:Nat,q<=1073741824->(i.bytes:Int)*(q:Int)<=4398046511104:=λq hq=>by
  have h1:i.bytes*q<=4096*1073741824:=Nat.mul_le_mul ml hq;have h2:((i.bytes*q:Nat):Int)<=((4398046511104:Nat):Int):=Int.ofNat_le.2 (by omega)
  rw[oE]at h2;omega
 have hbm:=MD M (by omega)
 let zc:Array Value:=if M*aC k=0 then #[]else zv.cells
 have cG:(Instr.makeSlice t (a.eval l) (a.eval c)).run P w = .ok (.slice (some ⟨w.heap.size,0,none⟩) N M) (cq w (.cells ((Array.range (M*aC k)).map λq=>zc[q%zc.size]!) e)):=by
  rw[hl,hc];have ha:(askRoom (M*i.bytes)).run P w = .ok () w:=by
   unfold askRoom roomBytes;have:M*i.bytes<=1073741824*4096:=Nat.mul_le_mul (by omega) ml
   rw[ab (by omega)];rfl
  simp only[Instr.makeSlice,aL,jU ht,aS,asInt,asIntOf,bh,run_typeInfo w hi];rw[MB (by omega:(0:Int)<=N) (by omega),MB (by omega:(0:Int)<=M) h3]
  have Ya : ¬((i.bytes:Int)*M>2^48):=by
   have:(2:Int)^48=281474976710656:=by decide
   omega
  have apr : ¬((i.bytes:Int)*N>2^48):=by
   have h48:(2:Int)^48=281474976710656:=by decide
   have:=MD N (by omega)
   omega
  have c1:¬((M:Int)<0):=by omega
  have c2:¬((N:Int)<0):=by omega
  have c3:¬((N:Int)>(M:Int)):=by omega
  simp only[c1,c2,c3,Ya, decide_false,Bool.or_self,eu,ew,or_self,kG];simp only[aL,ha,mj,aS]
  by_cases h0:M*aC k=0
  ·simp only[h0,dA,aL,bh,aS,ye]
   simp[zc,h0]
  ·simp only[h0,ew,aL,z1,bh,aS,ye]
   simp[zc,h0]
 simp only[kG];obtain⟨d1,d2⟩:=Hz z M;rw[r5]at d1 d2;refine bF.val (v:=.slice (some ⟨w.heap.size,0,none⟩) N M) ?_ (By (c:=(Array.range (M*aC k)).map λq=>zc[q%zc.size]!) (el:=e) hg hb rfl ?_ ?_ ?_)
 ·simp only[execOp,ho,aL,cG,aS,bh]
 ·simp[d1]
 ·intro j q hj
  have aK:=(cV.1 hj).1;simp only[d1]at aK;have tT : (eG M z)[j]? = some q:=hj;rw[d2 j aK]at tT;have b8:M*aC k ≠ 0:=by omega
  have HB:0<aC k:=Nat.pos_of_ne_zero λh=>b8 (by rw[h];simp)
  obtain⟨y,g1,g2⟩:=z2.get (j%aC k) q tT;rw[iV]at g1;refine⟨y,?_,g2,z3 y (by rw[uf];exact Array.mem_of_getElem? g1)⟩
  have:zc=zv.cells:=by simp[zc,b8]
  rw[this,HA];have hm:=Nat.mod_lt j HB;rw[jl (by omega:j%aC k<zv.cells.size)]at g1
  simp at g1;simp[aK,getElem!_def,jl (by omega:j%aC k<zv.cells.size),g1]
 ·intro C' k1 k2
  exact vX k1 k2 rfl (oA w _) (by omega) (by simp)
theorem Yb{o:Oper}{t:TypeId}{x:AV}{p:Option aZ}(ho:o.op = .makeMap t none) (hg:Good C w) (hb:∀u,¬C.lim nl u)
  (he:ev ce σ nl ps r .yl=some (x,p)):bF P o a w (iU nl C w x p):=by
 simp only[ev,bJ,Prod.mk.injEq]at he;obtain⟨rfl,rfl⟩:=he;obtain⟨h1,h2⟩:=XU hg (hb 0);refine bF.val (v:=.map (some w.heap.size)) (w' :=cq w (.map #[] 0)) ?_ ⟨_,h1,h2,?_,w.heap.size,rfl,rfl⟩
 ·simp only[execOp,ho,Instr.makeMap,aL]
  rfl
 ·unfold VR
  refine⟨⟨_,rfl⟩,.inl ⟨rfl,rfl⟩,λB id h _=>?_⟩;simp[ar]at h;rw[<-h.2]
theorem ME{o:Oper}{x0:Operand}{k:Option Nat}{x:AV}{p:Option aZ}(ho:o.op = .assign x0) (hn:jW x0=true) (hg:Good C w) (hb:∀u,¬C.lim nl u)
  (he:ev ce σ nl ps r (.nl k)=some (x,p)):bF P o a w (iU nl C w x p):=by
 simp only[ev]at he;simp only[bJ,Prod.mk.injEq]at he;obtain⟨rfl,rfl⟩:=he;have hv:a.eval x0 = .slice none 0 0:=HC (ρ:=a.eval) hn rfl;refine bF.val (v:=.slice none 0 0) (w' :=w) (by simp only[execOp,ho,hv,bh]) ?_
 have HE : fR C w.heap (ar C nl 0 (⟨k,[],.jP⟩,0)) w.heap:=by
  refine⟨λ_ h=>h,λ_ _=>rfl,λ_ _ h=>.inr h,λb' u' B' id hl aY =>?_⟩;have b8:¬(b' = nl/\u' = 0):=λ⟨e1,_⟩=>hb u' (e1▸hl);simp only[ar,ab b8]at aY;exact⟨B', aY, rfl,rfl,λc el hc=>⟨c,hc,rfl⟩⟩
 refine⟨ar C nl 0 (⟨k,[],.jP⟩,0),⟨hg.I,λb' u' B' id aY =>?_,λb' u' B' id aY hl=>?_,λb1 u1 B1 i1 b2 u2 B2 i2 k1 l1 k2 l2 b8=>?_,λb' u' B' id es aY hl=>?_⟩,
  ⟨HE, bA _,λ_ _ _=>rfl,λk' hk=>?_,λ_ h=>.inl h,rfl,⟨rfl,bA _⟩,rfl⟩,?_,0,rfl,rfl⟩
 ·by_cases h:b' = nl/\u' = 0
  ·simp only[ar,ae h]at aY
   simp at aY; obtain⟨rfl,rfl⟩:=aY;exact⟨.inl h,h.2,λ_=>rfl,by simp⟩
  ·simp only[ar,ab h]at aY
   obtain⟨j1,j2,j3,j4⟩:=hg.kU b' u' B' id aY;exact⟨.inr j1,j2,j3,j4⟩
 ·by_cases h:b' = nl/\u' = 0
  ·simp only[ar,ae h]at aY
   simp at aY; obtain⟨rfl,rfl⟩:=aY;simp at hl
  ·simp only[ar,ab h]at aY
   obtain⟨j1,c,el,j2,j3,j4⟩:=hg.live b' u' B' id aY hl;refine⟨j1,c,el,j2,j3,λi x hi=>?_⟩;obtain⟨y,m1,m2,m3⟩:=j4 i x hi;exact⟨y,m1,VR.mono HE _ _ m2,m3⟩
 ·by_cases e1:b1=nl/\u1=0
  ·simp only[ar,ae e1]at k1;simp at k1;obtain⟨rfl,rfl⟩:=k1;simp[eo.lies]at l1
  ·by_cases e2:b2=nl/\u2=0
   ·simp only[ar,ae e2]at k2;simp at k2;obtain⟨rfl,rfl⟩:=k2;simp[eo.lies]at l2
   ·simp only[ar,ab e1]at k1;simp only[ar,ab e2]at k2
    exact hg.apart b1 u1 B1 i1 b2 u2 B2 i2 k1 l1 k2 l2 b8
 ·by_cases h:b' = nl/\u' = 0
  ·simp only[ar,ae h]at aY
   simp at aY; obtain⟨rfl,rfl⟩:=aY; simp at hl
  ·simp only[ar,ab h]at aY
   exact hg.da (C' :=ar C nl 0 (⟨k,[],.jP⟩,0)) HE aY hl rfl (hg.maps b' u' B' id es aY hl).1
 ·obtain⟨b', u', B', aY, hl⟩:=hk
  by_cases h:b' = nl/\u' = 0
  ·simp only[ar,ae h]at aY
   simp at aY; obtain⟨rfl,rfl⟩:=aY; simp[eo.lies]at hl
  ·simp only[ar,ab h]at aY
   exact .inl ⟨b', u', B', aY, hl⟩
 ·unfold VR
  refine⟨⟨none,0,rfl,bA _,λh=>absurd h (Nat.lt_irrefl 0)⟩,.inl ⟨rfl,rfl⟩,λB id h=>?_⟩;simp[ar]at h;obtain⟨rfl,rfl⟩:=h;exact⟨rfl,rfl,rfl⟩
end
end Ab
set_option linter.all false
namespace Ab
open Go
variable{P:Program}
section
variable{w:World}{C:Ctx}
theorem ym{cs:List AV}{al off:Nat}{c:Array Value}{el:TypeId}{fz:Nat×Nat}(h:w.heap[al]? = some (.cells c el fz))
  (hc:∀(i:Nat) q,cs[i]? = some q->∃y,c[off+i]? = some y/\VR C w.heap q y/\y.oneCell' = true) :
  ∃vals:List Value,(∀w1:World,w1.heap=w.heap->(loadCells ⟨al,off,none⟩ cs.length).run P w1 = .ok vals.toArray w1)/\vals.length=cs.length/\∀(i:Nat) q,cs[i]? = some q->∃y,vals[i]? = some y/\VR C w.heap q y/\y.oneCell' = true:=by
 refine⟨(List.range cs.length).map λj=>(c[off+j]?).getD undef,λw1 h1=>run_loadCells w1 _ _ _ λj hj=>?_,by simp,λi q hi=>?_⟩
 ·obtain⟨y,h2,_⟩:=hc j cs[j] (by simp[hj])
  rw[p9];simp[World.cell?,h1,h,h2]
 ·obtain⟨y,h1,h2⟩:=hc i q hi
  have aK:=(cV.1 hi).1;exact⟨y,by simp[aK,h1],h2⟩
theorem BA{st:Nat}{l:List AV}(h:fitAll st l=true):∀x∈l,x.cells.length=st:=λx hx=>(ue h x hx).1
theorem q7{σ:List ag}{k:Option Nat}{X:AV}{v:Value}{n:Nat}{cs:List AV}(h:aG σ k X=some (n,cs)) (hg:Good C w) (db:∀b u B,C.lim b u->upto σ b u=some B->∃id,C.own b u=some (B,id)) (hv:VR C w.heap X v) :
  ∃vals:List Value,(∃q m,v = .slice q n m)/\(∀w1:World,w1.heap=w.heap->(Builtin.firstCells (aC k) n v).run P w1 = .ok vals.toArray w1)/\cs.length=n*aC k/\vals.length=cs.length/\∀(i:Nat) q,cs[i]? = some q->∃y,vals[i]? = some y/\VR C w.heap q y/\y.oneCell' = true:=by
 have ng:∀(a:Option Addr) m (w1:World),w1.heap=w.heap->(Builtin.firstCells (aC k) 0 (.slice a 0 m)).run P w1 = .ok ([]:List Value).toArray w1:=λa m w1 _=>by
  cases a<;>simp[Builtin.firstCells,loadCells,loadCellsFrom]
 have oF:=ng none
 -- elements of an Ly slice
 have yn:∀(l:List AV) (al off oo cap:Nat) (c:Array Value) (el:TypeId) (fz:Nat×Nat),fitAll (aC k) l=true->v = .slice (some ⟨al,off,none⟩) l.length cap->w.heap[al]? = some (.cells c el fz)->ji C w.heap c oo l off->
   ∃vals:List Value,(∃q m,v = .slice q l.length m)/\(∀w1:World,w1.heap=w.heap->(Builtin.firstCells (aC k) l.length v).run P w1 = .ok vals.toArray w1)/\(l.flatMap AV.cells).length=l.length*aC k/\vals.length=(l.flatMap AV.cells).length/\∀(i:Nat) q,(l.flatMap AV.cells)[i]? = some q->∃y,vals[i]? = some y/\VR C w.heap q y/\y.oneCell' = true:=by
  intro l al off oo cap c el fz hf e hH hl;obtain⟨f1,f2⟩:=yk (BA hf);have hc:=Hy (C:=C) (H:=w.heap) (c:=c) (off:=off) (BA hf) (λi x hi=>by
   obtain⟨val,g1,g2,g3⟩:=hl.get i x hi;obtain⟨h1,h2⟩:=ue hf x (qY hi);have bV:oo = aC k:=by rw[<-g2,VR.size h2 g1,h1]
   subst bV;exact⟨val,g1,g2,h2,λj hj=>by rw[<-g3 j hj,Nat.add_assoc]⟩)
  obtain⟨vals,k1,k2,k3⟩:=ym (P:=P) hH hc;exact⟨vals,⟨_,_,e⟩,λw1 h1=>by rw[e];simp only[Builtin.firstCells];rw[<-f1];exact k1 w1 h1,f1,k2,k3⟩
 cases X<;>simp only[aG]at h<;>try(simp at h;done)
 ·simp at h;obtain⟨rfl,rfl⟩:=h
  have hv:v = .slice none 0 0:=hv;subst hv;exact⟨[],⟨_,_,rfl⟩,oF 0,by simp,rfl,λi q h=>by simp at h⟩
 ·simp at h;obtain⟨rfl,rfl⟩:=h
  unfold VR at hv;obtain⟨a0,hv⟩:=hv;subst hv;exact⟨[],⟨_,_,rfl⟩,ng a0 0,by simp,rfl,λi q h=>by simp at h⟩
 ·rename_i nn l
  split at h
  case isFalse=>simp at h
  rename_i hf;simp only[bJ,Prod.mk.injEq]at h;obtain⟨rfl,rfl⟩:=h;unfold VR at hv;rcases hv.2 with⟨rfl,_,rfl,_⟩|⟨al,off,cap,st,c,el,fz,e,_,_,hH,hl⟩
  ·exact⟨[],⟨_,_,rfl⟩,ng _ 0,by simp,rfl,λi q h=>by simp at h⟩
  ·exact yn l al off st cap c el fz hf e hH hl
 ·rename_i l
  split at h
  case isFalse=>simp at h
  rename_i hf;simp only[bJ,Prod.mk.injEq]at h;obtain⟨rfl,rfl⟩:=h;unfold VR at hv;obtain⟨al,off,st,c,el,fz,e,_,hH,hl⟩:=hv;exact yn l al off st l.length c el fz hf e hH hl
 ·rename_i b u off len
  cases hu:upto σ b u with
  |none=>simp[hu]at h
  |some B=>
   simp only[hu]at h;split at h
   case isFalse=>simp at h
   rename_i hle;simp only[bJ,Prod.mk.injEq]at h;obtain⟨rfl,rfl⟩:=h;obtain⟨id,ho⟩:=db b u B (yo hv) hu;obtain⟨_,e1,e3,e4⟩:=hg.kU b u B id ho;unfold VR at hv;have hv:=hv.2.2 B id ho;have hlen:((B.cells.drop off).take (len*aC k)).length=len*aC k:=by simp;omega
   cases hs:B.st with
   |dead=>exact absurd hs e4
   |map es=>have:=vY hu;rw[hs]at this;simp[eo.iF]at this
   |jP=>
    simp only[hs]at hv;obtain⟨rfl,rfl,rfl⟩:=hv;exact⟨[],⟨_,_,rfl⟩,oF 0,by simp,by simp,λi q h=>by simp at h⟩
   |live=>
    simp only[hs]at hv;obtain⟨c,el,o,cap,g1,rfl,g3,g4,g5⟩:=hv;obtain⟨_,c', mi, n2,n3,n4⟩:=hg.live b u B id ho hs;rw[g1]at n2;simp only[bJ,kH]at n2;obtain⟨rfl,rfl,_⟩:=n2
    by_cases h0:len=0
    ·subst h0
     refine⟨[],⟨_,_,rfl⟩,?_,by simp,by simp,λi q h=>by simp at h⟩
     intro w1 _;have:=run_loadCells (P:=P) w1 ⟨id,o,none⟩ 0 (λ_=>undef) (λj hj=>absurd hj (Nat.not_lt_zero j));simpa[Builtin.firstCells]using this
    ·obtain rfl:=g3 (by omega)
     obtain⟨vals,k1,k2,k3⟩:=ym (P:=P) (cs:=(B.cells.drop o).take (len*aC k)) (off:=o) g1 (λi q hi=>by
      have aK:=(cV.1 hi).1;rw[hlen]at aK;rw[sv aK,lH]at hi;exact n4 (o+i) q hi)
     exact⟨vals,⟨_,_,rfl⟩,λw1 h1=>by simp only[Builtin.firstCells];rw[<-hlen];exact k1 w1 h1,hlen,k2,k3⟩
theorem Yc{x:AV}{b:UInt8}(h:byteOf x=some b):∃n:Int,x = .ik 4 n/\(0<=n/\n<=255)/\b=UInt8.ofNat n.toNat:=by
 unfold byteOf at h;split at h
 ·rename_i n
  split at h
  ·rename_i hn
   injection h with h
   exact⟨n,rfl,hn,h.symm⟩
  ·simp at h
 ·simp at h
theorem MF{C:Ctx}{H:Array Obj}:∀{cs:List AV}{s:List UInt8}{vals:List Value},bytesOf cs=some s->vals.length=cs.length->(∀(i:Nat) q,cs[i]? = some q->∃y,vals[i]? = some y/\VR C H q y/\y.oneCell' = true)->∃ns:List Int,vals=ns.map (Value.int .u8)/\ns.map (λn=>UInt8.ofNat n.toNat)=s
 | [],s,vals,h,hl,_=>by
  simp[bytesOf]at h;subst h;obtain rfl:=dW hl;exact⟨[],rfl,rfl⟩
 |x::cs,s,vals,h,hl,hv=>by
  obtain⟨y,h1,h2,_⟩:=hv 0 x rfl;cases vals with
  |nil=>simp at hl
  |cons v vals=>
   simp at h1;subst h1;cases hx:byteOf x with
   |none=>simp[bytesOf,hx]at h
   |some b=>
   cases hb:bytesOf cs with
   |none=>simp[bytesOf,hx,hb]at h
   |some s' =>
    simp[bytesOf,hx,hb]at h;subst h;obtain⟨n,rfl,hn,rfl⟩:=Yc hx;obtain⟨ns,e1,e2⟩:=MF hb (by simpa using hl) (λi q hi=>hv (i+1) q hi)
    unfold VR at h2;obtain⟨K,g1,g2⟩:=h2;rw[show jX 4=some IntKind.u8 from rfl]at g1;cases g1
    exact⟨n::ns,by rw[e1,g2];rfl,by rw[<-e2];rfl⟩
theorem MG:∀(ns:List Int) (b:ByteArray),ns.foldl (λr n=>r.push (UInt8.ofNat n.toNat)) b=⟨b.data++(ns.map λn=>UInt8.ofNat n.toNat).toArray⟩
 | [],b=>by simp
 |n::ns,b=>by
  rw[mA,MG ns];simp[ByteArray.push]
theorem MH{ce:CE}{σ:List ag}{nl:Nat}{ps:List aZ}{r:Rf->AV}{o:Oper}{s d:TypeId}{x:Operand}{y:Rf}{z:AV}{p:Option aZ}{ρ:Operand->Value}(ho:o.op = .convert s d x)
  (ht:(match P.underlying s,P.underlying d with|some (.slice e),some .string=>(match P.underlying e with|some (.int .u8)=>true|_=>false)|_,_=>false)=true) (hg:Good C w) (db:∀b u B,C.lim b u->upto σ b u=some B->∃id,C.own b u=some (B,id)) (hx:VR C w.heap (r y) (ρ x)) (he:ev ce σ nl ps r (.BB y)=some (z,p)):Plain P ρ o w C w.heap z/\p=none:=by
 have hu:∃e,P.underlying s=some (.slice e)/\P.underlying d=some .string/\P.underlying e=some (.int .u8):=by
  split at ht
  ·rename_i e h1 h2
   split at ht
   ·rename_i h3;exact⟨e,h1,h2,h3⟩
   ·simp at ht
  ·simp at ht
 obtain⟨e,hs,hd,Gf⟩:=hu;simp only[ev]at he;cases hc:aG σ none (r y)with
 |none=>rw[hc]at he;simp at he
 |some q=>
  obtain⟨n,cs⟩:=q;rw[hc]at he;simp only at he;cases hb:bytesOf cs with
  |none=>rw[hb]at he;simp at he
  |some bs=>
   rw[hb]at he;simp at he;obtain⟨hz,hp⟩:=he;subst hz hp;obtain⟨vals,⟨q,m,hv⟩,cG,h1,h2,h3⟩:=q7 (P:=P) hc hg db hx;obtain⟨ns,e1,e2⟩:=MF hb h2 h3;have hr:=cG w rfl;have WL:vals.length=n:=by rw[h2,h1];simp[aC]
   refine⟨dX (s:=Go.convert s d (ρ x)) (v:=.string ⟨bs.toArray⟩) (by simp only[execOp,ho]) ?_ (by unfold VR;rfl),rfl⟩
   rw[hv]at hr ⊢;cases q with
   |none=>
    rw[run_convert_bytes_string w s d e none n m hs Gf hd];have hvn:vals=[]:=by
     simp only[Builtin.firstCells,bh,Result.ok.injEq,and_true]at hr;simpa using hr.symm
    rw[hvn]at e1;have:ns=[]:=by simpa using e1.symm
    subst this;simp at e2;subst e2;simp[Conv.bytesToString]
    rfl
   |some ad=>
    rw[run_convert_bytes_string w s d e (some ad) n m hs Gf hd];have hl:(loadCells ad n).run P w = .ok (ns.map (Value.int .u8)).toArray w:=by
     rw[<-e1];simpa[Builtin.firstCells,aC]using hr
    rw[run_bytesToString w ad n m ns hl,MG];simp[e2,ByteArray.empty,ByteArray.emptyWithCapacity]
    rfl
theorem Yd{σ:List ag}{k:Option Nat}{X:AV}{v:Value}{n m:Nat}{cs:List AV}(h:aG σ k X=some (n,cs)) (hm:m<=n) (hg:Good C w) (db:∀b u B,C.lim b u->upto σ b u=some B->∃id,C.own b u=some (B,id)) (hv:VR C w.heap X v) :
  ∃vals:List Value,(∃q m,v = .slice q n m)/\(Builtin.firstCells (aC k) m v).run P w = .ok vals.toArray w/\cs.length=n*aC k/\vals.length=m*aC k/\∀(i:Nat) q,(cs.take (m*aC k))[i]? = some q->∃y,vals[i]? = some y/\VR C w.heap q y/\y.oneCell' = true:=by
 have Gg:m*aC k<=n*aC k:=jT _ hm;have ng:∀(a:Option Addr) j,(Builtin.firstCells (aC k) 0 (.slice a 0 j)).run P w = .ok ([]:List Value).toArray w:=λa j=>by
  cases a<;>simp[Builtin.firstCells,loadCells,loadCellsFrom]
 have yn:∀(l:List AV) (al off oo cap:Nat) (c:Array Value) (el:TypeId) (fz:Nat×Nat),m<=l.length->fitAll (aC k) l=true->v = .slice (some ⟨al,off,none⟩) l.length cap->w.heap[al]? = some (.cells c el fz)->ji C w.heap c oo l off->
   ∃vals:List Value,(∃q m,v = .slice q l.length m)/\(Builtin.firstCells (aC k) m v).run P w = .ok vals.toArray w/\(l.flatMap AV.cells).length=l.length*aC k/\vals.length=m*aC k/\∀(i:Nat) q,((l.flatMap AV.cells).take (m*aC k))[i]? = some q->∃y,vals[i]? = some y/\VR C w.heap q y/\y.oneCell' = true:=by
  intro l al off oo cap c el fz Ye hf e hH hl;obtain⟨f1,f2⟩:=yk (BA hf);have hc:=Hy (C:=C) (H:=w.heap) (c:=c) (off:=off) (BA hf) (λi x hi=>by
   obtain⟨val,g1,g2,g3⟩:=hl.get i x hi;obtain⟨h1,h2⟩:=ue hf x (qY hi);have bV:oo = aC k:=by rw[<-g2,VR.size h2 g1,h1]
   subst bV;exact⟨val,g1,g2,h2,λj hj=>by rw[<-g3 j hj,Nat.add_assoc]⟩)
  have hlen:((l.flatMap AV.cells).take (m*aC k)).length=m*aC k:=by
   have:=jT (aC k) Ye;rw[mB,f1];omega
  obtain⟨vals,k1,k2,k3⟩:=ym (P:=P) (cs:=(l.flatMap AV.cells).take (m*aC k)) (off:=off) hH (λi q hi=>by
   have aK:=(cV.1 hi).1;rw[hlen]at aK;rw[sv aK]at hi;exact hc i q hi)
  exact⟨vals,⟨_,_,e⟩,by rw[e];simp only[Builtin.firstCells];rw[<-hlen];exact k1 w rfl,f1,by rw[k2,hlen],k3⟩
 cases X<;>simp only[aG]at h<;>try(simp at h;done)
 ·simp at h;obtain⟨rfl,rfl⟩:=h
  have hv:v = .slice none 0 0:=hv;subst hv;obtain rfl:m=0:=by omega
  exact⟨[],⟨_,_,rfl⟩,ng none 0,by simp,by simp,λi q h=>by simp at h⟩
 ·simp at h;obtain⟨rfl,rfl⟩:=h
  unfold VR at hv;obtain⟨a0,hv⟩:=hv;subst hv;obtain rfl:m=0:=by omega
  exact⟨[],⟨_,_,rfl⟩,ng a0 0,by simp,by simp,λi q h=>by simp at h⟩
 ·rename_i nn l
  split at h
  case isFalse=>simp at h
  rename_i hf;simp only[bJ,Prod.mk.injEq]at h;obtain⟨rfl,rfl⟩:=h;unfold VR at hv;rcases hv.2 with⟨rfl,_,rfl,_⟩|⟨al,off,cap,st,c,el,fz,e,_,_,hH,hl⟩
  ·obtain rfl:m=0:=by simpa using hm
   exact⟨[],⟨_,_,rfl⟩,ng _ 0,by simp,by simp,λi q h=>by simp at h⟩
  ·exact yn l al off st cap c el fz hm hf e hH hl
 ·rename_i l
  split at h
  case isFalse=>simp at h
  rename_i hf;simp only[bJ,Prod.mk.injEq]at h;obtain⟨rfl,rfl⟩:=h;unfold VR at hv;obtain⟨al,off,st,c,el,fz,e,_,hH,hl⟩:=hv;exact yn l al off st l.length c el fz hm hf e hH hl
 ·rename_i b u off len
  cases hu:upto σ b u with
  |none=>simp[hu]at h
  |some B=>
   simp only[hu]at h;split at h
   case isFalse=>simp at h
   rename_i hle;simp only[bJ,Prod.mk.injEq]at h;obtain⟨rfl,rfl⟩:=h;obtain⟨id,ho⟩:=db b u B (yo hv) hu;obtain⟨_,e1,e3,e4⟩:=hg.kU b u B id ho;unfold VR at hv;have hv:=hv.2.2 B id ho;have hlen:((B.cells.drop off).take (len*aC k)).length=len*aC k:=by simp;omega
   cases hs:B.st with
   |dead=>exact absurd hs e4
   |map es=>have:=vY hu;rw[hs]at this;simp[eo.iF]at this
   |jP=>
    simp only[hs]at hv;obtain⟨rfl,rfl,rfl⟩:=hv;obtain rfl:m=0:=by omega
    exact⟨[],⟨_,_,rfl⟩,ng none 0,by simp,by simp,λi q h=>by simp at h⟩
   |live=>
    simp only[hs]at hv;obtain⟨c,el,o,cap,g1,rfl,g3,g4,g5⟩:=hv;obtain⟨_,c', mi, n2,n3,n4⟩:=hg.live b u B id ho hs;rw[g1]at n2;simp only[bJ,kH]at n2;obtain⟨rfl,rfl,_⟩:=n2
    by_cases h0:m=0
    ·subst h0
     refine⟨[],⟨_,_,rfl⟩,?_,hlen,by simp,λi q h=>by simp at h⟩
     have:=run_loadCells (P:=P) w ⟨id,o,none⟩ 0 (λ_=>undef) (λj hj=>absurd hj (Nat.not_lt_zero j));simpa[Builtin.firstCells]using this
    ·obtain rfl:=g3 (by omega)
     have r6:((B.cells.drop o).take (len*aC k)).take (m*aC k)=(B.cells.drop o).take (m*aC k):=by rw[List.take_take,q8 Gg]
     have yq : ((B.cells.drop o).take (m*aC k)).length=m*aC k:=by simp;omega
     obtain⟨vals,k1,k2,k3⟩:=ym (P:=P) (cs:=(B.cells.drop o).take (m*aC k)) (off:=o) g1 (λi q hi=>by
      have aK:=(cV.1 hi).1;rw[yq]at aK;rw[sv aK,lH]at hi;exact n4 (o+i) q hi)
     exact⟨vals,⟨_,_,rfl⟩,by simp only[Builtin.firstCells];rw[<-yq];exact k1 w rfl,hlen,by rw[k2,yq],by rw[r6];exact k3⟩
theorem MI (n:Nat):∀(m c:Nat),Builtin.growBy n m c<=2^m*(c+768)
 |0,c=>by simp[Builtin.growBy]
 |m+1,c=>by
  unfold Builtin.growBy;split
  ·have:1*(c+768)<=2^(m+1)*(c+768):=jT _ (Nat.one_le_two_pow)
   omega
  ·refine Nat.le_trans (MI n m _) ?_
   rw[Nat.pow_succ,Nat.mul_assoc];refine Nat.mul_le_mul_left _ ?_;omega
theorem Yf{yr cap:Nat}(h:yr<=1073741824) (hc:cap<yr):Builtin.nextslicecap yr cap<=17179881472:=by
 unfold Builtin.nextslicecap;split
 ·omega
 ·split
  ·omega
  ·have h2:Builtin.growBy yr 4 cap<=16*(cap+768):=MI yr 4 cap
   exact Nat.le_trans h2 (Nat.le_trans (Nat.mul_le_mul_left 16 (show cap+768<=1073742592 by omega)) (by decide))
theorem HF{T T' e:TypeId}{k:Option Nat}(ht:aF P T=some e) (jf : (aF P T').isSome=true) (hk:bt P e k=true){ty:TypeId}{x:Value}{n len cap:Nat}{q:Option Addr}{m:Nat}{base:Option Addr}{vals:List Value}{w' : World}
  (hx:x = .slice q n m) (hf:(Builtin.firstCells (aC k) n x).run P w = .ok vals.toArray w) (fE:len+n<=cap)
  (bV:∀b,base=some b->(storeCells (b.add (len*aC k)) vals).run P w = .ok () w') (oG:base=none->w' = w) :
  (Builtin.append_ #[T,T'] ty #[.slice base len cap,x]).run P w = .ok (.slice base (len+n) cap) w' :=by
 obtain⟨e', xA⟩:=sw.1 jf;subst hx;cases base with
 |none=>simp[Builtin.append_,jU ht,jU xA, iT (kF hk),Builtin.lenOf,fE,hf,oG rfl]
 |some b=>
  have bV:=bV b rfl;simp[Builtin.append_,jU ht,jU xA, iT (kF hk),Builtin.lenOf,fE,hf,bV]
theorem Yg{T T' e:TypeId}{k:Option Nat}(ht:aF P T=some e) (jf : (aF P T').isSome=true) (hk:bt P e k=true) (ml:fD P e=true) (hz:cX P e=true){ty:TypeId}{x:Value}{n len cap:Nat}{q:Option Addr}{m:Nat}{base:Option Addr}
  {vals olds:List Value} (hx:x = .slice q n m) (hf:∀w1:World,w1.heap=w.heap->(Builtin.firstCells (aC k) n x).run P w1 = .ok vals.toArray w1) (ho:∀w1:World,w1.heap=w.heap->(Builtin.firstCells (aC k) len (.slice base len cap)).run P w1 = .ok olds.toArray w1)
  (aK:cap<len+n) (hb:len+n<=1073741824) :
  ∃(nc:Nat) (rest:Array Value),len+n<=nc/\rest.size=(nc-(len+n))*aC k/\
   (Builtin.append_ #[T,T'] ty #[.slice base len cap,x]).run P w = .ok (.slice (some ⟨w.heap.size,0,none⟩) (len+n) nc) (cq w.drew (.cells (olds.toArray++vals.toArray++rest) e)):=by
 obtain⟨e', xA⟩:=sw.1 jf;obtain⟨i,hi,ml⟩:=MC ml;subst hx;have X2 : ∃z,i.zero=some z/\z.cells.size=aC k:=by
  unfold cX at hz;simp only[hi]at hz;cases Hw:i.zero with
  |none=>simp[Hw]at hz
  |some z=>
   simp[Hw]at hz;have:=kF hk;simp[b5,hi]at this;exact⟨z,rfl,by omega⟩
 obtain⟨z,Hw,HA⟩:=X2;have hzv:∀w1:World,(zeroValue e).run P w1 = .ok z w1:=λw1=>by
  simp only[zeroValue,aL,run_typeInfo w1 hi,aS,Hw,bh]
 have c0:¬(len+n<=cap):=by omega
 have c1:¬(((len+n:Nat):Int)>IntKind.i64.max):=by
  have:IntKind.i64.max=9223372036854775807:=by decide
  rw[this];omega
 have c2:¬(Builtin.nextslicecap (len+n) cap*i.bytes>2^48):=by
  have h1:=Yf hb aK;have h2:Builtin.nextslicecap (len+n) cap*i.bytes<=17179881472*4096:=Nat.mul_le_mul h1 ml;have h3:17179881472*4096<=2^48:=by decide
  exact Nat.not_lt.2 (Nat.le_trans h2 h3)
 let nc:Nat:=(Question.appendCap (len+n) cap e).cut (w.tape w.drawn (.appendCap (len+n) cap e))
 have Yh:len+n<=nc:=by show _<=_+_;omega
 have HG:(choose (.appendCap (len+n) cap e)).run P w = .ok nc w.drew:=by
  rfl
 have Yi:∀(b:Nat) (w1:World),(askRoom b).run P w1 = .ok () w1:=λb w1=>by
  unfold askRoom;split<;>rfl
 have mj:=iT (kF hk) (P:=P);refine⟨nc,Builtin.zeroCells z.cells (nc-(len+n)),Yh,?_,?_⟩
 ·simp[Builtin.zeroCells,HA]
 ·have hold:=ho w.drew rfl
  have vZ:=hf w.drew rfl;have BC : ¬((9223372036854775807:Int)<(len:Int)+(n:Int)):=by omega
  have AN:(Question.appendCap (len+n) cap e).forced=false:=rfl;have c2' : Builtin.nextslicecap (len+n) cap*i.bytes<=281474976710656:=by
   have:(2:Nat)^48=281474976710656:=by decide
   omega
  simp[Builtin.append_,jU ht,jU xA, mj,Builtin.lenOf,c0,BC, run_typeInfo w hi,c2', AN,HG,run_typeInfo w.drew hi,Yi,hold,vZ,hzv,ye];rw[ab (by omega)]
  have MJ:∀Z:Array Value,olds.toArray++(vals.toArray++Z)=(olds++vals).toArray++Z:=λZ=>by rw[<-Array.append_assoc];simp
  first
   |(rw[MJ];done)
   |(rw[MJ];rfl)
   |rfl
end
end Ab
set_option linter.all false
namespace Ab
open Go
variable{P:Program}
theorem jY (w:World) (g:Nat) (c:Array Value){k:Nat}(h:k ≠ g):(w.setRow g c).heap[k]? = w.heap[k]?:=by
 simp only[World.setRow,sx];rw[ab (by omega)]
theorem nH (w:World) (g:Nat) (c:Array Value):(w.setRow g c).heap.size=w.heap.size:=by simp[World.setRow]
theorem MK{C:Ctx}{w:World}(hg:Good C w){id:Nat}{c c' : Array Value}{el:TypeId}(BD:owned C id) (hH:w.heap[id]? = some (.cells c el (0,0))) (hs:c'.size=c.size) (C' : Ctx) (hI:∀k,C.I k->C'.I k) (fL:∀b u,C.lim b u->C'.lim b u)
  (bO:∀b u B' i,C.lim b u->C'.own b u=some (B', i)->∃B,C.own b u=some (B,i)/\B.st=B'.st/\B.k=B'.k):fR C w.heap C' (w.setRow id c').heap:=by
 refine⟨hI,λk hk=>jY w id c' λe=>hg.Yj BD (e▸hk),fL,λb u B' i hl ho=>?_⟩;obtain⟨B,h1,h2,h3⟩:=bO b u B' i hl ho;refine⟨B,h1,by rw[h2],h3,λq mi hq=>?_⟩
 by_cases e:i=id
 ·subst e
  rw[hH]at hq;simp only[bJ,kH]at hq;obtain⟨rfl,rfl,_⟩:=hq;exact⟨c', setRow_heap w i c c' el (0,0) hH,hs⟩
 ·exact⟨q,by rw[jY w id c' e];exact hq,rfl⟩
section
variable{a:Act}{ρ:Operand->Value}{r:Rf->AV}{w:World}{C:Ctx}{R:Operand->Rf->Bool}{ce:CE}{σ:List ag}{nl:Nat}{ps:List aZ}
theorem Yk{o:Oper}{ca:Call}{bi:Builtin}(ho:o.op = .call ca) (hc:ca.callee = .builtin bi) (w:World) :
  (execOp a.eval o).run P w=(builtin bi ca.argTypes o.type (ca.args.map fun | .const _=>true|_=>false) (ca.args.map a.eval)).run P w:=by
 simp only[execOp,ho,resolve,hc,aL,bh,aS,invoke]
 rfl
theorem jZ{o:Oper}{ca:Call}{s x:Operand}{t t' : TypeId}{kE:Value->World->Prop}{v:Value}{w' : World}(ho:o.op = .call ca) (hc:ca.callee = .builtin .append) (ha:ca.args.toList=[s,x]) (eY:ca.argTypes.toList=[t,t'])
  (h:(Builtin.append_ #[t,t'] o.type #[a.eval s,a.eval x]).run P w = .ok v w') (hp:kE v w'):bF P o a w kE:=by
 have nI : ca.args = #[s,x]:=by rw[<-Array.toList_inj];simpa using ha
 have nJ : ca.argTypes = #[t,t']:=by rw[<-Array.toList_inj];simpa using eY
 refine bF.val (v:=v) (w' :=w') ?_ hp;rw[Yk ho hc];simp only[builtin,nI, nJ, aL];have:Array.map a.eval #[s,x] = #[a.eval s,a.eval x]:=by simp
 rw[this,h];simp
theorem Yl{cells cs:List AV}{olds vals:List Value}{rest:Array Value}{H:Array Obj}(h1:olds.length=cells.length) (h2:vals.length=cs.length)
  (ho:∀(i:Nat) q,cells[i]? = some q->∃y,olds[i]? = some y/\VR C H q y/\y.oneCell' = true) (hv:∀(i:Nat) q,cs[i]? = some q->∃y,vals[i]? = some y/\VR C H q y/\y.oneCell' = true) :
  (cells++cs).length<=(olds.toArray++vals.toArray++rest).size/\∀(i:Nat) q,(cells++cs)[i]? = some q->∃y,(olds.toArray++vals.toArray++rest)[i]? = some y/\VR C H q y/\y.oneCell' = true:=by
 refine⟨by simp;omega,λi q hi=>?_⟩
 have aK:=(cV.1 hi).1;simp at aK;rw[kV (by simp;omega)]
 by_cases hl:i<cells.length
 ·rw[fw hl]at hi
  obtain⟨y,g1,g2⟩:=ho i q hi;exact⟨y,by rw[kV (by simp;omega)];simpa using g1,g2⟩
 ·rw[gv (by omega)]at hi
  obtain⟨y,g1,g2⟩:=hv _ q hi;exact⟨y,by rw[uh (by simp;omega)];simpa[h1]using g1,g2⟩
theorem Ym{B:ag}{b:Nat}{c:Array Value}{el:TypeId}(hg:Good C w) (hb:¬C.lim b B.cells.length) (bV:B.st = .live) (hle:B.cells.length<=c.size) (hc:∀(i:Nat) x,B.cells[i]? = some x->∃y,c[i]? = some y/\VR C w.heap x y/\y.oneCell' = true) :
  Good (ar C b B.cells.length (B,w.heap.size)) (cq w.drew (.cells c el))/\Step C w (ar C b B.cells.length (B,w.heap.size)) (cq w.drew (.cells c el)):=by
 have h1:Good C w.drew:=hg.heap rfl;obtain⟨g1,g2⟩:=Bp h1 B hb c el bV hle hc;exact⟨g1,(Step.heap (C:=C) (w:=w) (w' :=w.drew) rfl rfl ⟨rfl,Nat.le_succ _⟩ rfl).trans g2⟩
theorem Yn{B:ag}{b id:Nat}{cs:List AV}{c:Array Value}{el:TypeId}{vals:List Value}(hg:Good C w) (ho:C.own b B.cells.length=some (B,id)) (hl:B.st = .live) (nE:¬C.lim b (B.cells++cs).length)
  (lI:∀u' B' id', C.own b u' = some (B', id')->u' = B.cells.length) (hH:w.heap[id]? = some (.cells c el (0,0))) (fE:B.cells.length+vals.length<=c.size) (pM:vals.length=cs.length)
  (hv:∀(i:Nat) q,cs[i]? = some q->∃y,vals[i]? = some y/\VR C w.heap q y/\y.oneCell' = true) :
  Good (ar C b (B.cells++cs).length (⟨B.k,B.cells++cs,.live⟩,id)) (w.setRow id (c.toList.take B.cells.length++vals++c.toList.drop (B.cells.length+vals.length)).toArray)/\
  Step C w (ar C b (B.cells++cs).length (⟨B.k,B.cells++cs,.live⟩,id)) (w.setRow id (c.toList.take B.cells.length++vals++c.toList.drop (B.cells.length+vals.length)).toArray):=by
 have bO:owned C id:=⟨b,_,B,ho,lJ hl⟩;generalize ga : (c.toList.take B.cells.length++vals++c.toList.drop (B.cells.length+vals.length)).toArray=c';have hs:c'.size=c.size:=by subst ga; simp;omega
 have gF:∀i,c'[i]? = if B.cells.length<=i/\i<B.cells.length+vals.length then vals[i-B.cells.length]? else c[i]?:=λi=>by
  subst ga;simp only[List.getElem?_toArray]
  by_cases h1:i<B.cells.length
  ·rw[ab (by omega),iW,fw (by simp;omega),sv h1];simp
  ·by_cases h2:i<B.cells.length+vals.length
   ·rw[ae ⟨by omega,h2⟩,fw (by simp;omega),gv (by simp;omega)]
    congr 1;simp;omega
   ·rw[ab (by omega),gv (by simp;omega),lH]
    simp
    congr 1;omega
 have ev:=MK (c' :=c') hg bO hH hs (ar C b (B.cells++cs).length (⟨B.k,B.cells++cs,.live⟩,id)) (λ_ h=>h) (λ_ _ h=>.inr h) (λb' u' B' i AO aY =>by
  have b8:¬(b' = b/\u' = (B.cells++cs).length):=λ⟨e1,e2⟩=>nE (e1▸e2▸AO);simp only[ar,ab b8]at aY;exact⟨B', aY, rfl,rfl⟩)
 obtain⟨n1,c0,el0,n2,n3,n4⟩:=hg.live b _ B id ho hl;rw[hH]at n2;simp only[bJ,kH]at n2;obtain⟨rfl,rfl,_⟩:=n2;have q9:(w.setRow id c').heap[id]? = some (.cells c' el (0,0)):=setRow_heap w id c c' el (0,0) hH;refine⟨⟨λk hk=>by rw[nH];exact hg.I k hk,λb' u' B' i aY =>?_,λb' u' B' i aY cw =>?_,λb1 u1 B1 i1 b2 u2 B2 i2 k1 l1 k2 l2 b8=>?_,λb' u' B' i es aY cw =>?_⟩,
  ⟨ev,by rw[nH];exact bA _,λk hk oG=>jY w id c' λe=>oG (e▸bO),λk hk=>?_,λk hk=>.inl hk,rfl,⟨rfl,bA _⟩,rfl⟩⟩
 ·by_cases e:b' = b/\u' = (B.cells++cs).length
  ·simp only[ar,ae e]at aY
   simp at aY; obtain⟨rfl,rfl⟩:=aY;exact⟨.inl e,e.2,λh=>by simp at h,by simp⟩
  ·simp only[ar,ab e]at aY
   obtain⟨j1,j2,j3,j4⟩:=hg.kU b' u' B' i aY;exact⟨.inr j1,j2,j3,j4⟩
 ·by_cases e:b' = b/\u' = (B.cells++cs).length
  ·simp only[ar,ae e]at aY
   simp at aY; obtain⟨rfl,rfl⟩:=aY;refine⟨n1,c', el,q9,by rw[hs];simp;omega,λi q hi=>?_⟩
   rw[gF]
   by_cases h1:i<B.cells.length
   ·have dx : (B.cells++cs)[i]? = some q:=hi
    rw[fw h1]at dx;obtain⟨y,m1,m2,m3⟩:=n4 i q dx;exact⟨y,by rw[ab (by omega)];exact m1,VR.mono ev _ _ m2,m3⟩
   ·have dx : (B.cells++cs)[i]? = some q:=hi
    rw[gv (by omega)]at dx
    have aK:=(cV.1 dx).1;obtain⟨y,m1,m2,m3⟩:=hv _ q dx;exact⟨y,by rw[ae ⟨by omega,by omega⟩];exact m1,VR.mono ev _ _ m2,m3⟩
  ·simp only[ar,ab e]at aY
   obtain⟨j1,c1,ML,j2,j3,j4⟩:=hg.live b' u' B' i aY cw
   by_cases hi:i=id
   ·subst hi
    have sA:b' = b:=Decidable.byContradiction λh=>hg.apart b' u' B' i b _ B i aY (lJ cw) ho (lJ hl) h rfl;subst sA;have hu:=lI u' B' i aY;have hlen:=(hg.kU b' u' B' i aY).2.1;rw[hH]at j2;simp only[bJ,kH]at j2;obtain⟨rfl,rfl,_⟩:=j2;refine⟨j1,c', el,q9,by omega,λi' q hq=>?_⟩
    have aK:=(cV.1 hq).1;obtain⟨y,m1,m2,m3⟩:=j4 i' q hq;exact⟨y,by rw[gF,ab (by omega)];exact m1,VR.mono ev _ _ m2,m3⟩
   ·refine⟨j1,c1,ML,by rw[jY w id c' hi];exact j2,j3,λi' q hq=>?_⟩
    obtain⟨y,m1,m2,m3⟩:=j4 i' q hq;exact⟨y,m1,VR.mono ev _ _ m2,m3⟩
 ·have hb:∀b' u' B' i,(ar C b (B.cells++cs).length (⟨B.k,B.cells++cs,.live⟩,id)).own b' u' = some (B', i)->B'.st.lies=true->∃BE vh, C.own b' BE = some (vh, i)/\vh.st.lies=true:=by
   intro b' u' B' i aY cw
   by_cases e:b' = b/\u' = (B.cells++cs).length
   ·simp only[ar,ae e]at aY
    simp at aY; obtain⟨rfl,rfl⟩:=aY;exact⟨_,B,by rw[e.1];exact ho,lJ hl⟩
   ·simp only[ar,ab e]at aY
    exact⟨u', B', aY, cw⟩
  obtain⟨_,_,q1,q2⟩:=hb b1 u1 B1 i1 k1 l1;obtain⟨_,_,q3,q4⟩:=hb b2 u2 B2 i2 k2 l2;exact hg.apart _ _ _ _ _ _ _ _ q1 q2 q3 q4 b8
 ·by_cases e:b' = b/\u' = (B.cells++cs).length
  ·simp only[ar,ae e]at aY
   simp at aY; obtain⟨rfl,rfl⟩:=aY;simp at cw
  ·simp only[ar,ab e]at aY
   have hi:i ≠ id:=λhi=>by
    subst hi;have sA:b' = b:=Decidable.byContradiction λh=>hg.apart b' u' B' i b _ B i aY (lE cw) ho (lJ hl) h rfl;subst sA;have hu:=lI u' B' i aY;rw[hu,ho]at aY;simp at aY;rw[<-aY, hl]at cw;simp at cw
   exact hg.da (C' :=ar C b (B.cells++cs).length (⟨B.k,B.cells++cs,.live⟩,id)) ev aY cw (jY w id c' hi) (hg.maps b' u' B' i es aY cw).1
 ·obtain⟨b', u', B', aY, cw⟩:=hk
  by_cases e:b' = b/\u' = (B.cells++cs).length
  ·simp only[ar,ae e]at aY
   simp at aY; obtain⟨rfl,rfl⟩:=aY;exact .inl bO
  ·simp only[ar,ab e]at aY
   exact .inl ⟨b', u', B', aY, cw⟩
end
end Ab
set_option linter.all false
namespace Ab
open Go
variable{P:Program}
theorem Good.shrink{C C2:Ctx}{w:World}(hg:Good C w) (hI:C2.I=C.I) (bO:∀b u e,C2.own b u=some e->C.own b u=some e) (fL:∀b u,C.lim b u->C2.lim b u):Good C2 w/\Step C w C2 w:=by
 have ev:fR C w.heap C2 w.heap:=⟨λk h=>by rw[hI];exact h,λ_ _=>rfl,fL,λb u B' id _ ho=>⟨B', bO _ _ _ ho,rfl,rfl,λc el hc=>⟨c,hc,rfl⟩⟩⟩
 refine⟨⟨by rw[hI];exact hg.I,λb u B id ho=>?_,λb u B id ho hl=>?_,λb1 u1 B1 i1 b2 u2 B2 i2 h1 l1 h2 l2 b8=>hg.apart _ _ _ _ _ _ _ _ (bO _ _ _ h1) l1 (bO _ _ _ h2) l2 b8,λb u B id es ho hl=>hg.da ev (bO _ _ _ ho) hl rfl (by rw[hI];exact(hg.maps b u B id es (bO _ _ _ ho) hl).1)⟩,
  ⟨ev,bA _,λ_ _ _=>rfl,λk ⟨b,u,B,ho,hl⟩=>.inl ⟨b,u,B,bO _ _ _ ho,hl⟩,λk h=>.inl (by rw[hI]at h;exact h),rfl,⟨rfl,bA _⟩,rfl⟩⟩
 ·obtain⟨h1,h2,h3,h4⟩:=hg.kU b u B id (bO _ _ _ ho)
  exact⟨fL _ _ h1,h2,h3,h4⟩
 ·obtain⟨h1,c,el,h2,h3,h4⟩:=hg.live b u B id (bO _ _ _ ho) hl
  refine⟨by rw[hI];exact h1,c,el,h2,h3,λi x hi=>?_⟩
  obtain⟨y,k1,k2,k3⟩:=h4 i x hi;exact⟨y,k1,VR.mono ev _ _ k2,k3⟩
section
variable{a:Act}{ρ:Operand->Value}{r:Rf->AV}{w:World}{C:Ctx}{R:Operand->Rf->Bool}{ce:CE}{σ:List ag}{nl:Nat}{ps:List aZ}
theorem re{T T' e:TypeId}{k k0:Option Nat}(ht:aF P T=some e) (jf : (aF P T').isSome=true) (hk:bt P e k=true) (ml:fD P e=true) (hz:cX P e=true){ty:TypeId}{X:AV}{vx:Value}{n:Nat}{cs cells:List AV}(hg:Good C w)
  (db:∀b u B,C.lim b u->upto σ b u=some B->∃id,C.own b u=some (B,id)) (et:aG σ k X=some (n,cs)) (hx:VR C w.heap X vx) {b len cap:Nat} {base:Option Addr} {olds:List Value} (hb:¬C.lim b (cells++cs).length) (j5:aC k0=aC k)
  (hlen:cells.length=len*aC k) (Yo:olds.length=cells.length) (hold:∀w1:World,w1.heap=w.heap->(Builtin.firstCells (aC k) len (.slice base len cap)).run P w1 = .ok olds.toArray w1)
  (MM:∀(i:Nat) q,cells[i]? = some q->∃y,olds[i]? = some y/\VR C w.heap q y/\y.oneCell' = true) (aK:cap<len+n) (fS:len+n<=dG) :
  ∃v w' id', (Builtin.append_ #[T,T'] ty #[.slice base len cap,vx]).run P w = .ok v w' /\Good (ar C b (cells++cs).length (⟨k0,cells++cs,.live⟩,id')) w' /\Step C w (ar C b (cells++cs).length (⟨k0,cells++cs,.live⟩,id')) w' /\
    VR (ar C b (cells++cs).length (⟨k0,cells++cs,.live⟩,id')) w'.heap (.sl b (cells++cs).length 0 (len+n)) v:=by
 obtain⟨vals,⟨q,m,xB⟩,hf,gG,pM,j6⟩:=q7 (P:=P) et hg db hx;obtain⟨nc,rest,h1,h2,h3⟩:=Yg (P:=P) (w:=w) (ty:=ty) (olds:=olds) ht jf hk ml hz xB hf hold aK fS;obtain⟨g1,g2⟩:=Yl (rest:=rest) (C:=C) (H:=w.heap) Yo pM MM j6;have hl:(⟨k0,cells++cs,.live⟩:ag).cells.length=(cells++cs).length:=rfl;obtain⟨p1,p2⟩:=Ym (b:=b) (B:=⟨k0,cells++cs,.live⟩) (c:=olds.toArray++vals.toArray++rest) (el:=e) hg hb rfl g1 g2;refine⟨_,_,w.heap.size,h3,p1,p2,vX (B:=⟨k0,cells++cs,.live⟩) (id:=w.heap.size) (by simp[ar]) (.inl ⟨rfl,rfl⟩) rfl (oA w.drew _) h1 ?_⟩
 simp only[j5];have e1:(nc-(len+n))*aC k+(len+n)*aC k=nc*aC k:=by rw[<-Nat.add_mul,Nat.sub_add_cancel h1]
 rw[fC len n]at e1;simp;omega
theorem MN{T T' e:TypeId}{k:Option Nat}(ht:aF P T=some e) (jf : (aF P T').isSome=true) (hk:bt P e k=true) (ml:fD P e=true) (hz:cX P e=true){ty:TypeId}{X:AV}{vx:Value}{n:Nat}{cs:List AV}(hg:Good C w)
  (db:∀b u B,C.lim b u->upto σ b u=some B->∃id,C.own b u=some (B,id)) (et:aG σ k X=some (n,cs)) (hx:VR C w.heap X vx) {b len:Nat} {vs:Value} {B:ag} {id:Nat} (ho:C.own b B.cells.length=some (B,id)) (hu:B.cells.length=len*aC k) (j5:aC B.k=aC k)
  (hs:VR C w.heap (.sl b B.cells.length 0 len) vs) (hn:0<n) (fS:len+n<=dG) (Gh:B.st.iF=false) (hb:¬C.lim b (B.cells++cs).length) (lI:∀u' B' id', C.own b u' = some (B', id')->u' = B.cells.length) :
  ∃v w' id', (Builtin.append_ #[T,T'] ty #[vs,vx]).run P w = .ok v w' /\Good (ar C b (B.cells++cs).length (⟨B.k,B.cells++cs,.live⟩,id')) w' /\Step C w (ar C b (B.cells++cs).length (⟨B.k,B.cells++cs,.live⟩,id')) w' /\
    VR (ar C b (B.cells++cs).length (⟨B.k,B.cells++cs,.live⟩,id')) w'.heap (.sl b (B.cells++cs).length 0 (len+n)) v:=by
 obtain⟨_,_,e3,e4⟩:=hg.kU b _ B id ho;unfold VR at hs;have hs:=hs.2.2 B id ho;cases bV:B.st with
 |dead=>exact absurd bV e4
 |map es=>rw[bV]at Gh;simp[eo.iF]at Gh
 |jP=>
  simp only[bV]at hs;obtain⟨_,rfl,rfl⟩:=hs;have xC:=e3 bV;have:=re (P:=P) (σ:=σ) (cells:=B.cells) (k0:=B.k) (b:=b) (len:=0) (cap:=0) (base:=none) (olds:=[]) (ty:=ty) ht jf hk ml hz hg db et hx hb j5 (by rw[xC];simp) (by rw[xC];rfl) (λw1 _=>by simp[Builtin.firstCells]) (by rw[xC];simp) (by omega) (by omega)
  simpa using this
 |live=>
  simp only[bV]at hs;obtain⟨c,el,o,cap,g1,rfl,g3,g4,g5⟩:=hs;obtain⟨_,c', mi, n2,n3,n4⟩:=hg.live b _ B id ho bV;rw[g1]at n2;simp only[bJ,kH]at n2;obtain⟨rfl,rfl,_⟩:=n2
  by_cases fE:len+n<=cap
  ·have p8:0<cap:=by omega
   have Yp:=g3 p8;subst Yp;obtain⟨vals,⟨q,m,xB⟩,hf,gG,pM,j6⟩:=q7 (P:=P) et hg db hx;have MO : B.cells.length+vals.length<=c.size:=by
    have:(len+n)*aC k<=cap*aC k:=jT _ fE;rw[fC]at this;rw[j5]at g5;omega
   obtain⟨p1,p2⟩:=Yn hg ho bV hb lI g1 MO pM j6;have kI:∀v∈vals,v.oneCell' = true:=λv hv=>by
    obtain⟨i,hi⟩:=List.getElem?_of_mem hv;have aK:=(cV.1 hi).1;obtain⟨y,m1,m2,m3⟩:=j6 i cs[i] (de (by omega))
    rw[hi]at m1;simp at m1;subst m1;exact m3
   have fg:=run_storeCells_at P id B.cells.length el vals 0 c w g1 (by omega) kI
   have BF:=HF (P:=P) (w:=w) (ty:=ty) (base:=some ⟨id,0,none⟩) ht jf hk xB (hf w rfl) fE (λb hb=>by
    simp at hb;subst hb;rw[p9,jj,<-hu];exact fg) (λh=>by simp at h)
   refine⟨_,_,id,BF,p1,p2,?_⟩;have r7 : (w.setRow id (c.toList.take B.cells.length++vals++c.toList.drop (B.cells.length+vals.length)).toArray).heap[id]? = some (.cells _ el (0,0)):=setRow_heap w id c _ el (0,0) g1;refine vX (B:=⟨B.k,B.cells++cs,.live⟩) (id:=id) (by simp[ar]) (.inl ⟨rfl,rfl⟩) rfl r7 fE ?_
   rw[j5]at g5 ⊢;simp only[List.size_toArray,bz,mB,List.length_drop,nK];omega
  ·by_cases h0:len=0
   ·subst h0
    have xC:B.cells=[]:=dW (by omega)
    refine re (P:=P) (σ:=σ) (cells:=B.cells) (k0:=B.k) (b:=b) (olds:=[]) (ty:=ty) ht jf hk ml hz hg db et hx hb j5 hu (by rw[xC];rfl) (λw1 h1=>?_) (by rw[xC];simp) (by omega) fS
    have:=run_loadCells (P:=P) w1 ⟨id,o,none⟩ 0 (λ_=>undef) (λj hj=>absurd hj (Nat.not_lt_zero j));simpa[Builtin.firstCells]using this
   ·obtain rfl:=g3 (by omega)
    obtain⟨olds,k1,k2,k3⟩:=ym (P:=P) (cs:=B.cells) (off:=0) g1 (λi q hi=>by rw[jj];exact n4 i q hi)
    exact re (P:=P) (σ:=σ) (cells:=B.cells) (k0:=B.k) (b:=b) (olds:=olds) (ty:=ty) ht jf hk ml hz hg db et hx hb j5 hu k2 (λw1 h1=>by simp only[Builtin.firstCells];rw[<-hu];exact k1 w1 h1) k3 (by omega) fS
end
end Ab
namespace Ab
open Go
variable{P:Program}
section
variable{a:Act}{ρ:Operand->Value}{r:Rf->AV}{w:World}{C:Ctx}{R:Operand->Rf->Bool}{ce:CE}{σ:List ag}{nl:Nat}{ps:List aZ}
theorem BG{a b:Option Nat}(h:tU a b=true):a=b:=by
 cases a<;>cases b<;>simp[tU]at h<;>simp[h]
theorem sB{T T' e:TypeId}{k:Option Nat}(ht:aF P T=some e) (jf : (aF P T').isSome=true) (hk:bt P e k=true){ty:TypeId}{X:AV}{vx vs:Value}{cs:List AV}(hg:Good C w)
  (db:∀b u B,C.lim b u->upto σ b u=some B->∃id,C.own b u=some (B,id)) (et:aG σ k X=some (0,cs)) (hx:VR C w.heap X vx) (hs:∃a l c,vs = .slice a l c/\l<=c) :
  (Builtin.append_ #[T,T'] ty #[vs,vx]).run P w = .ok vs w:=by
 obtain⟨base,l,c,rfl,MP⟩:=hs;obtain⟨vals,⟨q,m,xB⟩,hf,gG,pM,j6⟩:=q7 (P:=P) et hg db hx;have qG:vals=[]:=dW (by omega)
 subst qG;have:=HF (P:=P) (w:=w) (w' :=w) (ty:=ty) (base:=base) (len:=l) (cap:=c) ht jf hk xB (hf w rfl) (by omega) (λb _=>rfl) (λ_=>rfl)
 simpa using this
theorem Yq{o:Oper}{ca:Call}{s x:Operand}{t t' e:TypeId}{s' x' : Rf}{k:Option Nat}{z:AV}{p:Option aZ}(ho:o.op = .call ca) (hc:ca.callee = .builtin .append) (ha:ca.args.toList=[s,x]) (eY:ca.argTypes.toList=[t,t'])
  (ht:aF P t=some e) (jf : (aF P t').isSome=true) (hk:bt P e k=true) (ml:fD P e=true) (hz:cX P e=true) (hg:Good C w)
  (db:∀b u B,C.lim b u->upto σ b u=some B->∃id,C.own b u=some (B,id)) (hb:∀u,¬C.lim nl u)
  (vi:∀b u B cs,upto σ b u=some B->p=some (.grow b cs)->oH b ps=false->(∀n,u<n->¬C.lim b n)/\∀u' B' id', C.own b u' = some (B', id')->u' = u)
  (hs:VR C w.heap (r s') (a.eval s)) (hx:VR C w.heap (r x') (a.eval x)) (he:ev ce σ nl ps r (.app s' x' k)=some (z,p)):bF P o a w (iU nl C w z p):=by
 simp only[ev]at he;cases et:aG σ k (r x')with
 |none=>simp[et]at he
 |some MQ=>
  obtain⟨n,cs⟩:=MQ;simp only[et]at he;cases gV : r s' <;>simp only[gV]at he<;>try(simp at he;done)
  ·-- nil
   rw[gV]at hs;have hv:a.eval s = .slice none 0 0:=hs
   by_cases hn:n=0
   ·subst hn
    simp at he;obtain⟨rfl,rfl⟩:=he;refine jZ ho hc ha eY (sB ht jf hk hg db et hx ⟨none,0,0,hv,bA 0⟩) ?_;exact(dc.same hg (by rw[hv];exact rfl)).e
   ·have lA : (n==0)=false:=by simpa using hn
    simp only[lA, eu,ew]at he;split at he
    case isFalse=>simp at he
    rename_i fS;simp only[bJ,Prod.mk.injEq]at he;obtain⟨rfl,rfl⟩:=he;obtain⟨v,w', id', h1,h2,h3,h4⟩:=re (P:=P) (σ:=σ) (cells:=[]) (k0:=k) (b:=nl) (len:=0) (cap:=0) (base:=none) (olds:=[]) (ty:=o.type) ht jf hk ml hz hg db et hx (hb _) rfl (by simp) rfl (λw1 _=>by simp[Builtin.firstCells]) (by simp) (by omega) (by omega)
    rw[<-hv]at h1;simp only[rf,jj]at h2 h3 h4;exact jZ ho hc ha eY h1 ⟨_,h2,h3,h4,id', rfl,rfl⟩
  ·-- an empty slice WM room
   rw[gV]at hs;have oI:=hs;unfold VR at hs;obtain⟨a0,hv⟩:=hs
   by_cases hn:n=0
   ·subst hn
    simp at he;obtain⟨rfl,rfl⟩:=he;refine jZ ho hc ha eY (sB ht jf hk hg db et hx ⟨_,_,_,hv,bA 0⟩) ?_;exact(dc.same hg oI).e
   ·have lA : (n==0)=false:=by simpa using hn
    simp only[lA, eu,ew]at he;split at he
    case isFalse=>simp at he
    rename_i fS;simp only[bJ,Prod.mk.injEq]at he;obtain⟨rfl,rfl⟩:=he;obtain⟨olds,_,k1,k2,k3,k4⟩:=q7 (P:=P) (σ:=σ) (k:=k) (X:=.emp) (v:=a.eval s) (n:=0) (cs:=[]) (by simp[aG]) hg db oI
    rw[hv]at k1;obtain⟨v,w', id', h1,h2,h3,h4⟩:=re (P:=P) (σ:=σ) (cells:=[]) (k0:=k) (b:=nl) (len:=0) (cap:=0) (base:=a0) (olds:=olds) (ty:=o.type) ht jf hk ml hz hg db et hx (hb _) rfl k2 k3 k1 k4 (by omega) (by omega)
    rw[<-hv]at h1;simp only[rf,jj]at h2 h3 h4;exact jZ ho hc ha eY h1 ⟨_,h2,h3,h4,id', rfl,rfl⟩
  ·-- a literal
   rename_i l;rw[gV]at hs;have oI:=hs;unfold VR at hs;obtain⟨al,off,st,c,el,fz,hv,hI,hH,hl⟩:=hs
   by_cases hn:n=0
   ·subst hn
    simp at he;obtain⟨rfl,rfl⟩:=he;refine jZ ho hc ha eY (sB ht jf hk hg db et hx ⟨_,_,_,hv,bA _⟩) ?_;refine(dc.same hg ?_).e;split
    ·rename_i ss
     unfold VR;exact⟨ss,.inr ⟨al,off,l.length,st,c,el,fz,hv,bA _,hI,hH,hl⟩⟩
    ·exact oI
   ·have lA : (n==0)=false:=by simpa using hn
    simp only[lA, eu,ew]at he;split at he
    case isFalse=>simp at he
    rename_i fo;simp only[aD,eR]at fo;simp only[bJ,Prod.mk.injEq]at he;obtain⟨rfl,rfl⟩:=he;obtain⟨olds,_,k1,k2,k3,k4⟩:=q7 (P:=P) (σ:=σ) (k:=k) (X:=.arr l) (v:=a.eval s) (n:=l.length) (cs:=l.flatMap AV.cells) (by simp only[aG,fo.1,dA]) hg db oI
    rw[hv]at k1;obtain⟨v,w', id', h1,h2,h3,h4⟩:=re (P:=P) (σ:=σ) (cells:=l.flatMap AV.cells) (k0:=k) (b:=nl) (olds:=olds) (ty:=o.type) ht jf hk ml hz hg db et hx (hb _) rfl k2 k3 k1 k4 (by omega) fo.2
    rw[<-hv]at h1;exact jZ ho hc ha eY h1 ⟨_,h2,h3,h4,id', rfl,rfl⟩
  ·-- an owned slice
   rename_i b u off len;cases hu:upto σ b u with
   |none=>simp[hu]at he
   |some B=>
    simp only[hu]at he;split at he
    case isFalse=>simp at he
    rename_i fo;simp only[aD,cP,eR,Bool.not_eq_true']at fo;obtain⟨⟨⟨⟨rfl,oJ⟩,fS⟩,Yr⟩,vj⟩:=fo;have vj:=BG vj;rw[gV]at hs;obtain⟨id,bO⟩:=db b u B (yo hs) hu;have Yt :=(hg.kU b u B id bO).2.1
    by_cases hn:n=0
    ·subst hn
     simp at he;obtain⟨rfl,rfl⟩:=he;have vk:∃a' l' c', a.eval s = .slice a' l' c' /\l' <=c' :=by
      unfold VR at hs;obtain⟨⟨q,c,e1,e2,_⟩,_⟩:=hs;exact⟨_,_,_,e1,e2⟩
     exact jZ ho hc ha eY (sB ht jf hk hg db et hx vk) (dc.same hg hs).e
    ·have lA : (n==0)=false:=by simpa using hn
     simp only[lA, eu,ew]at he;split at he
     case isTrue=>simp at he
     rename_i jO;simp at jO;simp only[bJ,Prod.mk.injEq]at he;obtain⟨rfl,rfl⟩:=he;subst Yt;obtain⟨q1,q2⟩:=vi b _ B cs hu rfl Yr;have aK:B.cells.length<(B.cells++cs).length:=by
      have:0<cs.length:=mC.2 jO;simp;omega
     obtain⟨v,w', id', h1,h2,h3,h4⟩:=MN (P:=P) (σ:=σ) (ty:=o.type) ht jf hk ml hz hg db et hx bO oJ (by rw[vj]) hs (by omega) fS (vY hu) (q1 _ aK) q2
     have e1:B.cells.length+cs.length=(B.cells++cs).length:=by simp
     rw[e1];exact jZ ho hc ha eY h1 ⟨_,h2,h3,h4,B,id,id', jO,bO,rfl,rfl⟩
end
end Ab
set_option linter.all false
namespace Ab
open Go
variable{P:Program}
def iX (σ:List ag) (ids:Nat->Nat) (I:Nat->Prop) (w:World) (x:AV) (bp : List ag) (v:Value) (w' : World):Prop:=
 ∃aJ I', Good (af bp aJ I') w' /\Step (af σ ids I) w (af bp aJ I') w' /\VR (af bp aJ I') w'.heap x v
theorem MS{c:Array Value}{off:Nat}{vals:List Value}(fE:off+vals.length<=c.size) :
  (c.toList.take off++vals++c.toList.drop (off+vals.length)).toArray.size=c.size/\∀i,(c.toList.take off++vals++c.toList.drop (off+vals.length)).toArray[i]? = if off<=i/\i<off+vals.length then vals[i-off]? else c[i]?:=by
 refine⟨by simp;omega,λi=>?_⟩
 simp only[List.getElem?_toArray]
 by_cases h1:i<off
 ·rw[ab (by omega),iW,fw (by simp;omega),sv h1];simp
 ·by_cases h2:i<off+vals.length
  ·rw[ae ⟨by omega,h2⟩,fw (by simp;omega),gv (by simp;omega)]
   congr 1;simp;omega
  ·rw[ab (by omega),gv (by simp;omega),lH]
   simp
   congr 1;omega
section
variable{a:Act}{ρ:Operand->Value}{r:Rf->AV}{w:World}{C:Ctx}{R:Operand->Rf->Bool}{ce:CE}{σ:List ag}{nl:Nat}{ps:List aZ}
theorem ui{B:ag}{b id off:Nat}{new:List AV}{c:Array Value}{el:TypeId}{vals:List Value}(hg:Good C w) (ho:C.own b B.cells.length=some (B,id)) (hl:B.st = .live)
  (lI:∀u' B' id', C.own b u' = some (B', id')->u' = B.cells.length) (hH:w.heap[id]? = some (.cells c el (0,0))) (fE:off+new.length<=B.cells.length) (pM:vals.length=new.length)
  (hv:∀(i:Nat) q,new[i]? = some q->∃y,vals[i]? = some y/\VR C w.heap q y/\y.oneCell' = true) :
  Good {C with own:=λb' u' =>if b' = b/\u' = B.cells.length then some (⟨B.k,putAt B.cells off new,B.st⟩,id)else C.own b' u'} (w.setRow id (c.toList.take off++vals++c.toList.drop (off+vals.length)).toArray)/\
  Step C w {C with own:=λb' u' =>if b' = b/\u' = B.cells.length then some (⟨B.k,putAt B.cells off new,B.st⟩,id)else C.own b' u'} (w.setRow id (c.toList.take off++vals++c.toList.drop (off+vals.length)).toArray):=by
 have bO:owned C id:=⟨b,_,B,ho,lJ hl⟩;obtain⟨n1,c0,el0,n2,n3,n4⟩:=hg.live b _ B id ho hl;rw[hH]at n2;simp only[bJ,kH]at n2;obtain⟨rfl,rfl,_⟩:=n2;obtain⟨hs,gF⟩:=MS (c:=c) (off:=off) (vals:=vals) (by omega)
 generalize (c.toList.take off++vals++c.toList.drop (off+vals.length)).toArray=c' at *;obtain⟨pl,pg⟩:=rh B.cells new off fE;obtain⟨_,_,HH,jm⟩:=hg.kU b _ B id ho;generalize xD : ({C with own:=λb' u' =>if b' = b/\u' = B.cells.length then some (⟨B.k,putAt B.cells off new,B.st⟩,id)else C.own b' u'}:Ctx)=C'
 have j7 : ∀b' u', C'.own b' u' = if b' = b/\u' = B.cells.length then some (⟨B.k,putAt B.cells off new,B.st⟩,id)else C.own b' u' :=λb' u' =>by subst xD; rfl
 have xE : C'.I=C.I:=by subst xD; rfl
 have sC : C'.lim=C.lim:=by subst xD; rfl
 have ev:=MK (c' :=c') hg bO hH hs C' (λk h=>by rw[xE];exact h) (λb u h=>by rw[sC];exact h) (λb' u' B' i AO aY =>by
  rw[j7]at aY
  by_cases e:b' = b/\u' = B.cells.length
  ·rw[ae e]at aY
   simp at aY; obtain⟨rfl,rfl⟩:=aY;exact⟨B,by rw[e.1,e.2];exact ho,rfl,rfl⟩
  ·rw[ab e]at aY
   exact⟨B', aY, rfl,rfl⟩)
 have q9:(w.setRow id c').heap[id]? = some (.cells c' el (0,0)):=setRow_heap w id c c' el (0,0) hH;have oL:∀b' u' B' i,C'.own b' u' = some (B', i)->B'.st.lies=true->∃BE vh, C.own b' BE = some (vh, i)/\vh.st.lies=true:=by
  intro b' u' B' i aY cw;rw[j7]at aY
  by_cases e:b' = b/\u' = B.cells.length
  ·rw[ae e]at aY
   simp at aY; obtain⟨rfl,rfl⟩:=aY;exact⟨_,B,by rw[e.1];exact ho,lJ hl⟩
  ·rw[ab e]at aY
   exact⟨u', B', aY, cw⟩
 refine⟨⟨λk hk=>by rw[nH];rw[xE]at hk;exact hg.I k hk,λb' u' B' i aY =>?_,λb' u' B' i aY cw =>?_,λb1 u1 B1 i1 b2 u2 B2 i2 k1 l1 k2 l2 b8=>?_,λb' u' B' i es aY cw =>?_⟩,
  ⟨ev,by rw[nH];exact bA _,λk hk oG=>jY w id c' λe=>oG (e▸bO),λk hk=>?_,λk hk=>.inl (by rw[xE]at hk;exact hk),rfl,⟨rfl,bA _⟩,rfl⟩⟩
 ·rw[sC]
  rw[j7]at aY
  by_cases e:b' = b/\u' = B.cells.length
  ·rw[ae e]at aY
   simp at aY; obtain⟨rfl,rfl⟩:=aY;refine⟨by rw[e.1,e.2];exact(hg.kU b _ B id ho).1,by rw[e.2];exact pl.symm,λh=>?_,jm⟩
   have h0:=HH h;have:new=[]:=by
    have:new.length=0:=by rw[h0]at fE;simp at fE;simp[fE]
    exact dW this
   have hz:(putAt B.cells off new).length=0:=by rw[pl,h0];rfl
   exact dW hz
  ·rw[ab e]at aY
   exact hg.kU b' u' B' i aY
 ·rw[xE]
  rw[j7]at aY
  by_cases e:b' = b/\u' = B.cells.length
  ·rw[ae e]at aY
   simp at aY; obtain⟨rfl,rfl⟩:=aY;refine⟨n1,c', el,q9,by rw[hs];show(putAt B.cells off new).length<=_;omega,λi q hi=>?_⟩
   have dx : (putAt B.cells off new)[i]? = some q:=hi;rw[pg]at dx;rw[gF]
   by_cases eZ:off<=i/\i<off+new.length
   ·rw[ae eZ]at dx
    obtain⟨y,m1,m2,m3⟩:=hv _ q dx;exact⟨y,by rw[ae (by omega)];exact m1,VR.mono ev _ _ m2,m3⟩
   ·rw[ab eZ]at dx
    obtain⟨y,m1,m2,m3⟩:=n4 i q dx;exact⟨y,by rw[ab (by omega)];exact m1,VR.mono ev _ _ m2,m3⟩
  ·rw[ab e]at aY
   obtain⟨j1,c1,ML,j2,j3,j4⟩:=hg.live b' u' B' i aY cw
   by_cases hi:i=id
   ·subst hi
    have sA:b' = b:=Decidable.byContradiction λh=>hg.apart b' u' B' i b _ B i aY (lJ cw) ho (lJ hl) h rfl;subst sA;exact absurd ⟨rfl,lI u' B' i aY⟩ e
   ·refine⟨j1,c1,ML,by rw[jY w id c' hi];exact j2,j3,λi' q hq=>?_⟩
    obtain⟨y,m1,m2,m3⟩:=j4 i' q hq;exact⟨y,m1,VR.mono ev _ _ m2,m3⟩
 ·obtain⟨_,_,q1,q2⟩:=oL b1 u1 B1 i1 k1 l1
  obtain⟨_,_,q3,q4⟩:=oL b2 u2 B2 i2 k2 l2;exact hg.apart _ _ _ _ _ _ _ _ q1 q2 q3 q4 b8
 ·rw[j7]at aY
  by_cases e:b' = b/\u' = B.cells.length
  ·rw[ae e]at aY
   simp at aY; obtain⟨rfl,rfl⟩:=aY;rw[show(⟨B.k,putAt B.cells off new,B.st⟩:ag).st=B.st from rfl,hl]at cw;simp at cw
  ·rw[ab e]at aY
   have hi:i ≠ id:=λhi=>by
    subst hi;have sA:b' = b:=Decidable.byContradiction λh=>hg.apart b' u' B' i b _ B i aY (lE cw) ho (lJ hl) h rfl;subst sA;exact e ⟨rfl,lI u' B' i aY⟩
   exact hg.da ev aY cw (jY w id c' hi) (by rw[xE];exact(hg.maps b' u' B' i es aY cw).1)
 ·obtain⟨b', u', B', aY, cw⟩:=hk
  obtain⟨BE, vh, q1,q2⟩:=oL b' u' B' k aY cw;exact .inl ⟨b', BE, vh, q1,q2⟩
theorem MT{B:ag}{b id:Nat}{es v7 : List (AV×AV)}{l l' : Array MapEntry}{clock clock' : Nat}(hg:Good C w) (ho:C.own b 0=some (B,id)) (hl:B.st = .map es)
  (lI:∀u' B' id', C.own b u' = some (B', id')->u' = 0) (hH:w.heap[id]? = some (.map l clock)) (hm:MR C w.heap v7 l'.toList) :
  Good {C with own:=λb' u' =>if b' = b/\u' = 0 then some (⟨B.k,B.cells,.map v7⟩,id)else C.own b' u'} {w with heap:=w.heap.setIfInBounds id (.map l' clock')}/\
  Step C w {C with own:=λb' u' =>if b' = b/\u' = 0 then some (⟨B.k,B.cells,.map v7⟩,id)else C.own b' u'} {w with heap:=w.heap.setIfInBounds id (.map l' clock')}:=by
 have bO:owned C id:=⟨b,_,B,ho,lE hl⟩;obtain⟨n1,_⟩:=hg.maps b _ B id es ho hl;obtain⟨nE,yt⟩:=Go.MapKept.heap_set (o' :=.map l' clock') hH;have mj:(w.heap.setIfInBounds id (.map l' clock')).size=w.heap.size:=by simp
 generalize w.heap.setIfInBounds id (.map l' clock')=H' at *;obtain⟨e1,e2,_,_⟩:=hg.kU b _ B id ho;generalize xD : ({C with own:=λb' u' =>if b' = b/\u' = 0 then some (⟨B.k,B.cells,.map v7⟩,id)else C.own b' u'}:Ctx)=C'
 have j7 : ∀b' u', C'.own b' u' = if b' = b/\u' = 0 then some (⟨B.k,B.cells,.map v7⟩,id)else C.own b' u' :=λb' u' =>by subst xD; rfl
 have xE : C'.I=C.I:=by subst xD; rfl
 have sC : C'.lim=C.lim:=by subst xD; rfl
 have du:∀k,C.I k->H'[k]? = w.heap[k]?:=λk hk=>yt k λe=>n1 (e▸hk);have ev:fR C w.heap C' H' :=by
  refine⟨λk h=>by rw[xE];exact h,du,λb u h=>by rw[sC];exact h,λb' u' B' i AO aY =>?_⟩
  rw[j7]at aY
  by_cases e:b' = b/\u' = 0
  ·rw[ae e]at aY
   simp at aY; obtain⟨rfl,rfl⟩:=aY;refine⟨B,by rw[e.1,e.2];exact ho,by rw[hl];rfl,rfl,λc el hc=>?_⟩
   rw[hH]at hc;simp at hc
  ·rw[ab e]at aY
   refine⟨B', aY, rfl,rfl,λc el hc=>⟨c,?_,rfl⟩⟩;have hi:i ≠ id:=λhi=>by subst hi;rw[hH]at hc;simp at hc
   rw[yt i hi];exact hc
 have oL:∀b' u' B' i,C'.own b' u' = some (B', i)->B'.st.lies=true->∃BE vh, C.own b' BE = some (vh, i)/\vh.st.lies=true:=by
  intro b' u' B' i aY cw;rw[j7]at aY
  by_cases e:b' = b/\u' = 0
  ·rw[ae e]at aY
   simp at aY; obtain⟨rfl,rfl⟩:=aY;exact⟨_,B,by rw[e.1];exact ho,lE hl⟩
  ·rw[ab e]at aY
   exact⟨u', B', aY, cw⟩
 refine⟨⟨λk hk=>by show k<H'.size;rw[mj];rw[xE]at hk;exact hg.I k hk,λb' u' B' i aY =>?_,λb' u' B' i aY cw =>?_,λb1 u1 B1 i1 b2 u2 B2 i2 k1 l1 k2 l2 b8=>?_,λb' u' B' i es1 aY cw =>?_⟩,
  ⟨ev,by show w.heap.size<=H'.size;rw[mj];exact bA _,λk hk oG=>yt k λe=>oG (e▸bO),λk hk=>?_,λk hk=>.inl (by rw[xE]at hk;exact hk),rfl,⟨rfl,bA _⟩,rfl⟩⟩
 ·rw[sC]
  rw[j7]at aY
  by_cases e:b' = b/\u' = 0
  ·rw[ae e]at aY
   simp at aY; obtain⟨rfl,rfl⟩:=aY;exact⟨by rw[e.1,e.2];exact e1,by rw[e.2];exact e2,λh=>by simp at h,by simp⟩
  ·rw[ab e]at aY
   exact hg.kU b' u' B' i aY
 ·rw[xE]
  rw[j7]at aY
  by_cases e:b' = b/\u' = 0
  ·rw[ae e]at aY
   simp at aY; obtain⟨rfl,rfl⟩:=aY;simp at cw
  ·rw[ab e]at aY
   obtain⟨j1,c1,ML,j2,j3,j4⟩:=hg.live b' u' B' i aY cw;have hi:i ≠ id:=λhi=>by subst hi;rw[hH]at j2;simp at j2
   refine⟨j1,c1,ML,by show H'[i]? = _;rw[yt i hi];exact j2,j3,λi' q hq=>?_⟩
   obtain⟨y,m1,m2,m3⟩:=j4 i' q hq;exact⟨y,m1,VR.mono ev _ _ m2,m3⟩
 ·obtain⟨_,_,q1,q2⟩:=oL b1 u1 B1 i1 k1 l1
  obtain⟨_,_,q3,q4⟩:=oL b2 u2 B2 i2 k2 l2;exact hg.apart _ _ _ _ _ _ _ _ q1 q2 q3 q4 b8
 ·rw[j7]at aY
  by_cases e:b' = b/\u' = 0
  ·rw[ae e]at aY
   simp at aY; obtain⟨rfl,rfl⟩:=aY;simp at cw; subst cw;exact⟨by rw[xE];exact n1,l', clock', nE,hm.mono ev⟩
  ·rw[ab e]at aY
   have hi:i ≠ id:=λhi=>by
    subst hi;have sA:b' = b:=Decidable.byContradiction λh=>hg.apart b' u' B' i b _ B i aY (lE cw) ho (lE hl) h rfl;subst sA;exact e ⟨rfl,lI u' B' i aY⟩
   exact hg.da (w' :={w with heap:=H'}) ev aY cw (yt i hi) (by rw[xE];exact(hg.maps b' u' B' i es1 aY cw).1)
 ·obtain⟨b', u', B', aY, cw⟩:=hk
  obtain⟨BE, vh, q1,q2⟩:=oL b' u' B' k aY cw;exact .inl ⟨b', BE, vh, q1,q2⟩
theorem mD{ids:Nat->Nat}{I:Nat->Prop}{b u:Nat}{B:ag}(h:al σ b=some B):∀u' B' id', (af σ ids I).own b u' = some (B', id')->u' = B.cells.length:=λu' B' id' h' =>by
 simp only[af,h]at h';cases hs:B.st<;>simp only[hs]at h' <;>first
  |(split at h' <;>simp_all)
  |simp at h'
theorem rj{b u:Nat}{B:ag}(h:upto σ b u=some B):al σ b=some B/\B.cells.length=u/\B.st ≠ .dead:=by
 unfold upto at h;cases hb:al σ b with
 |none=>simp[hb]at h
 |some B' =>
  simp only[hb]at h;cases hs:B'.st<;>simp only[hs]at h<;>first
   |(simp at h;done)
   |(by_cases hu:B'.cells.length=u
     ·simp[hu]at h;subst h;exact⟨rfl,hu,by rw[hs];simp⟩
     ·simp[hu]at h)
theorem yu{b b' : Nat}{B:ag}(h:b<σ.length):al (az σ b B) b' = if b' = b then some B else al σ b' :=by
 rw[dp,Yu,dp,List.getElem?_set]
 by_cases e:b' = b
 ·subst e;simp[h]
 ·rw[ab (λh' =>e h'.symm),ab e]
theorem oM{ids:Nat->Nat}{I:Nat->Prop}{b:Nat}{B B' : ag}{id' : Nat}(hb:al σ b=some B) (jm:B'.st ≠ .dead):∀b1 u1 e,(af (az σ b B') (λq=>if q=b then id' else ids q) I).own b1 u1=some e->
  (if b1=b/\u1=B'.cells.length then some (B', id')else(af σ ids I).own b1 u1)=some e:=λb1 u1 e h=>by
 have aK:b<σ.length:=by rw[dp]at hb;exact(cV.1 hb).1
 simp only[af,yu aK]at h ⊢
 by_cases e1:b1=b
 ·subst e1
  simp only[dA]at h;cases hs:B'.st with
  |dead=>exact absurd hs jm
  |jP=>
   by_cases hu:B'.cells.length=u1
   ·simp only[hu,dA]at h
    rw[ae ⟨rfl,hu.symm⟩];exact h
   ·simp[hu]at h
  |live=>
   by_cases hu:B'.cells.length=u1
   ·simp only[hu,dA]at h
    rw[ae ⟨rfl,hu.symm⟩];exact h
   ·simp[hu]at h
  |map es=>
   by_cases hu:B'.cells.length=u1
   ·simp only[hu,dA]at h
    rw[ae ⟨rfl,hu.symm⟩];exact h
   ·simp[hu]at h
 ·rw[ab (λh' =>e1 h'.1)]
  simp only[ab e1]at h;exact h
theorem oN{ids aJ : Nat->Nat}{I:Nat->Prop}{b:Nat}{B B' : ag}(hb:al σ b=some B) (hle:B.cells.length<=B'.cells.length):∀b1 u1,(af σ ids I).lim b1 u1->(af (az σ b B') aJ I).lim b1 u1:=λb1 u1 ⟨B1,h1,h2⟩=>by
 have aK:b<σ.length:=by rw[dp]at hb;exact(cV.1 hb).1
 simp only[af,yu aK]
 by_cases e1:b1=b
 ·subst e1
  rw[hb]at h1;simp at h1;subst h1;exact⟨B', by simp,by omega⟩
 ·exact⟨B1,by rw[ab e1];exact h1,h2⟩
theorem MU{ids:Nat->Nat}{I:Nat->Prop}{o:Oper}{t:TypeId}{p x:Operand}{p' x' : Rf}{n:Nat}{z:AV}{bp : List ag}(ho:o.op = .store t p x) (hn:b5 P t n=true) (hg:Good (af σ ids I) w)
  (hp:VR (af σ ids I) w.heap (r p') (a.eval p)) (hx:VR (af σ ids I) w.heap (r x') (a.eval x)) (he:fF ce σ r (.st p' x' n)=some (z,bp)):bF P o a w (iX σ ids I w z bp):=by
 simp only[fF]at he;cases WN : r p' <;>simp only[WN]at he<;>try(simp at he;done)
 rename_i b u off;cases hu:upto σ b u with
 |none=>simp[hu]at he
 |some B=>
  simp only[hu]at he;split at he
  case isFalse=>simp at he
  rename_i hc;simp only[aD,cP,eR]at hc;obtain⟨⟨⟨c1,c2⟩,c3⟩,c4⟩:=hc;simp only[bJ,Prod.mk.injEq]at he;obtain⟨rfl,rfl⟩:=he;obtain⟨hb,oJ,jm⟩:=rj hu;have hs:B.st = .live:=by revert c3;cases B.st<;>simp[eo.isLive]
  have bO:=lF ids I hu;subst oJ;rw[WN]at hp;unfold VR at hp;have e:=hp.2.2 B _ bO hs;obtain⟨_,c,el,hH,hle,j8⟩:=hg.live b _ B _ bO hs;have v8:=Bx c4;have mj:=VR.size v8 hx;have hv:=Hx v8 hx;obtain⟨g1,g2⟩:=ui (vals:=(a.eval x).cells.toList) (new:=(r x').cells) (off:=off) hg bO hs (mD (u:=0) hb) hH (by omega) (by simpa using mj) (λi q hi=>by
   obtain⟨y,k1,k2,k3⟩:=hv i q hi;exact⟨y,by rw[iV];exact k1,k2,k3⟩)
  obtain⟨pl,_⟩:=rh B.cells (r x').cells off (by omega)
  have eS:=oM (ids:=ids) (I:=I) (id' :=ids b) (B' :=⟨B.k,putAt B.cells off (r x').cells,B.st⟩) hb jm;have j9:(λq=>if q=b then ids b else ids q)=ids:=by funext q;split<;>simp_all
  rw[j9]at eS;obtain⟨f1,f2⟩:=Good.shrink (C2:=af (az σ b ⟨B.k,putAt B.cells off (r x').cells,B.st⟩) ids I) g1 rfl (λb1 u1 e1 h1=>by
   have:=eS b1 u1 e1 h1;simp only[pl]at this;exact this) (λb1 u1 h1=>oN (ids:=ids) (I:=I) hb (by show _<=(putAt B.cells off (r x').cells).length;omega) b1 u1 h1)
  have kI:∀v∈(a.eval x).cells.toList,v.oneCell' = true:=(VR.cells v8 hx).2;have fg:=run_storeCells_at P (ids b) off el (a.eval x).cells.toList 0 c w hH (by simp;omega) kI
  refine bF.skip (w' :=w.setRow (ids b) (c.toList.take off++(a.eval x).cells.toList++c.toList.drop (off+(a.eval x).cells.toList.length)).toArray) ?_ ⟨ids,I,f1,g2.trans f2,by unfold VR;trivial⟩
  have Ge:=iT hn w;simp only[execOp,ho,Instr.storeAt,e,Instr.sureAddr,storeVar,aL,bh,aS,Ge];rw[ab (by rw[mj,c1];simp)]
  simp only[Nat.add_zero]at fg;rw[fg]
  rfl
theorem MV{ids:Nat->Nat}{I:Nat->Prop}{o:Oper}{t kt e:TypeId}{m k x:Operand}{m' k' x' : Rf}{kd:Nat}{z:AV}{bp : List ag}(ho:o.op = .mapUpdate t m k x\/o.op = .insert t m k x) (ht:P.underlying t=some (.map kt e)) (hk:dH P kt kd=true) (hg:Good (af σ ids I) w)
  (yw:VR (af σ ids I) w.heap (r m') (a.eval m)) (sD:VR (af σ ids I) w.heap (r k') (a.eval k)) (hx:VR (af σ ids I) w.heap (r x') (a.eval x)) (he:fF ce σ r (.vl m' kd k' x')=some (z,bp)):bF P o a w (iX σ ids I w z bp):=by
 simp only[fF]at he;cases nM : r m' <;>simp only[nM]at he<;>try(simp at he;done)
 rename_i b;rw[nM]at yw;cases hm:fb σ b with
 |none=>simp[hm]at he
 |some es=>
  simp only[hm]at he;split at he
  case isFalse=>simp at he
  rename_i hf;simp only[aD]at hf;cases hq:cL es (r k')with
  |none=>simp[hq]at he
  |some q=>
   cases q with
   |some _=>simp[hq]at he
   |none=>
    simp only[hq,bJ,Prod.mk.injEq]at he;obtain⟨rfl,rfl⟩:=he;obtain⟨id,l,c,e1,hH,hM,B,hB,hs⟩:=BH hg (λb u B _ hu=>⟨_,sF ids I hu⟩) hm yw;obtain⟨q', h1,h2⟩:=HJ hk hf.1 sD w hM hq;cases q' with
    |some _=>exact h2.elim
    |none=>
     have hc:=HK hk hf.1 sD w false;obtain⟨hb,rfl⟩:=yx hB;have Yv:=mD (ids:=ids) (I:=I) (u:=0) hb 0 B _ hB;have MW : MR (af σ ids I) w.heap (es ++ [(r k', r x')]) (l.push {key:=a.eval k,val:=a.eval x,born:=c}).toList:=by
      rw[Array.toList_push];exact hM.push (MX hf.1) sD hx
     obtain⟨g1,g2⟩:=MT (l' :=l.push {key:=a.eval k,val:=a.eval x,born:=c}) (clock' :=c+1) hg hB hs (λu' B' id' h=>by
      have:=mD (ids:=ids) (I:=I) (u:=0) hb u' B' id' h;omega) hH MW
     have eS:=oM (ids:=ids) (I:=I) (id' :=ids b) (B' :=⟨B.k,B.cells,.map (es ++ [(r k', r x')])⟩) hb (by simp)
     have j9:(λq=>if q=b then ids b else ids q)=ids:=by funext q;split<;>simp_all
     rw[j9]at eS;have jn:oO σ b (es ++ [(r k', r x')])=az σ b ⟨B.k,B.cells,.map (es ++ [(r k', r x')])⟩:=by simp only[oO,hb]
     rw[jn];obtain⟨f1,f2⟩:=Good.shrink (C2:=af (az σ b ⟨B.k,B.cells,.map (es ++ [(r k', r x')])⟩) ids I) g1 rfl (λb1 u1 e1 h1=>by
      have:=eS b1 u1 e1 h1;simp only[<-Yv]at this;exact this) (λb1 u1 h1=>oN (ids:=ids) (I:=I) hb (by show _<=B.cells.length;omega) b1 u1 h1)
     refine bF.skip (w' :={w with heap:=w.heap.setIfInBounds (ids b) (.map (l.push {key:=a.eval k,val:=a.eval x,born:=c}) (c+1))}) ?_ ⟨ids,I,f1,g2.trans f2,by unfold VR;trivial⟩
     have cG:(Instr.mapUpdate t (a.eval m) (a.eval k) (a.eval x)).run P w = .ok () {w with heap:=w.heap.setIfInBounds (ids b) (.map (l.push {key:=a.eval k,val:=a.eval x,born:=c}) (c+1))}:=by
      rw[e1];simp only[Instr.mapUpdate,aL,run_underlying ht,aS,wa hH,hc,h1,Go.MapKept.run_setObj_map _ hH]
     rcases ho with ho|ho
     ·simp only[execOp,ho,aL,cG,aS,bh]
     ·simp only[execOp,ho,aL,cG,aS,bh]
theorem MY{ids:Nat->Nat}{I:Nat->Prop}{b:Nat}{es v7 : List (AV×AV)}{B:ag}{l l' : Array MapEntry}{c c' : Nat}(hg:Good (af σ ids I) w) (hb:al σ b=some B) (hB:(af σ ids I).own b 0=some (B,ids b)) (hs:B.st = .map es)
  (hH:w.heap[ids b]? = some (.map l c)) (hM:MR (af σ ids I) w.heap v7 l'.toList) :
  Good (af (oO σ b v7) ids I) {w with heap:=w.heap.setIfInBounds (ids b) (.map l' c')}/\Step (af σ ids I) w (af (oO σ b v7) ids I) {w with heap:=w.heap.setIfInBounds (ids b) (.map l' c')}:=by
 have Yv:=mD (ids:=ids) (I:=I) (u:=0) hb 0 B _ hB;obtain⟨g1,g2⟩:=MT (l' :=l') (clock' :=c') hg hB hs (λu' B' id' h=>by
  have:=mD (ids:=ids) (I:=I) (u:=0) hb u' B' id' h;omega) hH hM
 have eS:=oM (ids:=ids) (I:=I) (id' :=ids b) (B' :=⟨B.k,B.cells,.map v7⟩) hb (by simp)
 have j9:(λq=>if q=b then ids b else ids q)=ids:=by funext q;split<;>simp_all
 rw[j9]at eS;have jn:oO σ b v7 = az σ b ⟨B.k,B.cells,.map v7⟩:=by simp only[oO,hb]
 rw[jn];obtain⟨f1,f2⟩:=Good.shrink (C2:=af (az σ b ⟨B.k,B.cells,.map v7⟩) ids I) g1 rfl (λb1 u1 e1 h1=>by
  have:=eS b1 u1 e1 h1;simp only[<-Yv]at this;exact this) (λb1 u1 h1=>oN (ids:=ids) (I:=I) hb (by show _<=B.cells.length;omega) b1 u1 h1)
 exact⟨f1,g2.trans f2⟩
theorem MZ{ids:Nat->Nat}{I:Nat->Prop}{o:Oper}{t kt e:TypeId}{m k x:Operand}{m' k' x' : Rf}{kd:Nat}{z:AV}{bp : List ag}(ho:o.op = .mapUpdate t m k x\/o.op = .insert t m k x) (ht:P.underlying t=some (.map kt e)) (hk:dH P kt kd=true) (oq:kd<2) (hg:Good (af σ ids I) w)
  (yw:VR (af σ ids I) w.heap (r m') (a.eval m)) (sD:VR (af σ ids I) w.heap (r k') (a.eval k)) (hx:VR (af σ ids I) w.heap (r x') (a.eval x)) (he:fF ce σ r (.xF m' kd k' x')=some (z,bp)):bF P o a w (iX σ ids I w z bp):=by
 simp only[fF]at he;cases nM : r m' <;>simp only[nM]at he<;>try(simp at he;done)
 rename_i b;rw[nM]at yw;cases hm:fb σ b with
 |none=>simp[hm]at he
 |some es=>
  simp only[hm]at he;split at he
  case isFalse=>simp at he
  rename_i hf;simp only[aD]at hf;have hc:=HK hk hf.1 sD w false;obtain⟨id,l,c,e1,hH,hM,B,hB,hs⟩:=BH hg (λb u B _ hu=>⟨_,sF ids I hu⟩) hm yw;obtain⟨hb,rfl⟩:=yx hB;have fin:∀{w'},(Instr.mapUpdate t (a.eval m) (a.eval k) (a.eval x)).run P w = .ok () w' ->iX σ ids I w .aM bp undef w' ->bF P o a w (iX σ ids I w .aM bp):=λcG hp=>by
   refine bF.skip ?_ hp;rcases ho with ho|ho
   ·simp only[execOp,ho,aL,cG,aS,bh]
   ·simp only[execOp,ho,aL,cG,aS,bh]
  cases hq:cL es (r k')with
  |none=>simp[hq]at he
  |some q=>
   cases q with
   |none=>
    simp only[hq,bJ,Prod.mk.injEq]at he;obtain⟨rfl,rfl⟩:=he;obtain⟨q', h1,h2⟩:=HJ hk hf.1 sD w hM hq;cases q' with
    |some _=>exact h2.elim
    |none=>
     have MW : MR (af σ ids I) w.heap (es ++ [(r k', r x')]) (l.push {key:=a.eval k,val:=a.eval x,born:=c}).toList:=by
      rw[Array.toList_push];exact hM.push (MX hf.1) sD hx
     obtain⟨f1,f2⟩:=MY (c' :=c+1) hg hb hB hs hH MW;refine fin (w' :={w with heap:=w.heap.setIfInBounds (ids b) (.map (l.push {key:=a.eval k,val:=a.eval x,born:=c}) (c+1))}) ?_ ⟨ids,I,f1,f2,by unfold VR;trivial⟩
     rw[e1];simp only[Instr.mapUpdate,aL,run_underlying ht,aS,wa hH,hc,h1,Go.MapKept.run_setObj_map _ hH]
   |some y=>
    simp only[hq,bJ,Prod.mk.injEq]at he;obtain⟨rfl,rfl⟩:=he;obtain⟨j,en,h1,h2,h3,h4⟩:=Yw hk oq hf.1 sD hx w hM hq;have MW : MR (af σ ids I) w.heap (iY es (r k') (r x')) (l.modify j λe=>{e with key:=a.eval k,val:=a.eval x}).toList:=by
     have:(l.modify j λe=>{e with key:=a.eval k,val:=a.eval x}).toList=l.toList.set j {en with key:=a.eval k,val:=a.eval x}:=by
      rw[Array.toList_modify];apply List.ext_getElem?;intro i;rw[List.getElem?_modify,List.getElem?_set]
      by_cases hi:j=i
      ·subst hi
       have aK:=(cV.1 h2).1;simp only[dA,h2,lK,ae aK]
       rfl
      ·simp only[ab hi]
       cases l.toList[i]?<;>rfl
     rw[this];exact h4
    obtain⟨f1,f2⟩:=MY (c' :=c) hg hb hB hs hH MW;refine fin (w' :={w with heap:=w.heap.setIfInBounds (ids b) (.map (l.modify j λe=>{e with key:=a.eval k,val:=a.eval x}) c)}) ?_ ⟨ids,I,f1,f2,by unfold VR;trivial⟩
    have hj:l[j]? = some en:=by rw[<-Array.getElem?_toList];exact h2
    have bV:(Instr.keyThatStays (((l[j]?).map (·.key)).getD (a.eval k)) (a.eval k)).run P w = .ok (a.eval k) w:=by
     rw[hj];simp only[lK,Option.getD_some,h3];exact Yx hk oq hf.1 sD w
    rw[e1];simp only[Instr.mapUpdate,aL,run_underlying ht,aS,wa hH,hc,h1,bV,Go.MapKept.run_setObj_map _ hH]
end
end Ab
set_option linter.all false
namespace Ab
open Go
variable{P:Program}
section
variable{a:Act}{ρ:Operand->Value}{r:Rf->AV}{w:World}{C:Ctx}{R:Operand->Rf->Bool}{ce:CE}{σ:List ag}{nl:Nat}{ps:List aZ}
theorem M0{B:ag}{b:Nat}:al (σ ++ [B]) b=if b=σ.length then some B else al σ b:=by
 rw[dp,dp]
 by_cases e:b=σ.length
 ·subst e;simp
 ·rw[ab e]
  by_cases h:b<σ.length
  ·rw[fw h]
  ·rw[gv (by omega),jH (by simp;omega),jH (by omega)]
theorem BI{ids:Nat->Nat}{I:Nat->Prop}{B:ag}{id:Nat}(jm:B.st ≠ .dead):∀b u e,(af (σ ++ [B]) (λq=>if q=σ.length then id else ids q) I).own b u=some e->(ar (af σ ids I) σ.length B.cells.length (B,id)).own b u=some e:=λb u e h=>by
 simp only[af,ar,M0]at h ⊢
 by_cases e1:b=σ.length
 ·simp only[e1,dA]at h
  cases hs:B.st with
  |dead=>exact absurd hs jm
  |jP=>
   by_cases hu:B.cells.length=u
   ·simp only[hu,dA]at h
    rw[ae ⟨e1,hu.symm⟩];exact h
   ·simp[hu]at h
  |live=>
   by_cases hu:B.cells.length=u
   ·simp only[hu,dA]at h
    rw[ae ⟨e1,hu.symm⟩];exact h
   ·simp[hu]at h
  |map es=>
   by_cases hu:B.cells.length=u
   ·simp only[hu,dA]at h
    rw[ae ⟨e1,hu.symm⟩];exact h
   ·simp[hu]at h
 ·rw[ab (λh' =>e1 h'.1)]
  simp only[ab e1]at h;exact h
theorem BJ{ids aJ : Nat->Nat}{I:Nat->Prop}{B:ag}{id:Nat}:∀b u,(ar (af σ ids I) σ.length B.cells.length (B,id)).lim b u->(af (σ ++ [B]) aJ I).lim b u:=λb u h=>by
 simp only[af,ar,M0]at h ⊢;rcases h with⟨rfl,rfl⟩|⟨B1,h1,h2⟩
 ·exact⟨B,by simp,bA _⟩
 ·have:b ≠ σ.length:=λe=>by
   rw[dp,jH (by omega)]at h1;simp at h1
  exact⟨B1,by rw[ab this];exact h1,h2⟩
theorem wb{ids:Nat->Nat}{I:Nat->Prop}:∀u,¬(af σ ids I).lim σ.length u:=λu ⟨B1,h1,_⟩=>by
 rw[dp,jH (by omega)]at h1;simp at h1
theorem Yy{ids:Nat->Nat}{I:Nat->Prop}{o:Oper}{ca:Call}{s x:Operand}{t t' e:TypeId}{s' x' : Rf}{k:Option Nat}{z:AV}{bp : List ag}(ho:o.op = .call ca) (hc:ca.callee = .builtin .append) (ha:ca.args.toList=[s,x]) (eY:ca.argTypes.toList=[t,t'])
  (ht:aF P t=some e) (jf : (aF P t').isSome=true) (hk:bt P e k=true) (ml:fD P e=true) (hz:cX P e=true) (hg:Good (af σ ids I) w)
  (hs:VR (af σ ids I) w.heap (r s') (a.eval s)) (hx:VR (af σ ids I) w.heap (r x') (a.eval x)) (he:fF ce σ r (.df s' x' k)=some (z,bp)):bF P o a w (iX σ ids I w z bp):=by
 have db:∀b u B,(af σ ids I).lim b u->upto σ b u=some B->∃id,(af σ ids I).own b u=some (B,id):=λb u B _ h=>⟨_,lF ids I h⟩
 -- a new block at the Yz end
 have HL:∀(B:ag) (x1:AV) v w' id', B.st = .live->Good (ar (af σ ids I) σ.length B.cells.length (B,id')) w' ->Step (af σ ids I) w (ar (af σ ids I) σ.length B.cells.length (B,id')) w' ->
   VR (ar (af σ ids I) σ.length B.cells.length (B,id')) w'.heap x1 v->iX σ ids I w x1 (σ ++ [B]) v w' :=λB x1 v w' id' bV h2 h3 h4=>by
  obtain⟨f1,f2⟩:=Good.shrink (C2:=af (σ ++ [B]) (λq=>if q=σ.length then id' else ids q) I) h2 rfl (BI (by rw[bV];simp)) BJ
  exact⟨_,I,f1,h3.trans f2,VR.mono f2.ev _ _ h4⟩
 simp only[fF]at he;cases et:aG σ k (r x')with
 |none=>simp[et]at he
 |some MQ=>
  obtain⟨n,cs⟩:=MQ;simp only[et]at he;cases gV : r s' <;>simp only[gV]at he<;>try(simp at he;done)
  ·rw[gV]at hs
   have hv:a.eval s = .slice none 0 0:=hs
   by_cases hn:n=0
   ·subst hn
    simp at he;obtain⟨rfl,rfl⟩:=he;exact jZ ho hc ha eY (sB ht jf hk hg db et hx ⟨none,0,0,hv,bA 0⟩) ⟨ids,I,hg,Step.refl _ _,by rw[hv];exact rfl⟩
   ·have lA : (n==0)=false:=by simpa using hn
    simp only[lA, eu,ew]at he;split at he
    case isFalse=>simp at he
    rename_i fS;simp only[bJ,Prod.mk.injEq]at he;obtain⟨rfl,rfl⟩:=he;obtain⟨v,w', id', h1,h2,h3,h4⟩:=re (P:=P) (σ:=σ) (cells:=[]) (k0:=k) (b:=σ.length) (len:=0) (cap:=0) (base:=none) (olds:=[]) (ty:=o.type) ht jf hk ml hz hg db et hx (wb _) rfl (by simp) rfl (λw1 _=>by simp[Builtin.firstCells]) (by simp) (by omega) (by omega)
    rw[<-hv]at h1;simp only[rf,jj]at h2 h3 h4;exact jZ ho hc ha eY h1 (HL ⟨k,cs,.live⟩ _ _ _ id' rfl h2 h3 h4)
  ·rw[gV]at hs
   have oI:=hs;unfold VR at hs;obtain⟨a0,hv⟩:=hs
   by_cases hn:n=0
   ·subst hn
    simp at he;obtain⟨rfl,rfl⟩:=he;exact jZ ho hc ha eY (sB ht jf hk hg db et hx ⟨_,_,_,hv,bA 0⟩) ⟨ids,I,hg,Step.refl _ _,oI⟩
   ·have lA : (n==0)=false:=by simpa using hn
    simp only[lA, eu,ew]at he;split at he
    case isFalse=>simp at he
    rename_i fS;simp only[bJ,Prod.mk.injEq]at he;obtain⟨rfl,rfl⟩:=he;obtain⟨olds,_,k1,k2,k3,k4⟩:=q7 (P:=P) (σ:=σ) (k:=k) (X:=.emp) (v:=a.eval s) (n:=0) (cs:=[]) (by simp[aG]) hg db oI
    rw[hv]at k1;obtain⟨v,w', id', h1,h2,h3,h4⟩:=re (P:=P) (σ:=σ) (cells:=[]) (k0:=k) (b:=σ.length) (len:=0) (cap:=0) (base:=a0) (olds:=olds) (ty:=o.type) ht jf hk ml hz hg db et hx (wb _) rfl k2 k3 k1 k4 (by omega) (by omega)
    rw[<-hv]at h1;simp only[rf,jj]at h2 h3 h4;exact jZ ho hc ha eY h1 (HL ⟨k,cs,.live⟩ _ _ _ id' rfl h2 h3 h4)
  ·rename_i l
   rw[gV]at hs;have oI:=hs;unfold VR at hs;obtain⟨YA, off,st,c,el,fz,hv,hI,hH,hl⟩:=hs
   by_cases hn:n=0
   ·subst hn
    simp at he;obtain⟨rfl,rfl⟩:=he;refine jZ ho hc ha eY (sB ht jf hk hg db et hx ⟨_,_,_,hv,bA _⟩) ⟨ids,I,hg,Step.refl _ _,?_⟩;split
    ·rename_i ss
     unfold VR;exact⟨ss,.inr ⟨YA, off,l.length,st,c,el,fz,hv,bA _,hI,hH,hl⟩⟩
    ·exact oI
   ·have lA : (n==0)=false:=by simpa using hn
    simp only[lA, eu,ew]at he;split at he
    case isFalse=>simp at he
    rename_i fo;simp only[aD,eR]at fo;simp only[bJ,Prod.mk.injEq]at he;obtain⟨rfl,rfl⟩:=he;obtain⟨olds,_,k1,k2,k3,k4⟩:=q7 (P:=P) (σ:=σ) (k:=k) (X:=.arr l) (v:=a.eval s) (n:=l.length) (cs:=l.flatMap AV.cells) (by simp only[aG,fo.1,dA]) hg db oI
    rw[hv]at k1;obtain⟨v,w', id', h1,h2,h3,h4⟩:=re (P:=P) (σ:=σ) (cells:=l.flatMap AV.cells) (k0:=k) (b:=σ.length) (olds:=olds) (ty:=o.type) ht jf hk ml hz hg db et hx (wb _) rfl k2 k3 k1 k4 (by omega) fo.2
    rw[<-hv]at h1;exact jZ ho hc ha eY h1 (HL ⟨k,l.flatMap AV.cells++cs,.live⟩ _ _ _ id' rfl h2 h3 h4)
  ·rename_i b u off len
   cases hu:upto σ b u with
   |none=>simp[hu]at he
   |some B=>
    simp only[hu]at he;split at he
    case isFalse=>simp at he
    rename_i fo;simp only[aD,cP,eR]at fo;obtain⟨⟨rfl,fS⟩,vj⟩:=fo;have vj:=BG vj;obtain⟨hb,oJ,jm⟩:=rj hu;have bO:=lF ids I hu;subst oJ;rw[gV]at hs
    by_cases hn:n=0
    ·subst hn
     simp at he;obtain⟨rfl,rfl⟩:=he;have vk:∃a' l' c', a.eval s = .slice a' l' c' /\l' <=c' :=by
      unfold VR at hs;obtain⟨⟨q,c,e1,e2,_⟩,_⟩:=hs;exact⟨_,_,_,e1,e2⟩
     exact jZ ho hc ha eY (sB ht jf hk hg db et hx vk) ⟨ids,I,hg,Step.refl _ _,hs⟩
    ·have lA : (n==0)=false:=by simpa using hn
     simp only[lA, eu,ew]at he;split at he
     case isTrue=>simp at he
     rename_i jO;simp at jO;have aps : 0<cs.length:=mC.2 jO;split at he
     ·rename_i oJ
      simp only[cP]at oJ;simp only[bJ,Prod.mk.injEq]at he;obtain⟨rfl,rfl⟩:=he;obtain⟨v,w', id', h1,h2,h3,h4⟩:=MN (P:=P) (σ:=σ) (ty:=o.type) ht jf hk ml hz hg db et hx bO oJ (by rw[vj]) hs (by omega) fS (vY hu) (λ⟨B1,q1,q2⟩=>by rw[hb]at q1;simp at q1;subst q1;simp at q2;omega) (mD (u:=0) hb)
      have eS:=oM (ids:=ids) (I:=I) (id' :=id') (B' :=⟨B.k,B.cells++cs,.live⟩) hb (by simp)
      obtain⟨f1,f2⟩:=Good.shrink (C2:=af (az σ b ⟨B.k,B.cells++cs,.live⟩) (λq=>if q=b then id' else ids q) I) h2 rfl (λb1 u1 e1 h1=>eS b1 u1 e1 h1) (λb1 u1 h1=>by
       rcases h1 with⟨e1,e2⟩|h1
       ·have aK:b<σ.length:=by rw[dp]at hb;exact(cV.1 hb).1
        exact⟨⟨B.k,B.cells++cs,.live⟩,by rw[yu aK,ae e1],by rw[e2];exact bA _⟩
       ·exact oN (ids:=ids) (I:=I) hb (by show _<=(B.cells++cs).length;simp) b1 u1 h1)
      have e1:B.cells.length+cs.length=(B.cells++cs).length:=by simp
      rw[e1];exact jZ ho hc ha eY h1 ⟨_,I,f1,h3.trans f2,VR.mono f2.ev _ _ h4⟩
     ·split at he
      case isFalse=>simp at he
      rename_i hle;simp only[bJ,Prod.mk.injEq]at he;obtain⟨rfl,rfl⟩:=he;obtain⟨vals,⟨q,m,xB⟩,hf,gG,pM,j6⟩:=q7 (P:=P) et hg db hx;have BK:len*aC k+cs.length<=B.cells.length:=by rw[gG,<-Nat.add_mul];exact hle
      obtain⟨_,_,HH,_⟩:=hg.kU b _ B _ bO;have dP:B.st = .live:=by
       cases bV:B.st with
       |dead=>exact absurd bV jm
       |map es=>have:=vY hu;rw[bV]at this;simp[eo.iF]at this
       |live=>rfl
       |jP=>
        have h0:B.cells.length=0:=by rw[HH bV];rfl
        omega
      have M1:=hs;unfold VR at M1;have M1:=M1.2.2 B _ bO;simp only[dP]at M1;obtain⟨c,el,o', cap,g1,hv,g3,g4,g5⟩:=M1;obtain⟨_,c', mi, n2,n3,n4⟩:=hg.live b _ B _ bO dP;rw[g1]at n2;simp only[bJ,kH]at n2;obtain⟨rfl,rfl,_⟩:=n2;rw[vj]at g5;have HB:0<aC k:=Nat.pos_of_ne_zero λh=>by rw[h,Nat.mul_zero]at gG;omega
      have fE:len+n<=cap:=by
       have:(len+n)*aC k<=cap*aC k:=by omega
       exact Nat.le_of_mul_le_mul_right this HB
      have p8:0<cap:=by omega
      have Yp:=g3 p8;subst Yp;have kI:∀v∈vals,v.oneCell' = true:=λv hv=>by
       obtain⟨i,hi⟩:=List.getElem?_of_mem hv;have aK:=(cV.1 hi).1;obtain⟨y,m1,m2,m3⟩:=j6 i cs[i] (de (by omega))
       rw[hi]at m1;simp at m1;subst m1;exact m3
      have fg:=run_storeCells_at P (ids b) (len*aC k) el vals 0 c w g1 (by omega) kI
      have BF:=HF (P:=P) (w:=w) (ty:=o.type) (base:=some ⟨ids b,0,none⟩) ht jf hk xB (hf w rfl) fE (λb' rZ =>by
       simp at rZ; subst rZ;rw[p9,jj];exact fg) (λh=>by simp at h)
      rw[<-hv]at BF;obtain⟨p1,p2⟩:=ui (vals:=vals) (new:=cs) (off:=len*aC k) hg bO dP (mD (u:=0) hb) g1 BK pM j6;obtain⟨pl,_⟩:=rh B.cells cs (len*aC k) BK;have eS:=oM (ids:=ids) (I:=I) (id' :=ids b) (B' :=⟨B.k,putAt B.cells (len*aC k) cs,B.st⟩) hb jm;have j9:(λq=>if q=b then ids b else ids q)=ids:=by funext q;split<;>simp_all
      rw[j9]at eS;obtain⟨f1,f2⟩:=Good.shrink (C2:=af (az σ b ⟨B.k,putAt B.cells (len*aC k) cs,B.st⟩) ids I) p1 rfl (λb1 u1 e1 h1=>by
       have:=eS b1 u1 e1 h1;simp only[pl]at this;exact this) (λb1 u1 h1=>oN (ids:=ids) (I:=I) hb (by show _<=(putAt B.cells (len*aC k) cs).length;omega) b1 u1 h1)
      refine jZ ho hc ha eY BF ⟨ids,I,f1,p2.trans f2,?_⟩;have aK:b<σ.length:=by rw[dp]at hb;exact(cV.1 hb).1
      unfold VR;refine⟨⟨_,_,rfl,fE,λ_=>⟨_,rfl⟩⟩,⟨_,by rw[yu aK,ae rfl],by show _<=(putAt B.cells (len*aC k) cs).length;omega⟩,λB2 AP h2=>?_⟩
      have r8 :=eS b _ _ h2;rw[ae ⟨rfl,pl.symm⟩]at r8;simp at r8;obtain⟨rfl,rfl⟩:=r8;simp only[dP];refine⟨_,el,0,cap,setRow_heap w (ids b) c _ el (0,0) g1,rfl,λ_=>rfl,fE,?_⟩;rw[(MS (by omega)).1,vj]
      exact g5
end
end Ab
set_option linter.all false
namespace Ab
open Go
variable{P:Program}
theorem yy (n:Nat):∀l:List AV,kP n l=l.map (jA n)
 | []=>rfl
 |x::r=>by simp only[kP,yy n r,dd]
structure sG (n:Nat) (C1 C' : Ctx):Prop where
 aE:∀k,C1.I k->C'.I k
 lim:∀b u,C1.lim b u->C'.lim (b+n) u
 own:∀b u B' id,C1.lim b u->C'.own (b+n) u=some (B', id)->∃B,C1.own b u=some (B,id)/\B'.st=pN n B.st/\B.k=B'.k
theorem YB{n:Nat}{B:ag}{es:List (AV×AV)}(h:(gR n B).st = .map es):∃Lz,B.st = .map Lz/\es=M3 n Lz:=by
 have h:pN n B.st = .map es:=h;cases hs:B.st with
 |map Lz=>rw[hs]at h;simp[pN]at h;exact⟨Lz,rfl,h.symm⟩
 |jP=>rw[hs]at h;simp[pN]at h
 |live=>rw[hs]at h;simp[pN]at h
 |dead=>rw[hs]at h;simp[pN]at h
theorem YC{n:Nat}{s:eo}:(pN n s).iF=s.iF:=by cases s<;>rfl
theorem yz{n:Nat}{s:eo}:(pN n s).lies=s.lies:=by cases s<;>rfl
theorem M4{n:Nat}{s:eo}(h:pN n s = .live):s = .live:=by cases s<;>simp_all [pN]
theorem YD{n:Nat}{s:eo}(h:pN n s = .jP):s = .jP:=by cases s<;>simp_all [pN]
theorem YE{n:Nat}{s:eo}(h:pN n s = .dead):s = .dead:=by cases s<;>simp_all [pN]
section
variable{n:Nat}{C1 C' : Ctx}{H:Array Obj}
mutual
theorem VR.shift (h:sG n C1 C'):∀(x:AV) (v:Value),VR C1 H x v->VR C' H (jA n x) v
 |.int _,_,hv=>hv
 |.ik _ _,_,hv=>hv
 |.bool _,_,hv=>hv
 |.str _,_,hv=>hv
 |.agg l,_,⟨vs,e,hl,hc⟩=>⟨vs,e,cm.shift h l vs hl,hc⟩
 |.bS l,_,⟨vs,e,hl⟩=>⟨vs,e,cm.shift h l vs hl⟩
 |.ah,_,hv=>hv
 |.emp,_,hv=>hv
 |.aE nn l,v,hv=>VR.free (show oC C1 H C' H from⟨h.aE,λ_ _=>rfl⟩) (.aE nn l) v rfl hv
 |.arr l,v,hv=>by
  unfold VR at hv;unfold jA VR;obtain⟨b,off,st,c,el,fz,e,hI,hH,hl⟩:=hv;refine⟨b,off,st,c,el,fz,?_,h.aE b hI,hH,ji.shift h c st l off hl⟩;rw[yy];simpa using e
 |.sl b u off len,v,hv=>by
  unfold VR at hv;unfold jA VR;obtain⟨h0,h1,h3⟩:=hv;refine⟨h0,h.lim b u h1,λB' id ho=>?_⟩;obtain⟨B,g1,g2,g3⟩:=h.own b u B' id h1 ho;have:=h3 B id g1;rw[g3]at this;rw[g2];cases hs:B.st<;>rw[hs]at this<;>simpa[pN]using this
 |.iw,_,hv=>hv
 |.bd x,v,hv=>VR.free (show oC C1 H C' H from⟨h.aE,λ_ _=>rfl⟩) (.bd x) v rfl hv
 |.ptr b u off,v,hv=>by
  unfold VR at hv;unfold jA VR;obtain⟨h0,h1,h3⟩:=hv;refine⟨h0,h.lim b u h1,λB' id ho hl=>?_⟩;obtain⟨B,g1,g2,g3⟩:=h.own b u B' id h1 ho;exact h3 B id g1 (M4 (g2.symm.trans hl))
 |.kJ,_,hv=>hv
 |.func _ l,_,⟨vs,e,hl⟩=>⟨vs,e,cm.shift h l vs hl⟩
 |.gW,_,hv=>hv
 |.iface _ x,_,⟨y,e,hx⟩=>⟨y,e,VR.shift h x y hx⟩
 |.cQ b,v,hv=>by
  unfold VR at hv;unfold jA VR;obtain⟨h0,h1,h3⟩:=hv;refine⟨h0,h.lim b 0 h1,λB' id ho hl=>?_⟩;obtain⟨B,g1,g2,g3⟩:=h.own b 0 B' id h1 ho;exact h3 B id g1 (by rw[g2,YC]at hl;exact hl)
 |.qb,_,hv=>hv
 |.aM,_,_=>trivial
theorem cm.shift (h:sG n C1 C'):∀(l:List AV) (vs:List Value),cm C1 H l vs->cm C' H (kP n l) vs
 | [],_,hv=>hv
 |x::r,_,⟨v,s,e,hx,hr⟩=>⟨v,s,e,VR.shift h x v hx,cm.shift h r s hr⟩
theorem ji.shift (h:sG n C1 C') (c:Array Value) (st:Nat):∀(l:List AV) (off:Nat),ji C1 H c st l off->ji C' H c st (kP n l) off
 | [],_,_=>trivial
 |x::r,off,⟨⟨v,hx,e,hj⟩,hr⟩=>⟨⟨v,VR.shift h x v hx,e,hj⟩,ji.shift h c st r (off+st) hr⟩
end
theorem MR.shift (h:sG n C1 C'):∀{es:List (AV×AV)}{l:List MapEntry},MR C1 H es l->MR C' H (M3 n es) l
 | [],_,e=>e
 |(k,x)::r,_,⟨e,s,q,⟨k1,k2⟩,x2,hr⟩=>⟨e,s,q,⟨k1,VR.free ⟨h.aE,λ_ _=>rfl⟩ _ _ k1 k2⟩,VR.shift h _ _ x2,MR.shift h hr⟩
end
section
variable{a:Act}{ρ:Operand->Value}{r:Rf->AV}{w:World}{C:Ctx}{R:Operand->Rf->Bool}{ce:CE}{σ:List ag}{nl:Nat}{ps:List aZ}
theorem YF{ids:Nat->Nat}{I:Nat->Prop}{o:Oper}{ca:Call}{f:Nat}{ys:List Rf}{z:AV}{bp : List ag}(dM:cz P ce) (ho:o.op = .call ca) (hc:ca.callee = .value (.func f)) (hb:cM P f=true) (hg:Good (af σ ids I) w)
  (hx:cm (af σ ids I) w.heap (ys.map r) (ca.args.toList.map a.eval)) (he:fF ce σ r (.fI f ys)=some (z,bp)):bF P o a w (iX σ ids I w z bp):=by
 simp only[fF]at he;refine bF.call (Bt ho hc hb w) ((dM f _ σ z bp he ids I w _ hg hx).mono ?_);rintro e w' ⟨v,aJ, I', rfl,h1,h2,h3⟩;exact⟨v,rfl,aJ, I', h1,h3,h2⟩
theorem YG{ids:Nat->Nat}{I:Nat->Prop}{o:Oper}{ca:Call}{x0:Operand}{y:Rf}{ys:List Rf}{z:AV}{bp : List ag}(dM:cz P ce) (jz:dZ P ce) (ho:o.op = .call ca) (hc:ca.callee = .value x0) (hg:Good (af σ ids I) w)
  (h0:VR (af σ ids I) w.heap (r y) (a.eval x0)) (hx:cm (af σ ids I) w.heap (ys.map r) (ca.args.toList.map a.eval)) (he:fF ce σ r (.kW y ys)=some (z,bp)):bF P o a w (iX σ ids I w z bp):=by
 simp only[fF]at he;cases hy:r y<;>simp only[hy]at he<;>try(simp at he;done)
 rename_i f aI;rw[hy]at h0;unfold VR at h0;obtain⟨vs,e,hl⟩:=h0;refine bF.call (Ms ho hc e (jz _ _ _ _ he) w) ((dM f _ σ z bp he ids I w _ hg (hx.append hl)).mono ?_);rintro e w' ⟨v,aJ, I', rfl,h1,h2,h3⟩;exact⟨v,rfl,aJ, I', h1,h3,h2⟩
theorem YH{ids:Nat->Nat}{I:Nat->Prop}{o:Oper}{ca:Call}{x0:Operand}{m:String}{gE:List (Nat×Nat)}{y:Rf}{ys:List Rf}{z:AV}{bp : List ag}(dM:cz P ce) (jz:dZ P ce) (ho:o.op = .call ca) (hc:ca.callee = .invoke x0 m) (ht:na P m gE=true) (hg:Good (af σ ids I) w)
  (h0:VR (af σ ids I) w.heap (r y) (a.eval x0)) (hx:cm (af σ ids I) w.heap (ys.map r) (ca.args.toList.map a.eval)) (he:fF ce σ r (.qc y gE ys)=some (z,bp)):bF P o a w (iX σ ids I w z bp):=by
 simp only[fF]at he;cases hy:r y<;>simp only[hy]at he<;>try(simp at he;done)
 rename_i t q;cases hl:eM gE t with
 |none=>simp[hl]at he
 |some f=>
  simp only[hl]at he;rw[hy]at h0;unfold VR at h0;obtain⟨v,e,hq⟩:=h0;refine bF.call (Mu ho hc e ht hl (jz _ _ _ _ he) w) ((dM f _ σ z bp he ids I w _ hg ⟨v,_,rfl,hq,hx⟩).mono ?_);rintro e w' ⟨v,aJ, I', rfl,h1,h2,h3⟩;exact⟨v,rfl,aJ, I', h1,h3,h2⟩
theorem M5{bp : List ag}{b:Nat}:al (bp.map (gR nl)) b=(al bp b).map (gR nl):=by
 rw[dp,dp];simp
theorem yA (B:ag):(gR nl B).cells.length=B.cells.length:=by simp[gR,yy]
theorem M6{bp : List ag}{ids:Nat->Nat}{I I' : Nat->Prop}{b u:Nat}{B' : ag}{id:Nat}(h:(af (bp.map (gR nl)) ids I).own b u=some (B', id)):∃B,(af bp ids I').own b u=some (B,id)/\B' = gR nl B:=by
 simp only[af,M5]at h ⊢;cases hb:al bp b with
 |none=>simp[hb]at h
 |some B=>
  simp only[hb,lK]at h ⊢;have e1:(gR nl B).st=pN nl B.st:=rfl;rw[e1,yA]at h;cases hs:B.st<;>simp only[hs,pN]at h ⊢<;>first
   |(simp at h;done)
   |(by_cases hu:B.cells.length=u
     ·simp only[hu,dA]at h ⊢
      simp at h;exact⟨B,by rw[h.2],h.1.symm⟩
     ·simp[hu]at h)
theorem YI{o:Oper}{ca:Call}{f:Nat}{ys:List Rf}{x:AV}{p:Option aZ}(dM:cz P ce) (ho:o.op = .call ca) (hc:ca.callee = .value (.func f)) (hb:cM P f=true) (hg:Good C w)
  (BM:∀l,p=some (.news l)->∀b u,nl<=b->b<nl+l.length->¬C.lim b u)
  (hx:cm C w.heap (ys.map r) (ca.args.toList.map a.eval)) (he:ev ce σ nl ps r (.can f ys)=some (x,p)):bF P o a w (iU nl C w x p):=by
 simp only[ev]at he;split at he
 case isFalse=>simp at he
 rename_i hn;cases LA:ce f (ys.map r) []with
 |none=>simp[LA]at he
 |some q=>
  obtain⟨v0,bp⟩:=q;simp only[LA,bJ,Prod.mk.injEq]at he;obtain⟨rfl,rfl⟩:=he;have BM:=BM _ rfl;have qG:cm (af [] (λ_=>0) C.I) w.heap (ys.map r) (ca.args.toList.map a.eval):=cm.free (show oC C w.heap (af [] (λ_=>0) C.I) w.heap from⟨λ_ h=>h,λ_ _=>rfl⟩) _ _ hn hx;refine bF.call (Bt ho hc hb w) ((dM f _ [] v0 bp LA (λ_=>0) C.I w _ (Mn hg _) qG).mono ?_);rintro e w' ⟨v,aJ, I', rfl,xz,hr,hs⟩;refine⟨v,rfl,?_⟩;have hlen:(bp.map (gR nl)).length=bp.length:=by simp
  let C' : Ctx:={I:=I', own:=λb u=>if nl<=b/\b<nl+(bp.map (gR nl)).length then(af (bp.map (gR nl)) aJ C.I).own (b-nl) u else C.own b u,lim:=λb u=>(nl<=b/\(af (bp.map (gR nl)) aJ C.I).lim (b-nl) u)\/C.lim b u}
  have du:∀k,k<w.heap.size->w'.heap[k]? = w.heap[k]?:=λk hk=>hs.frame k hk nD;have M7:∀b u,(af bp aJ I').lim b u->b<bp.length:=λb u ⟨B,h1,_⟩=>by rw[dp]at h1;exact(cV.1 h1).1
  have Gi:∀b u,(af (bp.map (gR nl)) aJ C.I).lim b u↔(af bp aJ I').lim b u:=λb u=>by
   simp only[af,M5];constructor
   ·rintro⟨B,h1,h2⟩
    obtain⟨B0,h3,h4⟩:=nG.1 h1;subst h4;exact⟨B0,h3,by rwa [yA]at h2⟩
   ·rintro⟨B,h1,h2⟩
    exact⟨gR nl B,by rw[h1];rfl,by rw[yA];exact h2⟩
  have vk:sG nl (af bp aJ I') C' :=by
   refine⟨λ_ h=>h,λb u h=>.inl ⟨by omega,?_⟩,λb u B' id hl aY =>?_⟩
   ·rw[show b+nl-nl=b by omega];exact(Gi b u).2 h
   ·have aK:=M7 b u hl
    have eZ:nl<=b+nl/\b+nl<nl+(bp.map (gR nl)).length:=by rw[hlen];omega
    simp only[C', ae eZ]at aY;rw[show b+nl-nl=b by omega]at aY
    obtain⟨B,h1,h2⟩:=M6 (I' :=I') aY;exact⟨B,h1,by rw[h2];rfl,by rw[h2];rfl⟩
  have HE : fR C w.heap C' w'.heap:=by
   refine⟨λk hk=>hs.ev.aE k hk,λk hk=>du k (hg.I k hk),λ_ _ h=>.inr h,λb u B' id hl aY =>?_⟩;have oG:¬(nl<=b/\b<nl+(bp.map (gR nl)).length):=λ⟨h1,h2⟩=>BM b u h1 h2 hl;simp only[C', ab oG]at aY;refine⟨B', aY, rfl,rfl,λc el ga =>⟨c,?_,rfl⟩⟩;rw[du id (jh.1 ga).1];exact ga
  have nE:∀id,owned (af bp aJ I') id->w.heap.size<=id:=λid h=>(hs.gd id h).elim (λh=>absurd h nD) (λh=>h);have qH:∀b u B' id,C'.own b u=some (B', id)->(nl<=b/\b<nl+(bp.map (gR nl)).length/\∃B,(af bp aJ I').own (b-nl) u=some (B,id)/\B' = gR nl B)\/C.own b u=some (B', id):=λb u B' id h=>by
   by_cases eZ:nl<=b/\b<nl+(bp.map (gR nl)).length
   ·simp only[C', ae eZ]at h
    obtain⟨B,h1,h2⟩:=M6 (I' :=I') h;exact .inl ⟨eZ.1,eZ.2,B,h1,h2⟩
   ·simp only[C', ab eZ]at h
    exact .inr h
  refine⟨C', ⟨xz.I,λb u B' id h=>?_,λb u B' id h hl=>?_,λb1 u1 B1 i1 b2 u2 B2 i2 k1 l1 k2 l2 b8=>?_,λb u B' id es h hl=>?_⟩,⟨HE, hs.size,λk hk _=>du k hk,λk hk=>?_,λk hk=>?_,hs.os,hs.tape,hs.output⟩,VR.shift vk _ _ hr,aJ, rfl,rfl⟩
  ·rcases qH b u B' id h with⟨q1,q2,B,q3,rfl⟩|h'
   ·obtain⟨j1,j2,j3,j4⟩:=xz.kU _ _ _ _ q3
    exact⟨.inl ⟨q1,(Gi _ _).2 j1⟩,by rw[yA];exact j2,λh0=>by
     have:B.cells=[]:=j3 (YD h0);simp[gR,this,kP],λh0=>j4 (YE h0)⟩
   ·obtain⟨j1,j2,j3,j4⟩:=hg.kU _ _ _ _ h'
    exact⟨.inr j1,j2,j3,j4⟩
  ·rcases qH b u B' id h with⟨q1,q2,B,q3,rfl⟩|h'
   ·obtain⟨j1,c,el,j2,j3,j4⟩:=xz.live _ _ _ _ q3 (M4 hl)
    refine⟨j1,c,el,j2,by rw[yA];exact j3,λi y hi=>?_⟩
    have dx : (kP nl B.cells)[i]? = some y:=hi;rw[yy,iv]at dx;obtain⟨y0,e1,rfl⟩:=nG.1 dx;obtain⟨v', m1,m2,m3⟩:=j4 i y0 e1;exact⟨v', m1,VR.shift vk _ _ m2,m3⟩
   ·obtain⟨j1,c,el,j2,j3,j4⟩:=hg.live _ _ _ _ h' hl
    have aK:=(jh.1 j2).1;refine⟨λhi=>?_,c,el,by rw[du id aK];exact j2,j3,λi y hi=>?_⟩
    ·rcases hs.gD id hi with h1|h1|h1
     ·exact j1 h1
     ·exact nD h1
     ·omega
    ·obtain⟨v', m1,m2,m3⟩:=j4 i y hi
     exact⟨v', m1,VR.mono HE _ _ m2,m3⟩
  ·rcases qH _ _ _ _ k1 with⟨q1,q2,B,q3,rfl⟩|h1<;>rcases qH _ _ _ _ k2 with⟨q4,q5,B', q6,rfl⟩|h2
   ·exact xz.apart _ _ _ _ _ _ _ _ q3 (yz.symm.trans l1) q6 (yz.symm.trans l2) (by omega)
   ·have:=nE i1 ⟨_,_,B,q3,yz.symm.trans l1⟩
    have:=hg.lt ⟨b2,u2,B2,h2,l2⟩;omega
   ·have:=nE i2 ⟨_,_,B', q6,yz.symm.trans l2⟩
    have:=hg.lt ⟨b1,u1,B1,h1,l1⟩;omega
   ·exact hg.apart _ _ _ _ _ _ _ _ h1 l1 h2 l2 b8
  ·rcases qH b u B' id h with⟨q1,q2,B,q3,rfl⟩|h'
   ·obtain⟨Lz,HM,rfl⟩:=YB hl
    obtain⟨j1,l,c,j2,j3⟩:=xz.maps _ _ _ _ Lz q3 HM;exact⟨j1,l,c,j2,MR.shift vk j3⟩
   ·have aK:=hg.lt ⟨_,_,_,h', lE hl⟩
    refine hg.da (C' :=C') HE h' hl (du id aK) λhi=>?_;rcases hs.gD id hi with h1|h1|h1
    ·exact(hg.maps _ _ _ _ _ h' hl).1 h1
    ·exact nD h1
    ·omega
  ·obtain⟨b,u,B', h1,h2⟩:=hk
   rcases qH _ _ _ _ h1 with⟨q1,q2,B,q3,rfl⟩|h'
   ·exact .inr (nE k ⟨_,_,B,q3,yz.symm.trans h2⟩)
   ·exact .inl ⟨b,u,B', h', h2⟩
  ·rcases hs.gD k hk with h1|h1|h1
   ·exact .inl h1
   ·exact absurd h1 nD
   ·exact .inr (.inr h1)
end
end Ab
namespace Ab
open Go
variable{P:Program}
section
variable{a:Act}{ρ:Operand->Value}{r:Rf->AV}{w:World}{C:Ctx}{R:Operand->Rf->Bool}{ce:CE}{σ:List ag}{nl:Nat}{ps:List aZ}
theorem YJ{o:Oper}{ca:Call}{x:Operand}{t:TypeId}{y:Rf}{z:AV}{p:Option aZ}(ho:o.op = .call ca) (hc:ca.callee = .builtin .cap) (ha:ca.args.toList=[x]) (eY:ca.argTypes.toList=[t])
  (ht:(aF P t).isSome=true) (hx:VR C w.heap (r y) (ρ x)) (he:ev ce σ nl ps r (.HN y)=some (z,p)):Plain P ρ o w C w.heap z/\p=none:=by
 obtain⟨e,xA⟩:=sw.1 ht;have hu:=jU xA w;simp only[ev]at he;cases bR : r y<;>simp only[bR]at he<;>try(simp at he;done)
 simp at he;obtain⟨rfl,rfl⟩:=he;rw[bR]at hx;have hv:ρ x = .slice none 0 0:=hx;have nI : ca.args = #[x]:=by rw[<-Array.toList_inj];simpa using ha
 have nJ : ca.argTypes = #[t]:=by rw[<-Array.toList_inj];simpa using eY
 refine⟨⟨.int .i64 0,?_,by unfold VR;rfl⟩,rfl⟩
 simp only[execOp,ho,resolve,hc,nI, nJ, aL,bh,aS,invoke,builtin,Builtin.cap_];simp[hv,aL,hu,goInt]
theorem YK{ids:Nat->Nat}{I:Nat->Prop}{o:Oper}{ca:Call}{t e:TypeId}{x:Operand}{x' : Rf}{zc:List AV}{k:Option Nat}{z:AV}{bp : List ag}(ho:o.op = .call ca) (hc:ca.callee = .builtin .clear) (ha:ca.args.toList=[x]) (eY:ca.argTypes.toList=[t]) (ht:aF P t=some e) (hk:bt P e k=true) (hz:iJ P e zc=true) (hg:Good (af σ ids I) w)
  (hx:VR (af σ ids I) w.heap (r x') (a.eval x)) (he:fF ce σ r (.vm x' zc k)=some (z,bp)):bF P o a w (iX σ ids I w z bp):=by
 simp only[fF]at he;cases bR : r x' <;>simp only[bR]at he<;>try(simp at he;done)
 rename_i b u off len;cases hu:upto σ b u with
 |none=>simp[hu]at he
 |some B=>
  simp only[hu]at he;split at he
  case isFalse=>simp at he
  rename_i lL;obtain⟨c0,c1,c2,c3,c4⟩:=lL;simp only[bJ,Prod.mk.injEq]at he;obtain⟨rfl,rfl⟩:=he;obtain⟨hb,oJ,jm⟩:=rj hu;have hs:B.st = .live:=by revert c4;cases B.st<;>simp[eo.isLive]
  have bO:=lF ids I hu;subst oJ;rw[bR]at hx;unfold VR at hx;have AQ:=hx.2.2 B _ bO;rw[hs]at AQ;obtain⟨c', mi, o', cap,r7, e,mE,MP,jO⟩:=AQ;rw[mE (by omega)]at e
  obtain⟨_,c,el,hH,hle,j8⟩:=hg.live b _ B _ bO hs;obtain⟨zv,z1,z2,z3⟩:=Bz (C:=af σ ids I) hz w;have HA:zv.cells.size=aC k:=by have:=cm.length z2;simp at this;omega
  obtain⟨d1,d2⟩:=Hz zc len;rw[c3]at d1 d2;have pM:(Builtin.zeroCells zv.cells len).toList.length=len*aC k:=by simp[Builtin.zeroCells,HA]
  obtain⟨g1,g2⟩:=ui (vals:=(Builtin.zeroCells zv.cells len).toList) (new:=eG len zc) (off:=off) hg bO hs (mD (u:=0) hb) hH (by omega) (by omega) (λj q hj=>by
   have aK:=(cV.1 hj).1;rw[d1]at aK;rw[d2 j aK]at hj;have HB:0<aC k:=Nat.pos_of_ne_zero λh=>by rw[h]at aK;simp at aK
   obtain⟨y,k1,k2⟩:=z2.get (j%aC k) q hj;rw[iV]at k1;refine⟨y,?_,k2,z3 y (by rw[uf];exact Array.mem_of_getElem? k1)⟩
   have hm:=Nat.mod_lt j HB;rw[jl (by omega:j%aC k<zv.cells.size)]at k1
   simp at k1;rw[iV];simp[Builtin.zeroCells,HA,aK,getElem!_def,jl (by omega:j%aC k<zv.cells.size),k1])
  obtain⟨pl,_⟩:=rh B.cells (eG len zc) off (by omega)
  have eS:=oM (ids:=ids) (I:=I) (id' :=ids b) (B' :=⟨B.k,putAt B.cells off (eG len zc),B.st⟩) hb jm;have j9:(λq=>if q=b then ids b else ids q)=ids:=by funext q;split<;>simp_all
  rw[j9]at eS;obtain⟨f1,f2⟩:=Good.shrink (C2:=af (az σ b ⟨B.k,putAt B.cells off (eG len zc),B.st⟩) ids I) g1 rfl (λb1 u1 e1 h1=>by
   have:=eS b1 u1 e1 h1;simp only[pl]at this;exact this) (λb1 u1 h1=>oN (ids:=ids) (I:=I) hb (by show _<=(putAt B.cells off (eG len zc)).length;omega) b1 u1 h1)
  have kI:∀v∈(Builtin.zeroCells zv.cells len).toList,v.oneCell' = true:=λv hv=>by
   obtain⟨j,hj⟩:=sH.1 hv;have aK:=(cV.1 hj).1;rw[pM]at aK;have HB:0<aC k:=Nat.pos_of_ne_zero λh=>by rw[h]at aK;simp at aK
   have hm:=Nat.mod_lt j HB;rw[iV]at hj;simp[Builtin.zeroCells,HA,aK,getElem!_def,jl (by omega:j%aC k<zv.cells.size)]at hj
   subst hj;exact z3 _ (by rw[uf];exact Array.getElem_mem _)
  have fg:=run_storeCells_at P (ids b) off el (Builtin.zeroCells zv.cells len).toList 0 c w hH (by omega) kI
  simp only[Nat.add_zero]at fg;have nI : ca.args = #[x]:=by rw[<-Array.toList_inj];simpa using ha
  have nJ : ca.argTypes = #[t]:=by rw[<-Array.toList_inj];simpa using eY
  obtain⟨n', rfl⟩:∃n', len=n' + 1:=⟨len-1,by omega⟩
  refine bF.val (v:=.tuple #[]) (w' :=w.setRow (ids b) (c.toList.take off++(Builtin.zeroCells zv.cells (n' + 1)).toList++c.toList.drop (off+(Builtin.zeroCells zv.cells (n' + 1)).toList.length)).toArray) ?_ ⟨ids,I,f1,g2.trans f2,by unfold VR;trivial⟩
  simp only[execOp,ho,resolve,hc,nI, nJ, aL,bh,aS,invoke,builtin,Builtin.clear_];simp[e,aL,jU ht,z1,fg]
theorem YL{ids:Nat->Nat}{I:Nat->Prop}{o:Oper}{ca:Call}{t t' e:TypeId}{x y:Operand}{x' y' : Rf}{k:Option Nat}{z:AV}{bp : List ag}(ho:o.op = .call ca) (hc:ca.callee = .builtin .copy) (ha:ca.args.toList=[x,y]) (eY:ca.argTypes.toList=[t,t']) (ht:aF P t=some e) (hk:bt P e k=true) (hg:Good (af σ ids I) w)
  (hx:VR (af σ ids I) w.heap (r x') (a.eval x)) (hy:VR (af σ ids I) w.heap (r y') (a.eval y)) (he:fF ce σ r (.Gj x' y' k)=some (z,bp)):bF P o a w (iX σ ids I w z bp):=by
 simp only[fF]at he;cases gV : aG σ k (r y')with
 |none=>simp[gV]at he
 |some MQ=>
 obtain⟨n,cs⟩:=MQ;simp only[gV]at he;cases bR : r x' <;>simp only[bR]at he<;>try(simp at he;done)
 rename_i b u off len;cases hu:upto σ b u with
 |none=>simp[hu]at he
 |some B=>
  simp only[hu]at he;split at he
  case isFalse=>simp at he
  rename_i lL;obtain⟨c1,c2,c4⟩:=lL;obtain⟨hb,oJ,jm⟩:=rj hu;have hs:B.st = .live:=by revert c4;cases B.st<;>simp[eo.isLive]
  have bO:=lF ids I hu;subst oJ;rw[bR]at hx;unfold VR at hx;have AQ:=hx.2.2 B _ bO;rw[hs]at AQ;obtain⟨c', mi, o', cap,r7, e1,mE,MP,jO⟩:=AQ;obtain⟨vals,⟨q,mm,e2⟩,M8,gG,pM,j6⟩:=Yd (P:=P) gV (show min n len<=n by omega) hg (λb u B _ h=>⟨_,lF ids I h⟩) hy
  have nI : ca.args = #[x,y]:=by rw[<-Array.toList_inj];simpa using ha
  have nJ : ca.argTypes = #[t,t']:=by rw[<-Array.toList_inj];simpa using eY
  have mj:=iT (kF hk) w
  by_cases h0:min n len=0
  ·rw[ae h0]at he
   simp only[bJ,Prod.mk.injEq]at he;obtain⟨rfl,rfl⟩:=he;rw[h0]at M8 pM;obtain rfl:vals=[]:=dW (by simpa using pM)
   refine bF.val (v:=.int .i64 0) (w' :=w) ?_ ⟨ids,I,hg,Step.refl _ _,by unfold VR;rfl⟩
   simp only[execOp,ho,resolve,hc,nI, nJ, aL,bh,aS,invoke,builtin,Builtin.copy_];rw[e2]at M8;simp[e1,e2,aL,jU ht,Builtin.lenOf,mj,M8,h0,goInt,storeCells]
  ·rw[ab h0]at he
   simp only[bJ,Prod.mk.injEq]at he;obtain⟨rfl,rfl⟩:=he;rw[mE (by omega)]at e1
   obtain⟨_,c,el,hH,hle,j8⟩:=hg.live b _ B _ bO hs;have apt:min n len*aC k<=n*aC k:=jT _ (by omega)
   have apu:min n len*aC k<=len*aC k:=jT _ (by omega)
   have ss:(cs.take (min n len*aC k)).length=min n len*aC k:=by rw[mB,gG];omega
   obtain⟨g1,g2⟩:=ui (vals:=vals) (new:=cs.take (min n len*aC k)) (off:=off) hg bO hs (mD (u:=0) hb) hH (by omega) (by omega) j6
   obtain⟨pl,_⟩:=rh B.cells (cs.take (min n len*aC k)) off (by omega)
   have eS:=oM (ids:=ids) (I:=I) (id' :=ids b) (B' :=⟨B.k,putAt B.cells off (cs.take (min n len*aC k)),B.st⟩) hb jm;have j9:(λq=>if q=b then ids b else ids q)=ids:=by funext q;split<;>simp_all
   rw[j9]at eS;obtain⟨f1,f2⟩:=Good.shrink (C2:=af (az σ b ⟨B.k,putAt B.cells off (cs.take (min n len*aC k)),B.st⟩) ids I) g1 rfl (λb1 u1 e1 h1=>by
    have:=eS b1 u1 e1 h1;simp only[pl]at this;exact this) (λb1 u1 h1=>oN (ids:=ids) (I:=I) hb (by show _<=(putAt B.cells off (cs.take (min n len*aC k))).length;omega) b1 u1 h1)
   have kI:∀v∈vals,v.oneCell' = true:=λv hv=>by
    obtain⟨j,hj⟩:=sH.1 hv;have aK:=(cV.1 hj).1;obtain⟨y', m1,_,m3⟩:=j6 j _ (de (by omega))
    rw[hj]at m1;cases m1;exact m3
   have fg:=run_storeCells_at P (ids b) off el vals 0 c w hH (by omega) kI
   simp only[Nat.add_zero]at fg;refine bF.val (v:=.int .i64 (min n len:Nat)) (w' :=w.setRow (ids b) (c.toList.take off++vals++c.toList.drop (off+vals.length)).toArray) ?_ ⟨ids,I,f1,g2.trans f2,by unfold VR;rfl⟩
   simp only[execOp,ho,resolve,hc,nI, nJ, aL,bh,aS,invoke,builtin,Builtin.copy_];rw[e2]at M8;simp[e1,e2,aL,jU ht,Builtin.lenOf,mj,M8,goInt,fg]
end
end Ab
namespace Ab
open Go
variable{P:Program}
section
variable{a:Act}{r:Rf->AV}{w:World}{C:Ctx}{R:Operand->Rf->Bool}{ce:CE}{σ:List ag}{nl:Nat}{ps:List aZ}
theorem Gk{o:Oper}{x0:Operand}{y:Rf}{x:AV}{p:Option aZ}(ho:o.op = .move x0\/o.op = .assign x0) (hg:Good C w) (h0:VR C w.heap (r y) (a.eval x0)) (he:ev ce σ nl ps r (.mv y)=some (x,p)) :
  bF P o a w (dc C w x)/\p=none:=by
 simp[ev]at he;obtain⟨rfl,rfl⟩:=he;refine⟨bF.val (v:=a.eval x0) (w' :=w) ?_ (dc.same hg h0),rfl⟩;rcases ho with ho|ho<;>simp only[execOp,ho,bh]
def cW.nh:cW->Bool
 |.gH _ | .kK ..=>true
 |_=>false
theorem YM{x:Rf}{lo hi:Option Rf}{st:Nat}{z:AV×Option aZ}(h:ev ce σ nl ps r (.YN x lo hi st)=some z):ev ce [] nl ps r (.oP x lo hi st)=some z:=by
 simp only[ev]at h ⊢;cases h1:tV r lo with
 |none=>simp[h1]at h
 |some a=>
  cases h2:tW r hi with
  |none=>simp[h1,h2]at h
  |some b=>
   simp only[h1,h2]at h ⊢;cases h3:r x<;>simp only[h3]at h ⊢<;>first|exact h|simp at h
theorem opP{o:Oper}{oQ:cW}{x:AV}{p:Option aZ}(au:lM P R o.op oQ=true) (hP:oQ.jI=true) (yB:oQ.nh=false) (dM:cz P ce) (jz:dZ P ce) (hg:Good C w)
  (hR:∀x y,R x y=true->VR C w.heap (r y) (a.eval x)) (AR:r (.c (.int 0)) = .int 0) (he:ev ce σ nl ps r oQ=some (x,p)):bF P o a w (dc C w x)/\p=none:=by
 obtain⟨dst,op,type,pos,after,guard⟩:=o;have pl:∀{x' : AV} {p' : Option aZ},Plain P a.eval ⟨dst,op,type,pos,after,guard⟩ w C w.heap x' /\p' = none->bF P ⟨dst,op,type,pos,after,guard⟩ a w (dc C w x')/\p' = none:=λh=>⟨h.1.does hg,h.2⟩;simp only[lM]at au;split at au
 ·exact Gk (.inl rfl) hg (hR _ _ au) he
 ·exact Gk (.inr rfl) hg (hR _ _ au) he
 ·simp[cW.jI]at hP
 ·simp only[aD]at au
  exact pl (YO rfl au.1.1 (hR _ _ au.1.2) (hR _ _ au.2) he)
 ·simp only[aD]at au
  exact pl (YP rfl au.1.1.1 au.1.1.2 (hR _ _ au.1.2) (hR _ _ au.2) he)
 ·simp only[aD]at au
  exact pl (YQ rfl au.1.1.1 au.1.1.2 (hR _ _ au.1.2) (hR _ _ au.2) he)
 ·simp[cW.jI]at hP
 ·exact pl (YR rfl (hR _ _ au) he)
 ·exact pl (YS rfl (hR _ _ au) AR he)
 ·simp only[aD]at au
  exact pl (YT rfl (hR _ _ au.1.1) (hR _ _ au.1.2) (hR _ _ au.2) he)
 ·split at au
  ·rename_i ha eY
   simp only[aD]at au;exact pl (YU rfl rfl ha eY au.1 (hR _ _ au.2) he)
  ·simp at au
 ·split at au
  ·rename_i ha
   simp only[aD]at au;exact pl (Gl (m:=true) rfl rfl ha (hR _ _ au.1) (hR _ _ au.2) he)
  ·simp at au
 ·split at au
  ·rename_i ha
   simp only[aD]at au;exact pl (Gl (m:=false) rfl rfl ha (hR _ _ au.1) (hR _ _ au.2) he)
  ·simp at au
 ·simp only[aD]at au
  obtain⟨h1,h2⟩:=au;split at h1
  ·rename_i fs hs
   split at h1
   ·rename_i fl hf
    simp only[aD,cP,Bool.not_eq_true']at h1;exact pl (YV rfl hs hf h1.1.1 h1.1.2 h1.2 (hR _ _ h2) he)
   ·simp at h1
  ·simp at h1
 ·simp only[aD]at au
  obtain⟨h1,h2⟩:=au;split at h1
  ·rename_i fs hs
   split at h1
   ·rename_i fl hf
    simp only[aD,cP]at h1;exact pl (YW rfl hs hf h1.1 h1.2 (hR _ _ h2) he)
   ·simp at h1
  ·simp at h1
 ·simp only[aD]at au
  obtain⟨⟨h1,h2⟩,h3⟩:=au;split at h1
  ·rename_i e ht
   exact pl (YX rfl ht h1 (hR _ _ h2) (hR _ _ h3) he)
  ·simp at h1
 ·simp only[aD]at au
  obtain⟨⟨h1,h2⟩,h3⟩:=au;split at h1
  ·rename_i m e ht
   simp only[aD,cP,eR]at h1;obtain⟨⟨rfl,hk⟩,_⟩:=h1;exact pl (YY rfl ht hk (hR _ _ h2) (hR _ _ h3) he)
  ·simp at h1
 ·exact pl (YZ rfl (hR _ _ au) he)
 ·exact X0 rfl hg (hR _ _ au) he
 ·simp[cW.jI]at hP
 ·simp[cW.jI]at hP
 ·simp[cW.nh]at yB
 ·simp[cW.nh]at yB
 ·simp[cW.jI]at hP
 ·simp[cW.jI]at hP
 ·simp only[aD]at au
  exact pl (M9 rfl au.1 (hR _ _ au.2) he)
 ·simp only[aD]at au
  exact pl (Y0 rfl au.1 au.2 hR he)
 ·simp only[aD]at au
  obtain⟨⟨h1,h2⟩,h3⟩:=au;split at h1
  ·rename_i m e ht
   simp only[aD,cP]at h1;obtain⟨rfl,hk⟩:=h1;exact pl (Y1 rfl ht hk (hR _ _ h2) (hR _ _ h3) he)
  ·simp at h1
 ·simp only[aD,cP]at au
  obtain⟨rfl,h2⟩:=au;exact pl (Y2 rfl (hR _ _ h2) he)
 ·simp only[aD,cP]at au
  obtain⟨⟨h1,rfl⟩,h2⟩:=au;exact pl (Y3 rfl h1 (lN hR h2) he)
 ·simp only[aD,cP]at au
  obtain⟨⟨rfl,h1⟩,h2⟩:=au;exact pl (Y4 rfl h1 (hR _ _ h2) he)
 ·simp only[aD]at au
  obtain⟨⟨⟨h1,h2⟩,h3⟩,h4⟩:=au;split at h1
  ·rename_i e ht
   simp only[aD,eR]at h1;exact X3 rfl ht h1.1.1 h1.1.2 h1.2 h2 h3 hg (lN hR h4) he
  ·simp at h1
 ·simp only[aD]at au
  obtain⟨⟨⟨h1,h2⟩,h3⟩,h4⟩:=au;split at h1
  ·rename_i e ht
   simp only[aD,eR]at h1;exact My rfl ht h1.1.1 h1.1.2 h1.2 h2 h3 hg (lN hR h4) he
  ·simp at h1
 ·simp[cW.jI]at hP
 ·simp[cW.jI]at hP
 ·simp only[aD]at au
  obtain⟨⟨⟨h1,h2⟩,h3⟩,h4⟩:=au;split at h1
  ·rename_i e ht
   exact pl (Y5 rfl ht h1 (hR _ _ h2) (hR _ _ h3) (hR _ _ h4) he)
  ·simp at h1
 ·simp only[aD]at au
  exact pl (Y6 rfl au.1 (hR _ _ au.2) he)
 ·simp[cW.jI]at hP
 ·simp[cW.jI]at hP
 ·simp[cW.jI]at hP
 ·simp only[aD,cP]at au
  obtain⟨⟨rfl,h1⟩,h2⟩:=au;exact XW dM rfl rfl h1 hg (lN hR h2) he
 ·simp[cW.jI]at hP
 ·simp[cW.jI]at hP
 ·simp[cW.jI]at hP
 ·simp only[aD]at au
  exact XX dM jz rfl rfl hg (hR _ _ au.1) (lN hR au.2) he
 ·simp[cW.jI]at hP
 ·simp only[aD]at au
  exact XY dM jz rfl rfl au.2 hg (hR _ _ au.1.1) (lN hR au.1.2) he
 ·simp[cW.jI]at hP
 ·split at au
  ·rename_i ha eY
   simp only[aD]at au;exact pl (YJ rfl rfl ha eY au.1 (hR _ _ au.2) he)
  ·simp at au
 ·simp[cW.jI]at hP
 ·simp[cW.jI]at hP
 ·simp[cW.jI]at hP
 ·simp[cW.jI]at hP
 ·simp[cW.jI]at hP
 ·simp[cW.jI]at hP
 ·simp only[aD]at au
  exact pl (Y7 rfl au.1 (hR _ _ au.2) he)
 ·simp only[aD]at au
  exact pl (Y8 rfl (hR _ _ au.1) (hR _ _ au.2) he)
 ·simp only[aD]at au
  exact pl (Y9 rfl (hR _ _ au.1) (hR _ _ au.2) he)
 ·simp only[aD]at au
  exact pl (Za rfl au.1 (hR _ _ au.2) he)
 ·simp[cW.jI]at hP
 ·simp[cW.jI]at hP
 ·simp[cW.jI]at hP
 ·simp[cW.jI]at hP
 ·simp only[aD]at au
  exact X1 rfl au.1 hg (hR _ _ au.2) he
 ·simp only[aD]at au
  exact pl (Zc rfl au.1.1 (hR _ _ au.1.2) (hR _ _ au.2) he)
 ·simp only[aD]at au
  exact pl (Zd rfl au.1 (hR _ _ au.2) he)
 ·simp only[aD]at au
  exact pl (Ze rfl (hR _ _ au.1) (hR _ _ au.2) he)
 ·simp only[aD]at au
  exact pl (Zg rfl au.1.1.1 au.1.1.2 (hR _ _ au.1.2) (hR _ _ au.2) he)
 ·simp only[aD]at au
  obtain⟨⟨⟨h1,h2⟩,h3⟩,h4⟩:=au;split at h1
  ·rename_i e ht
   have xA : ev ce [] nl ps r (.oP _ _ _ _)=some (x,p):=YM he;exact pl (HO (σ:=[]) rfl ht h1 (λb u B _ hu=>by simp[upto,al]at hu) (hR _ _ h2) h3 h4 hR xA)
  ·simp at h1
 ·simp only[aD,cP]at au
  obtain⟨⟨h1,h2⟩,h3⟩:=au;split at h1
  ·rename_i e ht
   simp only[aD]at h1;exact X5 rfl ht h1.1 h1.2 h2 h3 hg he
  ·simp at h1
 ·simp only[aD]at au
  obtain⟨⟨⟨h1,h2⟩,h3⟩,h4⟩:=au;split at h1
  ·rename_i e ht
   exact pl (Zh (a:=a) rfl ht h1 h2 h3 rfl (hR _ _ h4) he)
  ·simp at h1
 ·simp only[aD]at au
  exact pl (Zi rfl au.1.1.1 au.1.1.2 (hR _ _ au.1.2) (hR _ _ au.2) he)
 ·simp at au
theorem Zj{o:Oper}{x:AV}{p:Option aZ}(h:bF P o a w (dc C w x)/\p=none):bF P o a w (iU nl C w x p):=by
 obtain⟨h1,rfl⟩:=h;exact h1.mono λv w' h=>h.e
theorem opE{o:Oper}{oQ:cW}{x:AV}{p:Option aZ}(au:lM P R o.op oQ=true) (hW:oQ.kQ=false) (yB:oQ.nh=false) (dM:cz P ce) (jz:dZ P ce) (hg:Good C w)
  (uj:∀b u B,C.lim b u->fO σ b u=some B->∃id,C.own b u=some (B,id)) (hb:oQ.jI=false->(∀f as,oQ ≠ .can f as)->∀u,¬C.lim nl u) (BM:∀l,p=some (.news l)->∀b u,nl<=b->b<nl+l.length->¬C.lim b u)
  (vi:∀b u B cs,upto σ b u=some B->p=some (.grow b cs)->oH b ps=false->(∀n,u<n->¬C.lim b n)/\∀u' B' id', C.own b u' = some (B', id')->u' = u)
  (hR:∀x y,R x y=true->VR C w.heap (r y) (a.eval x)) (AR:r (.c (.int 0)) = .int 0) (he:ev ce σ nl ps r oQ=some (x,p)):bF P o a w (iU nl C w x p):=by
 by_cases hP:oQ.jI=true
 ·obtain⟨h1,rfl⟩:=opP au hP yB dM jz hg hR AR he
  exact h1.mono λv w' h=>h.e
 have WO : oQ.jI=false:=by simpa using hP
 have db:∀b u B,C.lim b u->upto σ b u=some B->∃id,C.own b u=some (B,id):=λb u B hl h=>uj b u B hl (Na h);have ni:=hb WO;clear hb;obtain⟨dst,op,type,pos,after,guard⟩:=o;have pl:∀{x' : AV} {p' : Option aZ},Plain P a.eval ⟨dst,op,type,pos,after,guard⟩ w C w.heap x' /\p' = none->bF P ⟨dst,op,type,pos,after,guard⟩ a w (iU nl C w x' p'):=λh=>by
  obtain⟨h1,rfl⟩:=h;exact(h1.does hg).mono λv w' h=>h.e
 simp only[lM]at au;split at au
 all_goals first
  |(exfalso;exact hP rfl)
  |(exfalso;simp[cW.kQ]at hW;done)
  |skip
 ·exact ME rfl au hg (ni (by simp)) he
 ·simp only[aD,Bool.or_eq_true]at au
  exact pl (Nb (a:=a) rfl rfl au.1.1 au.1.2 db (au.2.imp (λh=>⟨h.1,hR _ _ h.2⟩) (λh=>⟨h.1,hR _ _ h.2⟩)) he)
 ·simp only[aD]at au
  exact X6 rfl hg (ni (by simp)) (hR _ _ au.2) he
 ·simp only[aD]at au
  exact X7 rfl au.1 hg (ni (by simp)) he
 ·simp only[aD]at au
  exact pl (yC rfl au.1 hg db (hR _ _ au.2) he)
 ·simp only[aD]at au
  obtain⟨⟨⟨h1,h2⟩,h3⟩,h4⟩:=au;split at h1
  ·rename_i e ht
   simp only[aD,eR]at h1;exact X8 rfl ht h1.1.1 h1.1.2 h1.2 h2 h3 hg (ni (by simp)) (lN hR h4) he
  ·simp at h1
 ·simp only[aD]at au
  obtain⟨⟨⟨h1,h2⟩,h3⟩,h4⟩:=au;split at h1
  ·rename_i e ht
   exact pl (HO rfl ht h1 db (hR _ _ h2) h3 h4 hR he)
  ·simp at h1
 ·simp only[aD]at au
  obtain⟨⟨h1,h2⟩,h3⟩:=au;split at h1
  ·rename_i e ht
   simp only[aD]at h1;exact X9 rfl ht h1.1.1 h1.1.2 h1.2 hg (ni (by simp)) (hR _ _ h2) (hR _ _ h3) he
  ·simp at h1
 ·split at au
  ·rename_i ha eY
   simp only[aD]at au;obtain⟨⟨⟨h1,h2⟩,h3⟩,h4⟩:=au;split at h1
   ·rename_i e ht
    simp only[aD]at h1;exact Yq rfl rfl ha eY ht h2 h1.1.1 h1.1.2 h1.2 hg db (ni (by simp)) vi (hR _ _ h3) (hR _ _ h4) he
   ·simp at h1
  ·simp at au
 ·simp only[aD,cP]at au
  obtain⟨⟨rfl,h1⟩,h2⟩:=au;exact Zj (Mr dM rfl rfl h1 hg db (lN hR h2) he)
 ·simp only[aD,cP]at au
  obtain⟨⟨rfl,h1⟩,h2⟩:=au;exact YI dM rfl rfl h1 hg BM (lN hR h2) he
 ·exact Yb rfl hg (ni (by simp)) he
 ·simp only[aD,cP]at au
  obtain⟨⟨⟨h1,rfl⟩,h2⟩,h3⟩:=au;split at h1
  ·rename_i ht
   simp only[aD]at h1;exact pl (Nc rfl ht h1.1 h1.2 hg uj (hR _ _ h2) (hR _ _ h3) he)
  ·simp at h1
 ·split at au
  ·rename_i ha eY
   simp only[aD]at au;obtain⟨h1,h2⟩:=au;split at h1
   ·rename_i ht
    exact pl (Nd rfl rfl ha eY ht hg uj (hR _ _ h2) he)
   ·simp at h1
  ·simp at au
 ·simp only[aD]at au
  exact pl (MH rfl au.1 hg db (hR _ _ au.2) he)
 ·simp at au
end
end Ab
