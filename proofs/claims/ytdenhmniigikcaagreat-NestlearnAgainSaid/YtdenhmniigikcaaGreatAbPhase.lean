/- Memory, and each operation that makes, lengthens or turns blocks, is what the small language says. Condition: the callees answer as the interpreter says. Two more operations of Go's: the capacity of a nil slice, and clear. One operation of a phase, whatever it is. Condition: the callees answer as the interpreter says. Condition: none. -/
import Derived.Test.YtdenhmniigikcaaGreatAbM
import Derived.Great.BuildSlice
import Derived.Laws.CopyRow
import Derived.Laws.BytesString
import Derived.Lib.ConvBytes
import Derived.Laws.AppendOwn
set_option linter.all false
namespace Ab
open Go
variable{P:Program}
def bA (P:Program) (o:Oper) (a:Act) (w:World) (kC:Value->World->Prop):Prop:=
 ∀(K:Act->World->Prop) (Q:Exit->Act->World->Prop),(∀v w', kC v w' ->K (a.put o.dst v) w')->o.wp P a w K Q
theorem bA.val{o:Oper}{a:Act}{w w' : World}{v:Value}{kC:Value->World->Prop}(h:(execOp a.eval o).run P w = .ok (.value v) w') (hp:kC v w'):bA P o a w kC:=λK Q hk=>by
 unfold Oper.wp;rw[h];exact hk _ _ hp
theorem bA.skip{o:Oper}{a:Act}{w w' : World}{kC:Value->World->Prop}(h:(execOp a.eval o).run P w = .ok .skip w') (hp:kC undef w'):bA P o a w kC:=λK Q hk=>by
 unfold Oper.wp;rw[h];exact hk _ _ hp
theorem bA.call{o:Oper}{a:Act}{w:World}{f:FuncId}{args:Array Value}{kC:Value->World->Prop}(h:(execOp a.eval o).run P w = .ok (.enter f args) w)
  (hc:Calls P f args w λe w' =>∃v,e = .returned v/\kC v w'):bA P o a w kC:=λK Q hk=>by
 unfold Oper.wp;rw[h];show Calls P f args w _;exact hc.mono λe w' ⟨v,he,hp⟩=>by subst he;exact hk _ _ hp
theorem bA.mono{o:Oper}{a:Act}{w:World}{kC FH : Value->World->Prop}(h:bA P o a w kC) (hp:∀v w', kC v w' ->FH v w'):bA P o a w FH :=
 λK Q hk=>h K Q λv w' h' =>hk v w' (hp v w' h')
def ck (w:World) (o:Obj):World:={w with heap:=w.heap.push o}
theorem mu (w:World) (o:Obj){k:Nat}(h:k<w.heap.size):(ck w o).heap[k]? = w.heap[k]?:=by
 show(w.heap.push o)[k]? = _;rw[Array.getElem?_push,aa (by omega)]
theorem oq (w:World) (o:Obj):(ck w o).heap[w.heap.size]? = some o:=by
 show(w.heap.push o)[w.heap.size]? = _;simp
theorem xV (w:World) (el:TypeId) (cs:Array Value):(newRow el cs).run P w = .ok ⟨w.heap.size,0,none⟩ (ck w (.cells cs el)):=rfl
theorem Bb (w:World) (t:TypeId) (v:Value):(newVar t v).run P w = .ok ⟨w.heap.size,0,none⟩ (ck w (.cells v.cells t)):=rfl
theorem Good.grow{C:Ctx}{w w' : World}(hg:Good C w) (hs:w.heap.size<=w'.heap.size) (dt:∀k,k<w.heap.size->w'.heap[k]? = w.heap[k]?):Good C w' /\fO C w.heap C w'.heap:=by
 have ev:fO C w.heap C w'.heap:=by
  refine⟨λ_ h=>h,λk hk=>dt k (hg.I k hk),λ_ _ h=>h,λb u B' id _ ho=>⟨B', ho,rfl,rfl,λc el hc=>⟨c,?_,rfl⟩⟩⟩;rw[dt id (jd.1 hc).1];exact hc
 refine⟨⟨λk hk=>Nat.lt_of_lt_of_le (hg.I k hk) hs,hg.kR,λb u B id ho hl=>?_,hg.apart,λb u B id es ho hl=>hg.cZ ev ho hl (dt id (hg.lt ⟨b,u,B,ho,lB hl⟩)) (hg.maps b u B id es ho hl).1⟩,ev⟩;obtain⟨h1,c,el,h2,h3,h4⟩:=hg.live b u B id ho hl;refine⟨h1,c,el,by rw[dt id (jd.1 h2).1];exact h2,h3,λi x hi=>?_⟩
 obtain⟨y,g1,g2,g3⟩:=h4 i x hi;exact⟨y,g1,VR.mono ev _ _ g2,g3⟩
theorem Good.ou{C:Ctx}{w w' : World}(hg:Good C w) (hs:w.heap.size<=w'.heap.size) (dt:∀k,k<w.heap.size->w'.heap[k]? = w.heap[k]?) (I' : Nat->Prop) (h1:∀k,C.I k->I' k) (h2:∀k,I' k->k<w'.heap.size)
  (h3:∀k,I' k->C.I k\/w.heap.size<=k) (ho:w'.os=w.os) (ht:w'.tape=w.tape/\w.drawn<=w'.drawn) (GW:w'.output=w.output):Good {C with I:=I'} w' /\Step C w {C with I:=I'} w' :=by
 have ev:fO C w.heap {C with I:=I'} w'.heap:=by
  refine⟨h1,λk hk=>dt k (hg.I k hk),λ_ _ h=>h,λb u B' id _ ho=>⟨B', ho,rfl,rfl,λc el hc=>⟨c,?_,rfl⟩⟩⟩;rw[dt id (jd.1 hc).1];exact hc
 refine⟨⟨h2,hg.kR,λb u B id ho hl=>?_,hg.apart,λb u B id es ho hl=>hg.cZ ev ho hl (dt id (hg.lt ⟨b,u,B,ho,lB hl⟩)) (λhi=>(h3 id hi).elim (hg.maps b u B id es ho hl).1 (λh=>by have:=hg.lt ⟨b,u,B,ho,lB hl⟩;omega))⟩,⟨ev,hs,λk hk _=>dt k hk,λk hk=>.inl hk,λk hk=>(h3 k hk).elim .inl (λh=>.inr (.inr h)),ho,ht,GW⟩⟩
 obtain⟨g1,c,el,g2,g3,g4⟩:=hg.live b u B id ho hl;have aK:=(jd.1 g2).1;refine⟨λhi=>(h3 id hi).elim g1 (λh=>by omega),c,el,by rw[dt id aK];exact g2,g3,λi x hi=>?_⟩
 obtain⟨y,k1,k2,k3⟩:=g4 i x hi;exact⟨y,k1,VR.mono ev _ _ k2,k3⟩
theorem GX{C:Ctx}{w:World}(hg:Good C w) (c:Array Value) (el:TypeId):Good {C with I:=λk=>C.I k\/k=w.heap.size} (ck w (.cells c el))/\Step C w {C with I:=λk=>C.I k\/k=w.heap.size} (ck w (.cells c el)):=
 hg.ou (by simp[ck]) (λk hk=>mu w _ hk) _ (λk hk=>.inl hk) (λk hk=>hk.elim (λh=>by have:=hg.I k h;simp[ck];omega) (λh=>by simp[ck];omega))
  (λk hk=>hk.elim .inl (λh=>.inr (by omega))) rfl ⟨rfl,bw _⟩ rfl
def ar (C:Ctx) (b u:Nat) (e:ag×Nat):Ctx where
 I:=C.I
 own:=λb' u' =>if b' = b/\u' = u then some e else C.own b' u'
 lim:=λb' u' =>(b' = b/\u' = u)\/C.lim b' u'
theorem Bc{C:Ctx}{w:World}(hg:Good C w){b:Nat}(B:ag) (hb:¬C.lim b B.cells.length) (c:Array Value) (el:TypeId) (bR:B.st = .live) (hle:B.cells.length<=c.size)
  (hc:∀(i:Nat) x,B.cells[i]? = some x->∃y,c[i]? = some y/\VR C w.heap x y/\y.oneCell' = true) :
  Good (ar C b B.cells.length (B,w.heap.size)) (ck w (.cells c el))/\Step C w (ar C b B.cells.length (B,w.heap.size)) (ck w (.cells c el)):=by
 have ev:fO C w.heap (ar C b B.cells.length (B,w.heap.size)) (ck w (.cells c el)).heap:=by
  refine⟨λ_ h=>h,λk hk=>mu w _ (hg.I k hk),λ_ _ h=>.inr h,λb' u' B' id hl ho=>?_⟩;have bY:¬(b' = b/\u' = B.cells.length):=λ⟨e1,e2⟩=>hb (e1▸e2▸hl);simp only[ar,aa bY]at ho;refine⟨B', ho,rfl,rfl,λc' mg fW =>⟨c', ?_,rfl⟩⟩;rw[mu w _ (jd.1 fW).1];exact fW
 have aK:∀k,owned C k->k<w.heap.size:=λk hk=>hg.lt hk;refine⟨⟨λk hk=>by have:=hg.I k hk;simp[ck];omega,λb' u' B' id ho=>?_,λb' u' B' id ho hl=>?_,λb1 u1 B1 i1 b2 u2 B2 i2 h1 l1 h2 l2 bY=>?_,λb' u' B' id es ho hl=>?_⟩,
  ⟨ev,by simp[ck],λk hk _=>mu w _ hk,λk hk=>?_,λk hk=>.inl hk,rfl,⟨rfl,bw _⟩,rfl⟩⟩
 ·by_cases he:b' = b/\u' = B.cells.length
  ·simp only[ar,ab he]at ho
   simp at ho;obtain⟨rfl,rfl⟩:=ho;exact⟨.inl he,he.2,λh=>by rw[bR]at h;simp at h,by rw[bR];simp⟩
  ·simp only[ar,aa he]at ho
   obtain⟨k1,k2,k3,k4⟩:=hg.kR b' u' B' id ho;exact⟨.inr k1,k2,k3,k4⟩
 ·by_cases he:b' = b/\u' = B.cells.length
  ·simp only[ar,ab he]at ho
   simp at ho;obtain⟨rfl,rfl⟩:=ho;refine⟨λhi=>Nat.lt_irrefl _ (hg.I _ hi),c,el,oq w _,hle,λi x hi=>?_⟩;obtain⟨y,k1,k2,k3⟩:=hc i x hi;exact⟨y,k1,VR.mono ev _ _ k2,k3⟩
  ·simp only[ar,aa he]at ho
   obtain⟨k1,c', mg, k2,k3,k4⟩:=hg.live b' u' B' id ho hl;refine⟨k1,c', mg, by rw[mu w _ (jd.1 k2).1];exact k2,k3,λi x hi=>?_⟩
   obtain⟨y,j1,j2,j3⟩:=k4 i x hi;exact⟨y,j1,VR.mono ev _ _ j2,j3⟩
 ·by_cases e1:b1=b/\u1=B.cells.length<;>by_cases e2:b2=b/\u2=B.cells.length
  ·exact absurd (e1.1.trans e2.1.symm) bY
  ·simp only[ar,ab e1]at h1;simp only[ar,aa e2]at h2
   simp at h1;obtain⟨rfl,rfl⟩:=h1;have:=aK i2 ⟨b2,u2,B2,h2,l2⟩;omega
  ·simp only[ar,aa e1]at h1;simp only[ar,ab e2]at h2
   simp at h2;obtain⟨rfl,rfl⟩:=h2;have:=aK i1 ⟨b1,u1,B1,h1,l1⟩;omega
  ·simp only[ar,aa e1]at h1;simp only[ar,aa e2]at h2
   exact hg.apart b1 u1 B1 i1 b2 u2 B2 i2 h1 l1 h2 l2 bY
 ·by_cases he:b' = b/\u' = B.cells.length
  ·simp only[ar,ab he]at ho
   simp at ho;obtain⟨rfl,rfl⟩:=ho;rw[bR]at hl;simp at hl
  ·simp only[ar,aa he]at ho
   exact hg.cZ (C' :=ar C b B.cells.length (B,w.heap.size)) (w' :=ck w (.cells c el)) ev ho hl (mu w _ (aK id ⟨b', u', B', ho,lB hl⟩)) (hg.maps b' u' B' id es ho hl).1
 ·obtain⟨b', u', B', ho,hl⟩:=hk
  by_cases he:b' = b/\u' = B.cells.length
  ·simp only[ar,ab he]at ho
   simp at ho;right;omega
  ·simp only[ar,aa he]at ho
   exact .inl ⟨b', u', B', ho,hl⟩
theorem Xg{C:Ctx}{w:World}(hg:Good C w){b:Nat}(hb:¬C.lim b 0) :
  Good (ar C b 0 (⟨some 0,[],.map []⟩,w.heap.size)) (ck w (.map #[] 0))/\Step C w (ar C b 0 (⟨some 0,[],.map []⟩,w.heap.size)) (ck w (.map #[] 0)):=by
 have ev:fO C w.heap (ar C b 0 (⟨some 0,[],.map []⟩,w.heap.size)) (ck w (.map #[] 0)).heap:=by
  refine⟨λ_ h=>h,λk hk=>mu w _ (hg.I k hk),λ_ _ h=>.inr h,λb' u' B' id hl ho=>?_⟩;have bY:¬(b' = b/\u' = 0):=λ⟨e1,e2⟩=>hb (e1▸e2▸hl);simp only[ar,aa bY]at ho;refine⟨B', ho,rfl,rfl,λc' mg fW =>⟨c', ?_,rfl⟩⟩;rw[mu w _ (jd.1 fW).1];exact fW
 have aK:∀k,owned C k->k<w.heap.size:=λk hk=>hg.lt hk;refine⟨⟨λk hk=>by have:=hg.I k hk;simp[ck];omega,λb' u' B' id ho=>?_,λb' u' B' id ho hl=>?_,λb1 u1 B1 i1 b2 u2 B2 i2 h1 l1 h2 l2 bY=>?_,λb' u' B' id es ho hl=>?_⟩,
  ⟨ev,by simp[ck],λk hk _=>mu w _ hk,λk hk=>?_,λk hk=>.inl hk,rfl,⟨rfl,bw _⟩,rfl⟩⟩
 ·by_cases he:b' = b/\u' = 0
  ·simp only[ar,ab he]at ho
   simp at ho;obtain⟨rfl,rfl⟩:=ho;exact⟨.inl he,he.2,λh=>by simp at h,by simp⟩
  ·simp only[ar,aa he]at ho
   obtain⟨k1,k2,k3,k4⟩:=hg.kR b' u' B' id ho;exact⟨.inr k1,k2,k3,k4⟩
 ·by_cases he:b' = b/\u' = 0
  ·simp only[ar,ab he]at ho
   simp at ho;obtain⟨rfl,rfl⟩:=ho;simp at hl
  ·simp only[ar,aa he]at ho
   obtain⟨k1,c', mg, k2,k3,k4⟩:=hg.live b' u' B' id ho hl;refine⟨k1,c', mg, by rw[mu w _ (jd.1 k2).1];exact k2,k3,λi x hi=>?_⟩
   obtain⟨y,j1,j2,j3⟩:=k4 i x hi;exact⟨y,j1,VR.mono ev _ _ j2,j3⟩
 ·by_cases e1:b1=b/\u1=0<;>by_cases e2:b2=b/\u2=0
  ·exact absurd (e1.1.trans e2.1.symm) bY
  ·simp only[ar,ab e1]at h1;simp only[ar,aa e2]at h2
   simp at h1;obtain⟨rfl,rfl⟩:=h1;have:=aK i2 ⟨b2,u2,B2,h2,l2⟩;omega
  ·simp only[ar,aa e1]at h1;simp only[ar,ab e2]at h2
   simp at h2;obtain⟨rfl,rfl⟩:=h2;have:=aK i1 ⟨b1,u1,B1,h1,l1⟩;omega
  ·simp only[ar,aa e1]at h1;simp only[ar,aa e2]at h2
   exact hg.apart b1 u1 B1 i1 b2 u2 B2 i2 h1 l1 h2 l2 bY
 ·by_cases he:b' = b/\u' = 0
  ·simp only[ar,ab he]at ho
   simp at ho;obtain⟨rfl,rfl⟩:=ho;simp at hl;subst hl;exact⟨λhi=>Nat.lt_irrefl _ (hg.I _ hi),#[],0,oq w _,rfl⟩
  ·simp only[ar,aa he]at ho
   exact hg.cZ (C' :=ar C b 0 (⟨some 0,[],.map []⟩,w.heap.size)) (w' :=ck w (.map #[] 0)) ev ho hl (mu w _ (aK id ⟨b', u', B', ho,lB hl⟩)) (hg.maps b' u' B' id es ho hl).1
 ·obtain⟨b', u', B', ho,hl⟩:=hk
  by_cases he:b' = b/\u' = 0
  ·simp only[ar,ab he]at ho
   simp at ho;right;omega
  ·simp only[ar,aa he]at ho
   exact .inl ⟨b', u', B', ho,hl⟩
end Ab
set_option linter.all false
namespace Ab
open Go
variable{P:Program}
def cx (P:Program) (ce:CE):Prop:=
 ∀f args σ r bp, ce f args σ=some (r,bp)->∀(ids:Nat->Nat) (I:Nat->Prop) (w:World) (vs:List Value),Good (af σ ids I) w->cd (af σ ids I) w.heap args vs->
  Calls P f vs.toArray w λe w' =>∃v aJ I', e = .returned v/\Good (af bp aJ I') w' /\VR (af bp aJ I') w'.heap r v/\Step (af σ ids I) w (af bp aJ I') w'
def da (C:Ctx) (w:World) (x:AV) (v:Value) (w' : World):Prop:=
 ∃I', Good {C with I:=I'} w' /\Step C w {C with I:=I'} w' /\VR {C with I:=I'} w'.heap x v
theorem da.same{C:Ctx}{w:World}{x:AV}{v:Value}(hg:Good C w) (h:VR C w.heap x v):da C w x v w:=⟨C.I,hg,Step.refl _ _,h⟩
theorem LC{C:Ctx}{w:World}(hg:Good C w) (ids:Nat->Nat):Good (af [] ids C.I) w:=
 ⟨hg.I,λb u B id h=>by simp[af,ak]at h,λb u B id h=>by simp[af,ak]at h,λb u B id b' u' B' id' h=>by simp[af,ak]at h,λb u B id es h=>by simp[af,ak]at h⟩
theorem nm{ids:Nat->Nat}{I:Nat->Prop}{k:Nat}:¬owned (af [] ids I) k:=λ⟨b,u,B,h,_⟩=>by simp[af,ak]at h
theorem xW{ce:CE}(dM:cx P ce){f:Nat}{args:List AV}{x:AV}(h:iZ ce f args=some x){C:Ctx}{w:World}(hg:Good C w){vs:List Value}(hv:cd C w.heap args vs) :
  Calls P f vs.toArray w λe w' =>∃v,e = .returned v/\da C w x v w' :=by
 unfold iZ at h;split at h<;>try(simp at h;done)
 rename_i hn;cases hc:ce f (args.map wk) []with
 |none=>simp[hc]at h
 |some rs=>
  obtain⟨v0,bp⟩:=rs;simp only[hc]at h;have qC:cd (af [] (λ_=>0) C.I) w.heap (args.map wk) vs:=(cd.free (show ow C w.heap (af [] (λ_=>0) C.I) w.heap from⟨λ_ h=>h,λ_ _=>rfl⟩) _ _ hn hv).wk;refine(dM f _ [] v0 bp hc (λ_=>0) C.I w vs (LC hg _) qC).mono ?_;rintro e w' ⟨v,aJ, I', rfl,xo,hr,hs⟩;refine⟨v,rfl,?_⟩
  let I2:Nat->Prop:=λk=>I' k\/owned (af bp aJ I') k
  have pH:=LD (C2:={C with I:=I2}) (λb u B _ hb=>⟨_,lC aJ I' hb⟩) xo (fr:=false) ⟨λ_ k hk=>.inl hk,λk hk=>.inr hk⟩ h hr
  obtain⟨h1,h2⟩:=hg.ou hs.size (λk hk=>hs.frame k hk nm) I2 (λk hk=>.inl (hs.ev.aE k hk)) (λk hk=>hk.elim (xo.I k) xo.lt)
   (λk hk=>hk.elim (λh=>(hs.gA k h).elim .inl (λh=>h.elim (λh=>absurd h nm) .inr)) (λh=>(hs.fX k h).elim (λh=>absurd h nm) .inr)) hs.os hs.tape hs.output
  exact⟨I2,h1,h2,pH⟩
theorem Xh{ce:CE}(dM:cx P ce){σ:List ag}{f:Nat}{args u7 : List AV}{v0 x:AV}{bp : List ag}(h1:bV (view σ false vd) args=some u7) (h2:ce f u7 []=some (v0,bp)) (h3:cv bp true v0=some x)
  {C:Ctx} {w:World} (hg:Good C w) (dg:∀b u B,C.lim b u->upto σ b u=some B->∃id,C.own b u=some (B,id)) {vs:List Value} (hv:cd C w.heap args vs) :
  Calls P f vs.toArray w λe w' =>∃v,e = .returned v/\da C w x v w' :=by
 let I0:Nat->Prop:=λk=>C.I k\/owned C k
 have LF:Good (af [] (λ_=>0) I0) w:=
  ⟨λk hk=>hk.elim (hg.I k) hg.lt,λb u B id h=>by simp[af,ak]at h,λb u B id h=>by simp[af,ak]at h,λb u B id b' u' B' id' h=>by simp[af,ak]at h,λb u B id es h=>by simp[af,ak]at h⟩
 have qC:cd (af [] (λ_=>0) I0) w.heap u7 vs:=
  (xX (λx y v hx hv=>Bd (C2:=af [] (λ_=>0) I0) dg hg (fr:=false) ⟨λ_ k hk=>.inl hk,λk hk=>.inr hk⟩ vd x y v hx hv) h1 hv).2
 refine(dM f u7 [] v0 bp h2 (λ_=>0) I0 w vs LF qC).mono ?_;rintro e w' ⟨v,aJ, I', rfl,xo,hr,hs⟩;refine⟨v,rfl,?_⟩
 let I2:Nat->Prop:=λk=>C.I k\/owned (af bp aJ I') k
 have pH:=LD (C2:={C with I:=I2}) (λb u B _ hb=>⟨_,lC aJ I' hb⟩) xo (fr:=true) ⟨λh=>by simp at h,λk hk=>.inr hk⟩ h3 hr
 obtain⟨g1,g2⟩:=hg.ou hs.size (λk hk=>hs.frame k hk nm) I2 (λk hk=>.inl hk) (λk hk=>hk.elim (λh=>Nat.lt_of_lt_of_le (hg.I k h) hs.size) xo.lt)
  (λk hk=>hk.elim .inl (λh=>(hs.fX k h).elim (λh=>absurd h nm) .inr)) hs.os hs.tape hs.output
 exact⟨I2,g1,g2,pH⟩
section
variable{a:Act}{r:Rf->AV}{w:World}{C:Ctx}{R:Operand->Rf->Bool}{ce:CE}{σ:List ag}{nl:Nat}{ps:List aX}
theorem Plain.does{o:Oper}{x:AV}(hg:Good C w) (h:Plain P a.eval o w C w.heap x):bA P o a w (da C w x):=by
 obtain⟨v,h1,h2⟩:=h;exact bA.val h1 (da.same hg h2)
theorem xY{f:Nat}(h:cJ P f=true) (args:Array Value) (w:World):(callFunc f args).run P w = .ok (.enter f args) w:=by
 unfold cJ at h;cases hf:P.funcs[f]? with
 |none=>simp[hf]at h
 |some fn=>
  simp[hf]at h;simp only[callFunc,aL,program,Sem.run,aR,hf];rw[aa (by simpa using h.2)]
  cases hb:fn.body with
  |none=>simp[hb]at h
  |some b=>simp
theorem Be{o:Oper}{ca:Call}{f:Nat}(ho:o.op = .call ca) (hc:ca.callee = .value (.func f)) (hb:cJ P f=true) (w:World) :
  (execOp a.eval o).run P w = .ok (.enter f (ca.args.toList.map a.eval).toArray) w:=by
 have:ca.args.map a.eval=(ca.args.toList.map a.eval).toArray:=by rw[<-Array.toList_inj];simp
 simp only[execOp,ho,resolve,hc,aL,Act.eval,Deferred.ofValue,bh,aR,invoke];simp only[Array.append_empty,Array.empty_append];rw[show Array.map a.eval ca.args=(ca.args.toList.map a.eval).toArray from this];exact xY hb _ w
theorem Xi{o:Oper}{ca:Call}{f:Nat}{ys:List Rf}{x:AV}{p:Option aX}(dM:cx P ce) (ho:o.op = .call ca) (hc:ca.callee = .value (.func f)) (hb:cJ P f=true) (hg:Good C w)
  (hx:cd C w.heap (ys.map r) (ca.args.toList.map a.eval)) (he:ev ce σ nl ps r (.cu f ys)=some (x,p)):bA P o a w (da C w x)/\p=none:=by
 simp only[ev]at he;cases hp:iZ ce f (ys.map r)with
 |none=>simp[hp]at he
 |some x' =>
  simp[hp]at he;obtain⟨rfl,rfl⟩:=he;exact⟨bA.call (Be ho hc hb w) (xW dM hp hg hx),rfl⟩
theorem LG{o:Oper}{ca:Call}{f:Nat}{ys:List Rf}{x:AV}{p:Option aX}(dM:cx P ce) (ho:o.op = .call ca) (hc:ca.callee = .value (.func f)) (hb:cJ P f=true) (hg:Good C w)
  (dg:∀b u B,C.lim b u->upto σ b u=some B->∃id,C.own b u=some (B,id))
  (hx:cd C w.heap (ys.map r) (ca.args.toList.map a.eval)) (he:ev ce σ nl ps r (.tO f ys)=some (x,p)):bA P o a w (da C w x)/\p=none:=by
 simp only[ev]at he;cases h1:bV (λx=>view σ false vd (r x)) ys with
 |none=>simp[h1]at he
 |some u7 =>
  simp only[h1]at he;cases h2:ce f u7 []with
  |none=>simp[h2]at he
  |some q=>
   obtain⟨v0,bp⟩:=q;simp only[h2]at he;cases h3:cv bp true v0 with
   |none=>simp[h3]at he
   |some x' =>
    simp[h3]at he;obtain⟨rfl,rfl⟩:=he;have Bg : bV (view σ false vd) (ys.map r)=some u7 :=by
     rw[<-h1];clear h1 h2 hx
     induction ys with
     |nil=>rfl
     |cons y ys ih=>simp only[db,bV,ih]
    exact⟨bA.call (Be ho hc hb w) (Xh dM Bg h2 h3 hg dg hx),rfl⟩
def dY (P:Program) (ce:CE):Prop:=∀f args σ r,ce f args σ=some r->cJ P f=true
theorem LH{o:Oper}{ca:Call}{f:Nat}{x:Operand}{vs:List Value}(ho:o.op = .call ca) (hc:ca.callee = .value x) (hx:a.eval x = .func (.func f) #[] vs.toArray) (hb:cJ P f=true) (w:World) :
  (execOp a.eval o).run P w = .ok (.enter f (ca.args.toList.map a.eval++vs).toArray) w:=by
 have:Array.map a.eval ca.args++vs.toArray=(ca.args.toList.map a.eval++vs).toArray:=by rw[<-Array.toList_inj];simp
 simp only[execOp,ho,resolve,hc,aL,hx,Deferred.ofValue,bh,aR,invoke];simp only[Array.empty_append];rw[this];exact xY hb _ w
theorem Xj{o:Oper}{ca:Call}{x0:Operand}{y:Rf}{ys:List Rf}{x:AV}{p:Option aX}(dM:cx P ce) (jw:dY P ce) (ho:o.op = .call ca) (hc:ca.callee = .value x0) (hg:Good C w)
  (h0:VR C w.heap (r y) (a.eval x0)) (hx:cd C w.heap (ys.map r) (ca.args.toList.map a.eval)) (he:ev ce σ nl ps r (.lD y ys)=some (x,p)):bA P o a w (da C w x)/\p=none:=by
 simp only[ev]at he;cases hy:r y<;>simp only[hy]at he<;>try(simp at he;done)
 rename_i f aI;cases hp:iZ ce f (ys.map r++aI)with
 |none=>simp[hp]at he
 |some x' =>
  simp[hp]at he;obtain⟨rfl,rfl⟩:=he;rw[hy]at h0;unfold VR at h0;obtain⟨vs,e,hl⟩:=h0;have hb:cJ P f=true:=by
   unfold iZ at hp;split at hp<;>try(simp at hp;done)
   cases fW : ce f ((ys.map r++aI).map wk) []with
   |none=>simp only[fW]at hp;simp at hp
   |some q=>exact jw _ _ _ _ fW
  exact⟨bA.call (LH ho hc e hb w) (xW dM hp hg (hx.append hl)),rfl⟩
theorem LI{m:String}:∀{gB:List (Nat×Nat)}{t f:Nat},mW P m gB=true->eK gB t=some f->∀(w:World) (v:Value),(method (P.types.size+Made.depth) t v m).run P w = .ok (f,v) w
 | [],t,f,_,h=>by simp[eK]at h
 |(t', f')::rest,t,f,ht,h=>by
  simp only[mW,aD]at ht;simp only[eK]at h
  by_cases e:t' = t
  ·subst e
   simp at h;subst h;intro w v;obtain⟨n,hn⟩:∃n,P.types.size+Made.depth=n+1:=⟨P.types.size+Made.depth-1,(by have:0<Made.depth:=(by decide);omega)⟩
   rw[hn];have h1:=ht.1;cases hi:P.info? t' with
   |none=>simp[hi]at h1
   |some i=>
    simp only[hi]at h1;cases hm:i.methods.find? (λx=>x.name==m)with
    |none=>simp[hm]at h1
    |some x=>
     simp only[hm,aD]at h1;obtain⟨hp,h1⟩:=h1;have hpe:x.path = #[]:=by simpa using hp
     cases hf:x.func with
     |none=>simp[hf]at h1
     |some gp=>
      obtain⟨g,ptr⟩:=gp;simp only[hf,aD,cL]at h1;obtain⟨rfl,h1⟩:=h1;cases hu:P.underlying t' with
      |none=>simp[hu]at h1
      |some d=>
       simp only[hu]at h1;have hr:(receiverAt t' (.val v) ptr (if x.path.isEmpty then some ((m.splitOn ".").getLastD m)else none)).run P w = .ok v w:=by
        unfold receiverAt;simp only[aL,run_underlying hu,aR];cases d<;>cases ptr<;>simp_all [Place.get]
       simp only[method,aL,run_typeInfo w hi,aR,hm,hpe,follow,bh,hf];rw[hpe]at hr;simp only[hr,aR,bh]
  ·have e' : (t' == t)=false:=by simpa using e
   simp only[e', eE,eG]at h;exact LI ht.2 h
theorem LJ{o:Oper}{ca:Call}{x0:Operand}{m:String}{gB:List (Nat×Nat)}{t f:Nat}{v:Value}(ho:o.op = .call ca) (hc:ca.callee = .invoke x0 m) (hx:a.eval x0 = .iface t v)
  (ht:mW P m gB=true) (hl:eK gB t=some f) (hb:cJ P f=true) (w:World) :
  (execOp a.eval o).run P w = .ok (.enter f (v::ca.args.toList.map a.eval).toArray) w:=by
 have hm:=LI ht hl w v;have h1:(#[Value.iface t v]++Array.map a.eval ca.args)[0]? = some (.iface t v):=by rw[kS (by show 0<1;omega)];rfl
 have h2:(#[Value.iface t v]++Array.map a.eval ca.args).extract 1 (#[Value.iface t v]++Array.map a.eval ca.args).size=Array.map a.eval ca.args:=by
  rw[<-Array.toList_inj];simp;rw[gl (by simp)]
 have h3 : #[v]++Array.map a.eval ca.args=(v::ca.args.toList.map a.eval).toArray:=by rw[<-Array.toList_inj];simp
 simp only[execOp,ho,resolve,hc,aL,bh,aR,invoke,hx,h1,h2,callMethod,program,Sem.run,hm];rw[h3];exact xY hb _ w
theorem Xk{o:Oper}{ca:Call}{x0:Operand}{m:String}{gB:List (Nat×Nat)}{y:Rf}{ys:List Rf}{x:AV}{p:Option aX}(dM:cx P ce) (jw:dY P ce) (ho:o.op = .call ca) (hc:ca.callee = .invoke x0 m) (ht:mW P m gB=true) (hg:Good C w)
  (h0:VR C w.heap (r y) (a.eval x0)) (hx:cd C w.heap (ys.map r) (ca.args.toList.map a.eval)) (he:ev ce σ nl ps r (.inv y gB ys)=some (x,p)):bA P o a w (da C w x)/\p=none:=by
 simp only[ev]at he;cases hy:r y<;>simp only[hy]at he<;>try(simp at he;done)
 rename_i t q;cases hl:eK gB t with
 |none=>simp[hl]at he
 |some f=>
  simp only[hl]at he;cases hp:iZ ce f (q::ys.map r)with
  |none=>simp[hp]at he
  |some x' =>
   simp[hp]at he;obtain⟨rfl,rfl⟩:=he;rw[hy]at h0;unfold VR at h0;obtain⟨v,e,hq⟩:=h0;have hb:cJ P f=true:=by
    unfold iZ at hp;split at hp<;>try(simp at hp;done)
    cases fW : ce f ((q::ys.map r).map wk) []with
    |none=>simp only[fW]at hp;simp at hp
    |some q=>exact jw _ _ _ _ fW
   exact⟨bA.call (LJ ho hc e ht hl hb w) (xW dM hp hg ⟨v,_,rfl,hq,hx⟩),rfl⟩
theorem Xl{x:AV}{v:Value}(hg:Good C w) (hn:aN x=true) (hv:VR C w.heap x v) (t:TypeId):da C w (.bd x) (.pointer (some ⟨w.heap.size,0,none⟩)) (ck w (.cells v.cells t)):=by
 obtain⟨h1,h2⟩:=GX hg v.cells t;refine⟨_,h1,h2,?_⟩;unfold VR;exact⟨hn,w.heap.size,0,v.cells,t,(0,0),v,rfl,.inr rfl,oq w _,VR.mono h2.ev _ _ hv,λj hj=>by simp⟩
theorem Xm{o:Oper}{t:TypeId}{x0:Operand}{y:Rf}{x:AV}{p:Option aX}(ho:o.op = .box t x0) (hg:Good C w) (h0:VR C w.heap (r y) (a.eval x0)) (he:ev ce σ nl ps r (.iD y)=some (x,p)) :
  bA P o a w (da C w x)/\p=none:=by
 simp only[ev]at he;split at he<;>simp at he
 rename_i hn;obtain⟨rfl,rfl⟩:=he;refine⟨bA.val (v:=.pointer (some ⟨w.heap.size,0,none⟩)) (w' :=ck w (.cells (a.eval x0).cells t)) ?_ (Xl hg hn h0 t),rfl⟩;simp only[execOp,ho,Instr.box,aL,Bb,aR,bh]
theorem Xn{o:Oper}{s d:TypeId}{x0:Operand}{y:Rf}{x:AV}{p:Option aX}(ho:o.op = .convert s d x0)
  (ht:(match P.underlying s,P.underlying d with|some .string,some (.slice e)=>(match P.underlying e with|some (.int .u8)=>true|_=>false)|_,_=>false)=true)
  (hg:Good C w) (h0:VR C w.heap (r y) (a.eval x0)) (he:ev ce σ nl ps r (.KM y)=some (x,p)):bA P o a w (da C w x)/\p=none:=by
 have hu:∃e,P.underlying s=some .string/\P.underlying d=some (.slice e)/\P.underlying e=some (.int .u8):=by
  split at ht
  ·rename_i e h1 h2
   split at ht
   ·rename_i h3;exact⟨e,h1,h2,h3⟩
   ·simp at ht
  ·simp at ht
 obtain⟨e,hs,hd,sg⟩:=hu;simp only[ev]at he;cases hy:r y<;>simp only[hy]at he<;>try(simp at he;done)
 rename_i t;simp at he;obtain⟨hz,hp⟩:=he;subst hz hp;rw[hy]at h0;unfold VR at h0;have cD:=Go.Lib.run_convert_string_bytes (P:=P) w s d e ⟨t.toArray⟩ hs hd sg;have mh:(⟨t.toArray⟩:ByteArray).size=t.length:=by show t.toArray.size=_;simp
 rw[mh]at cD;have hb:=Go.Lib.bytesWorld_size w e ⟨t.toArray⟩;have nq:=Go.Lib.bytesWorld_at_new w e ⟨t.toArray⟩;have hold:=λk hk=>Go.Lib.bytesWorld_at_old w e ⟨t.toArray⟩ k hk;have jM:∀(i:Nat) b,t[i]? = some b->(Go.Lib.bytesCells w e ⟨t.toArray⟩)[i]? = some (.int .u8 (b.toNat:Int)):=λi b hi=>by
  have aK:=(cT.1 hi).1;unfold Go.Lib.bytesCells;rw[kS (by simpa using aK)]
  simp[hi]
 have pZ:t.length<=grownCap w t.length 0 e:=grownCap_ge w _ _ _;obtain⟨g1,g2⟩:=hg.ou (w' :=Go.Lib.bytesWorld w e ⟨t.toArray⟩) (by omega) hold (λk=>C.I k\/k=w.heap.size) (λk hk=>.inl hk)
  (λk hk=>hk.elim (λh=>by have:=hg.I k h;omega) (λh=>by omega)) (λk hk=>hk.elim .inl (λh=>.inr (by omega))) rfl ⟨rfl,Nat.le_succ _⟩ rfl
 refine⟨bA.val (v:=.slice (some ⟨w.heap.size,0,none⟩) t.length (grownCap w t.length 0 e)) (w' :=Go.Lib.bytesWorld w e ⟨t.toArray⟩) ?_ ⟨_,g1,g2,?_⟩,rfl⟩
 ·simp only[execOp,ho,h0,aL,cD,aR,bh]
 ·unfold VR
  refine⟨Bh λq hq=>?_,.inr ⟨w.heap.size,0,grownCap w t.length 0 e,1,_,e,_,?_,?_,.inr rfl,nq,je.of λi q hi=>?_⟩⟩
  ·obtain⟨b,_,rfl⟩:=cR.1 hq;rfl
  ·simp
  ·simpa using pZ
  ·rw[ie]at hi
   obtain⟨b,h1,rfl⟩:=nu.1 hi;refine⟨.int .u8 (b.toNat:Int),Bj,rfl,λj hj=>?_⟩;obtain rfl:j=0:=by omega
   rw[show 0+i*1+0=i by omega,jM i b h1];rfl
end
end Ab
set_option linter.all false
namespace Ab
open Go
variable{P:Program}
section
variable{a:Act}{ρ:Operand->Value}{r:Rf->AV}{w:World}{C:Ctx}{R:Operand->Rf->Bool}{ce:CE}{σ:List ag}{nl:Nat}{ps:List aX}
theorem LL (sz:Nat):∀(vs:List Value) (k:Nat) (c:Array Value),(∀v,v∈vs->v.cells.size=sz)->(k+vs.length)*sz<=c.size->
  ∃c', Instr.fill (λi=>some (i*sz,sz)) c ((vs.zipIdx k).map λp=>(p.2,p.1))=some c' /\c'.size=c.size/\(∀i,i<k*sz->c'[i]? = c[i]?)/\
   ∀(i:Nat) v,vs[i]? = some v->∀j,j<sz->c'[(k+i)*sz+j]? = v.cells[j]?
 | [],k,c,_,_=>⟨c,rfl,rfl,λ_ _=>rfl,λi v h=>by simp at h⟩
 |v::vs,k,c,hv,hb=>by
  have hs:=hv v (by simp)
  have hk:k*sz+sz<=c.size:=by
   have:(k+1)*sz<=(k+(v::vs).length)*sz:=jR _ (by simp)
   rw[fx]at this;omega
  simp only[List.zipIdx_cons,db,Instr.fill];rw[aa (by rw[hs];simp;omega)]
  have hf:∀i,(v.cells.zipIdx.foldl (λcs (c,j)=>cs.setIfInBounds (k*sz+j) c) c).size=c.size/\(v.cells.zipIdx.foldl (λcs (c,j)=>cs.setIfInBounds (k*sz+j) c) c)[i]? = if k*sz<=i/\i<k*sz+v.cells.size then v.cells[i-k*sz]? else c[i]?:=λi=>by
   have:=GY (k*sz) v.cells.toList 0 c i (by simp;omega)
   rw[<-Array.foldl_toList];simp only[Array.toList_zipIdx];simpa using this
  obtain⟨c', h1,h2,h3,h4⟩:=LL sz vs (k+1) (v.cells.zipIdx.foldl (λcs (c,j)=>cs.setIfInBounds (k*sz+j) c) c) (λu hu=>hv u (by simp[hu])) (by
   rw[(hf 0).1];have:(k+(v::vs).length)=k+1+vs.length:=by simp;omega
   rwa [this]at hb)
  refine⟨c', h1,by rw[h2,(hf 0).1],λi hi=>?_,λi u hu j hj=>?_⟩
  ·rw[h3 i (by rw[fx];omega),(hf i).2,aa (by omega)]
  ·cases i with
   |zero=>
    simp at hu;subst hu;simp only[Nat.add_zero];rw[h3 _ (by rw[fx];omega),(hf _).2,ab (by omega)]
    congr 1;omega
   |succ i=>
    have:=h4 i u (by simpa using hu) j hj
    rw[show k+(i+1)=k+1+i by omega]
    exact this
theorem ua{st:Nat}:∀{l:List AV},fitAll st l=true->∀x∈l,x.cells.length=st/\gO x
 | [],_,x,hx=>by simp at hx
 |y::l,h,x,hx=>by
  simp only[fitAll,aD,cL]at h;rcases cB.1 hx with rfl|hx
  ·exact⟨h.1.1,Bk h.1.2⟩
  ·exact ua h.2 x hx
theorem LN:∀{k:Nat}{ps:List (Nat×Operand)},fY k ps=true->∀(f:Operand->Value),ps.map (λp=>(p.1,f p.2))=((ps.map λp=>f p.2).zipIdx k).map λp=>(p.2,p.1)
 |_,[],_,_=>rfl
 |k,(i,x)::r,h,f=>by
  simp only[fY,aD,cL]at h;simp only[db,List.zipIdx_cons,h.1];rw[LN h.2 f]
theorem cd.get'{H:Array Obj}:∀{l:List AV}{vs:List Value},cd C H l vs->∀(i:Nat) v,vs[i]? = some v->∃x,l[i]? = some x/\VR C H x v
 | [],vs,h,i,v,hi=>by rw[show vs=[]from h]at hi;simp at hi
 |x::l,_,⟨v0,s,e,hx,hr⟩,0,v,hi=>by rw[e]at hi;simp at hi;subst hi;exact⟨x,rfl,hx⟩
 |x::l,_,⟨v0,s,e,hx,hr⟩,i+1,v,hi=>by rw[e]at hi;exact cd.get' hr i v (by simpa using hi)
theorem GZ{t e:TypeId}{n st:Nat}{xs:Array (Nat×Operand)}{ys:List Rf}(ht:aF P t=some e) (bR:bW P e st=true) (hz:cV P e=true) (hb:n*st<=2^24) (hn:(n==xs.size)=true) (ho:fY 0 xs.toList=true)
  (hx:cd C w.heap (ys.map r) ((xs.toList.map (·.2)).map ρ)) (hf:fitAll st (ys.map r)=true) :
  ∃c:Array Value,(Instr.buildSlice t n (xs.map λ(i,x)=>(i,ρ x))).run P w = .ok (.slice (some ⟨w.heap.size,0,none⟩) ys.length ys.length) (ck w (.cells c e))/\c.size=ys.length*st/\
   ∀(i:Nat) x,(ys.map r)[i]? = some x->∃v,VR C w.heap x v/\v.cells.size=st/\gO x/\∀j,j<st->c[i*st+j]? = v.cells[j]?:=by
 have hlen:ys.length=n:=by
  have h1:=cd.length hx;simp at h1 hn;omega
 have Bl:(xs.map λ(i,x)=>(i,ρ x)).toList=(((xs.toList.map (·.2)).map ρ).zipIdx 0).map λp=>(p.2,p.1):=by
  have:=LN ho ρ;simp only[Array.toList_map,List.map_map]at this ⊢;exact this
 have mh:∀v,v∈(xs.toList.map (·.2)).map ρ->v.cells.size=st:=λv hv=>by
  obtain⟨i,hi⟩:=List.getElem?_of_mem hv;obtain⟨x,h1,h2⟩:=cd.get' hx i v hi;obtain⟨h3,h4⟩:=ua hf x (qU h1);rw[VR.size h4 h2,h3]
 obtain⟨z,Xo⟩:∃z,(zeroValue e).run P w = .ok z w:=by
  unfold cV at hz;cases hi:P.info? e with
  |none=>simp[hi]at hz
  |some i=>
   simp only[hi]at hz;cases G0:i.zero with
   |none=>simp[G0]at hz
   |some z=>exact⟨z,by simp only[zeroValue,aL,run_typeInfo w hi,aR,G0,bh]⟩
 have hu:=jS ht w;have FI:=iP bR w;have sh:((xs.toList.map (·.2)).map ρ).length=n:=by have:=cd.length hx;simp at this;simp;omega
 -- whatever the zero cells are
 have key:∀zc:Array Value,∃c,Instr.fill (λi=>some (i*st,st)) ((Array.range (n*st)).map λq=>zc[q%zc.size]!) (xs.map λ(i,x)=>(i,ρ x)).toList=some c/\c.size=ys.length*st/\
   ∀(i:Nat) x,(ys.map r)[i]? = some x->∃v,VR C w.heap x v/\v.cells.size=st/\gO x/\∀j,j<st->c[i*st+j]? = v.cells[j]?:=λzc=>by
  obtain⟨c,h1,h2,_,h4⟩:=LL st ((xs.toList.map (·.2)).map ρ) 0 ((Array.range (n*st)).map λq=>zc[q%zc.size]!) mh (by rw[sh];simp)
  refine⟨c,by rw[Bl];exact h1,by rw[h2,hlen];simp,λi x hi=>?_⟩
  obtain⟨v,g1,g2⟩:=hx.get i x hi;obtain⟨h5,h6⟩:=ua hf x (qU hi);exact⟨v,g2,by rw[VR.size h6 g2,h5],h6,λj hj=>by have:=h4 i v g1 j hj;simpa using this⟩
 by_cases h0:n*st=0
 ·obtain⟨c,h1,h2,h3⟩:=key #[]
  refine⟨c,?_,h2,h3⟩;simp only[Instr.buildSlice,aL,hu,FI,aR];rw[aa (by omega)]
  simp only[h0,dC,aL,bh,aR];simp only[h0]at h1;simp only[h1,xV,aL,bh,aR,hlen]
 ·obtain⟨c,h1,h2,h3⟩:=key z.cells
  refine⟨c,?_,h2,h3⟩;simp only[Instr.buildSlice,aL,hu,FI,aR];rw[aa (by omega)]
  simp only[h0,eG,aL,Xo, bh,aR];simp only[h1,xV,aL,bh,aR,hlen]
theorem Xp{o:Oper}{t e:TypeId}{n st:Nat}{xs:Array (Nat×Operand)}{ys:List Rf}{x:AV}{p:Option aX}(ho:o.op = .buildSlice t n xs) (ht:aF P t=some e) (bR:bW P e st=true) (hz:cV P e=true) (hb:n*st<=2^24) (hn:(n==xs.size)=true) (LO:fY 0 xs.toList=true)
  (hg:Good C w) (hx:cd C w.heap (ys.map r) ((xs.toList.map (·.2)).map a.eval)) (he:ev ce σ nl ps r (.bX ys st)=some (x,p)):bA P o a w (da C w x)/\p=none:=by
 simp only[ev]at he;split at he<;>simp at he
 rename_i hc;obtain⟨rfl,rfl⟩:=he;simp only[aD]at hc;obtain⟨c,h1,h2,h3⟩:=GZ ht bR hz hb hn LO hx hc.2;refine⟨bA.val (v:=.slice (some ⟨w.heap.size,0,none⟩) ys.length ys.length) (w' :=ck w (.cells c e)) ?_ ?_,rfl⟩
 ·simp only[execOp,ho,aL,h1,aR,bh]
 ·obtain⟨g1,g2⟩:=GX hg c e
  refine⟨_,g1,g2,?_⟩;unfold VR;refine⟨hc.1,.inr ⟨w.heap.size,0,ys.length,st,c,e,(0,0),by simp,by simp,.inr rfl,oq w _,je.of λi x hi=>?_⟩⟩
  obtain⟨v,k1,k2,_,k3⟩:=h3 i x hi;exact⟨v,VR.mono g2.ev _ _ k1,k2,λj hj=>by rw[jf];exact k3 j hj⟩
theorem LP{o:Oper}{t e:TypeId}{n st:Nat}{xs:Array (Nat×Operand)}{ys:List Rf}{x:AV}{p:Option aX}(ho:o.op = .buildSlice t n xs) (ht:aF P t=some e) (bR:bW P e st=true) (hz:cV P e=true) (hb:n*st<=2^24) (hn:(n==xs.size)=true) (LO:fY 0 xs.toList=true)
  (hg:Good C w) (hx:cd C w.heap (ys.map r) ((xs.toList.map (·.2)).map a.eval)) (he:ev ce σ nl ps r (.dI ys st)=some (x,p)):bA P o a w (da C w x)/\p=none:=by
 simp only[ev]at he;split at he<;>simp at he
 rename_i hc;obtain⟨rfl,rfl⟩:=he;obtain⟨c,h1,h2,h3⟩:=GZ ht bR hz hb hn LO hx hc;refine⟨bA.val (v:=.slice (some ⟨w.heap.size,0,none⟩) ys.length ys.length) (w' :=ck w (.cells c e)) ?_ ?_,rfl⟩
 ·simp only[execOp,ho,aL,h1,aR,bh]
 ·obtain⟨g1,g2⟩:=GX hg c e
  refine⟨_,g1,g2,?_⟩;unfold VR;refine⟨w.heap.size,0,st,c,e,(0,0),by simp,.inr rfl,oq w _,je.of λi x hi=>?_⟩
  obtain⟨v,k1,k2,_,k3⟩:=h3 i x hi;exact⟨v,VR.mono g2.ev _ _ k1,k2,λj hj=>by rw[jf];exact k3 j hj⟩
def Ext (nl:Nat):Option aX->Ctx->Ctx->Prop
 |none,C,C' =>C'.own=C.own/\C'.lim=C.lim
 |some (.new B),C,C' =>∃id,C'.own=(ar C nl B.cells.length (B,id)).own/\C'.lim=(ar C nl B.cells.length (B,id)).lim
 |some (.news l),C,C' =>∃ids:Nat->Nat,C'.own=(λb u=>if nl<=b/\b<nl+l.length then(af l ids C.I).own (b-nl) u else C.own b u)/\C'.lim=(λb u=>(nl<=b/\(af l ids C.I).lim (b-nl) u)\/C.lim b u)
 |some (.grow b cs),C,C' =>∃B0 Xq id,cs ≠ []/\C.own b B0.cells.length=some (B0,Xq)/\C'.own=(ar C b (B0.cells++cs).length (⟨B0.k,B0.cells++cs,.live⟩,id)).own/\C'.lim=(ar C b (B0.cells++cs).length (⟨B0.k,B0.cells++cs,.live⟩,id)).lim
def iQ (nl:Nat) (C:Ctx) (w:World) (x:AV) (p:Option aX) (v:Value) (w' : World):Prop:=
 ∃C', Good C' w' /\Step C w C' w' /\VR C' w'.heap x v/\Ext nl p C C'
theorem Xr{o:Oper}{t e:TypeId}{n st:Nat}{xs:Array (Nat×Operand)}{x:AV}{p:Option aX}(ho:o.op = .buildSlice t n xs) (ht:aF P t=some e) (bR:bW P e st=true) (hz:cV P e=true) (hn:n=0) (Bl:xs.size=0)
  (hg:Good C w) (he:ev ce σ nl ps r (.si st)=some (x,p)):bA P o a w (da C w x)/\p=none:=by
 simp only[ev,bF,Prod.mk.injEq]at he;obtain⟨rfl,rfl⟩:=he;obtain⟨h1,_⟩:=LP (P:=P) (a:=a) (r:=r) (ce:=ce) (σ:=σ) (nl:=nl) (ps:=ps) (ys:=[]) (x:=.arr []) (p:=none) ho ht bR hz (by subst hn;simp) (by rw[Bl,hn];rfl) (by
  have:xs.toList=[]:=by rw[<-List.length_eq_zero_iff];simpa using Bl
  rw[this];rfl) hg (by
  have:xs.toList=[]:=by rw[<-List.length_eq_zero_iff];simpa using Bl
  rw[this];rfl) (by simp[ev,fitAll])
 refine⟨h1.mono λv w' ⟨I', g1,g2,g3⟩=>⟨I', g1,g2,?_⟩,rfl⟩;unfold VR at g3 ⊢;obtain⟨ak,off,nY, c,el,fz,e1,_⟩:=g3;exact⟨_,e1⟩
theorem da.e{nl:Nat}{x:AV}{v:Value}{w' : World}(h:da C w x v w'):iQ nl C w x none v w' :=by
 obtain⟨I', h1,h2,h3⟩:=h;exact⟨_,h1,h2,h3,rfl,rfl⟩
theorem Bm{x:AV}{v:Value}{B:ag}{c:Array Value}{el:TypeId}(hg:Good C w) (hb:∀u,¬C.lim nl u) (bR:B.st = .live) (hle:B.cells.length<=c.size)
  (hc:∀(i:Nat) x,B.cells[i]? = some x->∃y,c[i]? = some y/\VR C w.heap x y/\y.oneCell' = true)
  (hv:∀C', C'.own nl B.cells.length=some (B,w.heap.size)->C'.lim nl B.cells.length->VR C' (ck w (.cells c el)).heap x v):iQ nl C w x (some (.new B)) v (ck w (.cells c el)):=by
 obtain⟨h1,h2⟩:=Bc hg B (hb _) c el bR hle hc;exact⟨_,h1,h2,hv _ (by simp[ar]) (.inl ⟨rfl,rfl⟩),w.heap.size,rfl,rfl⟩
theorem G1{x:AV}{v:Value}{H:Array Obj}(hu:gO x) (h:VR C H x v):∀(i:Nat) q,x.cells[i]? = some q->∃y,v.cells[i]? = some y/\VR C H q y/\y.oneCell' = true:=λi q hi=>by
 obtain⟨h1,h2⟩:=VR.cells hu h;obtain⟨y,g1,g2⟩:=h1.get i q hi;rw[iR]at g1;exact⟨y,g1,g2,h2 y (by rw[ub];exact Array.mem_of_getElem? g1)⟩
theorem LQ{B:ag}{id:Nat}{C' : Ctx}{H:Array Obj}{b u:Nat}(h1:C'.own b u=some (B,id)) (h2:C'.lim b u):VR C' H (.ptr b u 0) (.pointer (some ⟨id,0,none⟩)):=by
 unfold VR;exact⟨⟨id,rfl⟩,h2,λB' id' h _=>by rw[h1]at h;simp at h;rw[h.2]⟩
theorem vT{B:ag}{id:Nat}{C' : Ctx}{H:Array Obj}{b u len cap:Nat}{c:Array Value}{el:TypeId}(h1:C'.own b u=some (B,id)) (h2:C'.lim b u) (hs:B.st = .live) (hH:H[id]? = some (.cells c el (0,0))) (hl:len<=cap)
  (hc:cap*aC B.k=c.size):VR C' H (.sl b u 0 len) (.slice (some ⟨id,0,none⟩) len cap):=by
 unfold VR;refine⟨⟨_,_,rfl,hl,λ_=>⟨id,rfl⟩⟩,h2,λB' id' h=>?_⟩;rw[h1]at h;simp at h;obtain⟨rfl,rfl⟩:=h;simp only[hs];exact⟨c,el,0,cap,hH,rfl,λ_=>rfl,hl,by omega⟩
theorem Xt{o:Oper}{t:TypeId}{x0:Operand}{y:Rf}{k:Option Nat}{x:AV}{p:Option aX}(ho:o.op = .box t x0) (hg:Good C w) (hb:∀u,¬C.lim nl u) (h0:VR C w.heap (r y) (a.eval x0))
  (he:ev ce σ nl ps r (.u9 y k)=some (x,p)):bA P o a w (iQ nl C w x p):=by
 simp only[ev]at he;split at he<;>simp at he
 rename_i hc;simp only[aD,cL]at hc;obtain⟨rfl,rfl⟩:=he;have hu:=Bk hc.2;refine bA.val (v:=.pointer (some ⟨w.heap.size,0,none⟩)) (w' :=ck w (.cells (a.eval x0).cells t)) ?_ (Bm hg hb rfl ?_ ?_ ?_)
 ·simp only[execOp,ho,Instr.box,aL,Bb,aR,bh]
 ·rw[VR.size hu h0];exact bw _
 ·exact G1 hu h0
 ·intro C' h1 h2
  simp only[hc.1]at h1 h2;exact LQ h1 h2
theorem Xu{o:Oper}{t:TypeId}{z:List AV}{k:Option Nat}{x:AV}{p:Option aX}(ho:o.op = .alloc t) (hz:iE P t z=true) (hg:Good C w) (hb:∀u,¬C.lim nl u)
  (he:ev ce σ nl ps r (.ox z k)=some (x,p)):bA P o a w (iQ nl C w x p):=by
 simp only[ev]at he;split at he<;>simp at he
 rename_i hc;simp only[cL]at hc;obtain⟨rfl,rfl⟩:=he;obtain⟨v,h1,h2,h3⟩:=Bn (C:=C) hz w;refine bA.val (v:=.pointer (some ⟨w.heap.size,0,none⟩)) (w' :=ck w (.cells v.cells t)) ?_ (Bm hg hb rfl ?_ ?_ ?_)
 ·simp only[execOp,ho,Instr.alloc,aL,h1,Bb,aR,bh]
 ·have:=cd.length h2;simp at this;simp[this]
 ·intro i q hi
  obtain⟨y,g1,g2⟩:=h2.get i q hi;rw[iR]at g1;exact⟨y,g1,g2,h3 y (by rw[ub];exact Array.mem_of_getElem? g1)⟩
 ·intro C' k1 k2
  simp only[hc]at k1 k2;exact LQ k1 k2
theorem xZ{st:Nat}:∀{l:List AV},(∀x∈l,x.cells.length=st)->(l.flatMap AV.cells).length=l.length*st/\∀(i:Nat) x j,l[i]? = some x->j<st->(l.flatMap AV.cells)[i*st+j]? = x.cells[j]?
 | [],_=>⟨by simp,λi x j h=>by simp at h⟩
 |y::l,h=>by
  obtain⟨h1,h2⟩:=xZ (l:=l) λx hx=>h x (by simp[hx])
  have hy:=h y (by simp)
  refine⟨by simp only[jD,bu,h1,hy,cw];rw[fx];omega,λi x j hi hj=>?_⟩
  simp only[jD];cases i with
  |zero=>
   simp at hi;subst hi;rw[ft (by omega)];simp
  |succ i=>
   rw[gm (by rw[hy,fx];omega),hy,<-h2 i x j (by simpa using hi) hj]
   congr 1
   rw[fx];omega
theorem G2{H:Array Obj}{st:Nat}{l:List AV}{c:Array Value}{off:Nat}(bR:∀x∈l,x.cells.length=st)
  (h:∀(i:Nat) x,l[i]? = some x->∃v,VR C H x v/\v.cells.size=st/\gO x/\∀j,j<st->c[off+(i*st+j)]? = v.cells[j]?) :
  ∀(i:Nat) q,(l.flatMap AV.cells)[i]? = some q->∃y,c[off+i]? = some y/\VR C H q y/\y.oneCell' = true:=λi q hi=>by
 obtain⟨h1,h2⟩:=xZ bR;have aK:=(cT.1 hi).1;rw[h1]at aK;have LR:0<st:=by
  rcases Nat.eq_zero_or_pos st with h0|h0
  ·subst h0;simp at aK
  ·exact h0
 have hq:i/st<l.length:=(Nat.div_lt_iff_lt_mul LR).2 aK;have hr:=Nat.mod_lt i LR;have e:i=i/st*st+i%st:=by rw[Nat.mul_comm];exact(Nat.div_add_mod i st).symm
 obtain⟨v,g1,g2,g3,g4⟩:=h (i/st) l[i/st] (by simp[hq])
 rw[e]at hi ⊢;rw[h2 (i/st) l[i/st] (i%st) (by simp[hq]) hr]at hi
 rw[g4 _ hr];exact G1 g3 g1 _ q hi
theorem Xv{o:Oper}{t e:TypeId}{n:Nat}{k:Option Nat}{xs:Array (Nat×Operand)}{ys:List Rf}{x:AV}{p:Option aX}(ho:o.op = .buildSlice t n xs) (ht:aF P t=some e) (bR:bt P e k=true) (hz:cV P e=true) (rW : n*aC k<=2^24) (hn:(n==xs.size)=true) (LO:fY 0 xs.toList=true)
  (hg:Good C w) (hb:∀u,¬C.lim nl u) (hx:cd C w.heap (ys.map r) ((xs.toList.map (·.2)).map a.eval)) (he:ev ce σ nl ps r (.mw ys k)=some (x,p)):bA P o a w (iQ nl C w x p):=by
 simp only[ev]at he;split at he
 case isFalse=>simp at he
 rename_i hc;simp only[bF,Prod.mk.injEq]at he;obtain⟨rfl,rfl⟩:=he;obtain⟨c,h1,h2,h3⟩:=GZ ht (kD bR) hz rW hn LO hx hc;have fH:∀x∈ys.map r,x.cells.length=aC k:=λx hx=>(ua hc x hx).1;obtain⟨f1,f2⟩:=xZ fH;refine bA.val (v:=.slice (some ⟨w.heap.size,0,none⟩) ys.length ys.length) (w' :=ck w (.cells c e)) ?_ (Bm hg hb rfl ?_ ?_ ?_)
 ·simp only[execOp,ho,aL,h1,aR,bh]
 ·simp only[f1,h2];simp
 ·intro i q hi
  have:=G2 (off:=0) fH (λi x hi=>by obtain⟨v,g1,g2,g3,g4⟩:=h3 i x hi;exact⟨v,g1,g2,g3,λj hj=>by rw[jf];exact g4 j hj⟩) i q hi
  simpa using this
 ·intro C' k1 k2
  exact vT k1 k2 rfl (oq w _) (bw _) h2.symm
end
end Ab
set_option linter.all false
namespace Ab
open Go
variable{P:Program}
theorem Good.heap{C:Ctx}{w w' : World}(hg:Good C w) (h:w'.heap=w.heap):Good C w' :=
 ⟨by rw[h];exact hg.I,hg.kR,by rw[h];exact hg.live,hg.apart,by rw[h];exact hg.maps⟩
theorem Step.heap{C:Ctx}{w w' : World}(h:w'.heap=w.heap) (ho:w'.os=w.os) (ht:w'.tape=w.tape/\w.drawn<=w'.drawn) (GW:w'.output=w.output):Step C w C w' :=
 ⟨by rw[h];exact fO.refl _ _,by rw[h];exact bw _,λ_ _ _=>by rw[h],λ_ h=>.inl h,λ_ h=>.inl h,ho,ht,GW⟩
section
variable{a:Act}{ρ:Operand->Value}{r:Rf->AV}{w:World}{C:Ctx}{R:Operand->Rf->Bool}{ce:CE}{σ:List ag}{nl:Nat}{ps:List aX}
theorem G3 (z:List AV):∀(n:Nat),(eH n z).length=n*z.length/\∀i,i<n*z.length->(eH n z)[i]? = z[i%z.length]?
 |0=>⟨by simp[eH],λi hi=>by simp at hi⟩
 |n+1=>by
  obtain⟨h1,h2⟩:=G3 z n;have e:eH (n+1) z=z++eH n z:=by simp[eH,uc]
  refine⟨by rw[e,bu,h1,fx];omega,λi hi=>?_⟩
  rw[e]
  by_cases aK:i<z.length
  ·rw[ft aK,Nat.mod_eq_of_lt aK]
  ·rw[gm (by omega),h2 _ (by rw[fx]at hi;omega)]
   congr 1
   rw[Nat.mod_eq_sub_mod (by omega:z.length<=i)]
theorem LU{n:Int}(h0:0<=n) (h:n<=dE):IntKind.i64.wrap n=n:=by
 unfold dE at h;exact IntWalk.i64_in n ⟨by omega,by omega⟩
theorem LV{e:TypeId}(h:fy P e=true):∃i,P.info? e=some i/\i.bytes<=4096:=by
 unfold fy at h;cases hi:P.info? e with
 |none=>simp[hi]at h
 |some i=>simp[hi]at h;exact⟨i,rfl,h⟩
set_option maxRecDepth 100000 in
theorem Xw{o:Oper}{t e:TypeId}{l c:Operand}{l' c' : Rf}{z:List AV}{k:Option Nat}{x:AV}{p:Option aX}(ho:o.op = .makeSlice t l c) (ht:aF P t=some e) (hk:bt P e k=true) (hz:iE P e z=true) (mi:fy P e=true)
  (hg:Good C w) (hb:∀u,¬C.lim nl u) (hl:VR C w.heap (r l') (a.eval l)) (hc:VR C w.heap (r c') (a.eval c)) (he:ev ce σ nl ps r (.jT l' c' z k)=some (x,p)):bA P o a w (iQ nl C w x p):=by
 simp only[ev]at he;cases ct : r l' <;>simp only[ct]at he<;>try(simp at he;done)
 cases fW : r c' <;>simp only[fW]at he<;>try(simp at he;done)
 rename_i n m;split at he
 case isFalse=>simp at he
 rename_i fk;simp only[bF,Prod.mk.injEq]at he;obtain⟨rfl,rfl⟩:=he;rw[ct]at hl;rw[fW]at hc;have hl:=hl.aY;have hc:=hc.aY;obtain⟨h1,h2,h3,rX⟩:=fk;obtain⟨M,rfl⟩:=qV (by omega:0<=m)
 obtain⟨N,rfl⟩:=qV h1;obtain⟨i,hi,mi⟩:=LV mi;have mh:=iP (kD hk) w;obtain⟨zv,z1,z2,z3⟩:=Bn (C:=C) hz w;have G4:zv.cells.size=aC k:=by have:=cd.length z2;simp at this;omega
 have hM:(M:Int)<=1073741824:=h3;have LW:∀q:Nat,q<=1073741824->(i.bytes:Int)*(q:Int)<=4398046511104:=λq hq=>by
  have h1:i.bytes*q<=4096*1073741824:=Nat.mul_le_mul mi hq;have h2:((i.bytes*q:Nat):Int)<=((4398046511104:Nat):Int):=Int.ofNat_le.2 (by omega)
  rw[oy]at h2;omega
 have hbm:=LW M (by omega)
 let zc:Array Value:=if M*aC k=0 then #[]else zv.cells
 have cD:(Instr.makeSlice t (a.eval l) (a.eval c)).run P w = .ok (.slice (some ⟨w.heap.size,0,none⟩) N M) (ck w (.cells ((Array.range (M*aC k)).map λq=>zc[q%zc.size]!) e)):=by
  rw[hl,hc];have ha:(askRoom (M*i.bytes)).run P w = .ok () w:=by
   unfold askRoom roomBytes;have:M*i.bytes<=1073741824*4096:=Nat.mul_le_mul (by omega) mi
   rw[aa (by omega)];rfl
  simp only[Instr.makeSlice,aL,jS ht,aR,asInt,asIntOf,bh,run_typeInfo w hi];rw[LU (by omega:(0:Int)<=N) (by omega),LU (by omega:(0:Int)<=M) h3]
  have Xx : ¬((i.bytes:Int)*M>2^48):=by
   have:(2:Int)^48=281474976710656:=by decide
   omega
  have aoi : ¬((i.bytes:Int)*N>2^48):=by
   have h48:(2:Int)^48=281474976710656:=by decide
   have:=LW N (by omega)
   omega
  have c1:¬((M:Int)<0):=by omega
  have c2:¬((N:Int)<0):=by omega
  have c3:¬((N:Int)>(M:Int)):=by omega
  simp only[c1,c2,c3,Xx, decide_false,Bool.or_self,eE,eG,or_self,kE];simp only[aL,ha,mh,aR]
  by_cases h0:M*aC k=0
  ·simp only[h0,dC,aL,bh,aR,xV]
   simp[zc,h0]
  ·simp only[h0,eG,aL,z1,bh,aR,xV]
   simp[zc,h0]
 simp only[kE];obtain⟨d1,d2⟩:=G3 z M;rw[rX]at d1 d2;refine bA.val (v:=.slice (some ⟨w.heap.size,0,none⟩) N M) ?_ (Bm (c:=(Array.range (M*aC k)).map λq=>zc[q%zc.size]!) (el:=e) hg hb rfl ?_ ?_ ?_)
 ·simp only[execOp,ho,aL,cD,aR,bh]
 ·simp[d1]
 ·intro j q hj
  have aK:=(cT.1 hj).1;simp only[d1]at aK;have tP : (eH M z)[j]? = some q:=hj;rw[d2 j aK]at tP;have bY:M*aC k ≠ 0:=by omega
  have G5:0<aC k:=Nat.pos_of_ne_zero λh=>bY (by rw[h];simp)
  obtain⟨y,g1,g2⟩:=z2.get (j%aC k) q tP;rw[iR]at g1;refine⟨y,?_,g2,z3 y (by rw[ub];exact Array.mem_of_getElem? g1)⟩
  have:zc=zv.cells:=by simp[zc,bY]
  rw[this,G4];have hm:=Nat.mod_lt j G5;rw[jg (by omega:j%aC k<zv.cells.size)]at g1
  simp at g1;simp[aK,getElem!_def,jg (by omega:j%aC k<zv.cells.size),g1]
 ·intro C' k1 k2
  exact vT k1 k2 rfl (oq w _) (by omega) (by simp)
theorem Xy{o:Oper}{t:TypeId}{x:AV}{p:Option aX}(ho:o.op = .makeMap t none) (hg:Good C w) (hb:∀u,¬C.lim nl u)
  (he:ev ce σ nl ps r .ya=some (x,p)):bA P o a w (iQ nl C w x p):=by
 simp only[ev,bF,Prod.mk.injEq]at he;obtain⟨rfl,rfl⟩:=he;obtain⟨h1,h2⟩:=Xg hg (hb 0);refine bA.val (v:=.map (some w.heap.size)) (w' :=ck w (.map #[] 0)) ?_ ⟨_,h1,h2,?_,w.heap.size,rfl,rfl⟩
 ·simp only[execOp,ho,Instr.makeMap,aL]
  rfl
 ·unfold VR
  refine⟨⟨_,rfl⟩,.inl ⟨rfl,rfl⟩,λB id h _=>?_⟩;simp[ar]at h;rw[<-h.2]
theorem LY{o:Oper}{x0:Operand}{k:Option Nat}{x:AV}{p:Option aX}(ho:o.op = .assign x0) (hn:jU x0=true) (hg:Good C w) (hb:∀u,¬C.lim nl u)
  (he:ev ce σ nl ps r (.nl k)=some (x,p)):bA P o a w (iQ nl C w x p):=by
 simp only[ev]at he;simp only[bF,Prod.mk.injEq]at he;obtain⟨rfl,rfl⟩:=he;have hv:a.eval x0 = .slice none 0 0:=G6 (ρ:=a.eval) hn rfl;refine bA.val (v:=.slice none 0 0) (w' :=w) (by simp only[execOp,ho,hv,bh]) ?_
 have G7 : fO C w.heap (ar C nl 0 (⟨k,[],.jN⟩,0)) w.heap:=by
  refine⟨λ_ h=>h,λ_ _=>rfl,λ_ _ h=>.inr h,λb' u' B' id hl aW =>?_⟩;have bY:¬(b' = nl/\u' = 0):=λ⟨e1,_⟩=>hb u' (e1▸hl);simp only[ar,aa bY]at aW;exact⟨B', aW, rfl,rfl,λc el hc=>⟨c,hc,rfl⟩⟩
 refine⟨ar C nl 0 (⟨k,[],.jN⟩,0),⟨hg.I,λb' u' B' id aW =>?_,λb' u' B' id aW hl=>?_,λb1 u1 B1 i1 b2 u2 B2 i2 k1 l1 k2 l2 bY=>?_,λb' u' B' id es aW hl=>?_⟩,
  ⟨G7, bw _,λ_ _ _=>rfl,λk' hk=>?_,λ_ h=>.inl h,rfl,⟨rfl,bw _⟩,rfl⟩,?_,0,rfl,rfl⟩
 ·by_cases h:b' = nl/\u' = 0
  ·simp only[ar,ab h]at aW
   simp at aW; obtain⟨rfl,rfl⟩:=aW;exact⟨.inl h,h.2,λ_=>rfl,by simp⟩
  ·simp only[ar,aa h]at aW
   obtain⟨j1,j2,j3,j4⟩:=hg.kR b' u' B' id aW;exact⟨.inr j1,j2,j3,j4⟩
 ·by_cases h:b' = nl/\u' = 0
  ·simp only[ar,ab h]at aW
   simp at aW; obtain⟨rfl,rfl⟩:=aW;simp at hl
  ·simp only[ar,aa h]at aW
   obtain⟨j1,c,el,j2,j3,j4⟩:=hg.live b' u' B' id aW hl;refine⟨j1,c,el,j2,j3,λi x hi=>?_⟩;obtain⟨y,m1,m2,m3⟩:=j4 i x hi;exact⟨y,m1,VR.mono G7 _ _ m2,m3⟩
 ·by_cases e1:b1=nl/\u1=0
  ·simp only[ar,ab e1]at k1;simp at k1;obtain⟨rfl,rfl⟩:=k1;simp[eo.jE]at l1
  ·by_cases e2:b2=nl/\u2=0
   ·simp only[ar,ab e2]at k2;simp at k2;obtain⟨rfl,rfl⟩:=k2;simp[eo.jE]at l2
   ·simp only[ar,aa e1]at k1;simp only[ar,aa e2]at k2
    exact hg.apart b1 u1 B1 i1 b2 u2 B2 i2 k1 l1 k2 l2 bY
 ·by_cases h:b' = nl/\u' = 0
  ·simp only[ar,ab h]at aW
   simp at aW; obtain⟨rfl,rfl⟩:=aW; simp at hl
  ·simp only[ar,aa h]at aW
   exact hg.cZ (C' :=ar C nl 0 (⟨k,[],.jN⟩,0)) G7 aW hl rfl (hg.maps b' u' B' id es aW hl).1
 ·obtain⟨b', u', B', aW, hl⟩:=hk
  by_cases h:b' = nl/\u' = 0
  ·simp only[ar,ab h]at aW
   simp at aW; obtain⟨rfl,rfl⟩:=aW; simp[eo.jE]at hl
  ·simp only[ar,aa h]at aW
   exact .inl ⟨b', u', B', aW, hl⟩
 ·unfold VR
  refine⟨⟨none,0,rfl,bw _,λh=>absurd h (Nat.lt_irrefl 0)⟩,.inl ⟨rfl,rfl⟩,λB id h=>?_⟩;simp[ar]at h;obtain⟨rfl,rfl⟩:=h;exact⟨rfl,rfl,rfl⟩
end
end Ab
set_option linter.all false
namespace Ab
open Go
variable{P:Program}
section
variable{w:World}{C:Ctx}
theorem yb{cs:List AV}{ak off:Nat}{c:Array Value}{el:TypeId}{fz:Nat×Nat}(h:w.heap[ak]? = some (.cells c el fz))
  (hc:∀(i:Nat) q,cs[i]? = some q->∃y,c[off+i]? = some y/\VR C w.heap q y/\y.oneCell' = true) :
  ∃vals:List Value,(∀w1:World,w1.heap=w.heap->(loadCells ⟨ak,off,none⟩ cs.length).run P w1 = .ok vals.toArray w1)/\vals.length=cs.length/\∀(i:Nat) q,cs[i]? = some q->∃y,vals[i]? = some y/\VR C w.heap q y/\y.oneCell' = true:=by
 refine⟨(List.range cs.length).map λj=>(c[off+j]?).getD undef,λw1 h1=>run_loadCells w1 _ _ _ λj hj=>?_,by simp,λi q hi=>?_⟩
 ·obtain⟨y,h2,_⟩:=hc j cs[j] (by simp[hj])
  rw[p6];simp[World.cell?,h1,h,h2]
 ·obtain⟨y,h1,h2⟩:=hc i q hi
  have aK:=(cT.1 hi).1;exact⟨y,by simp[aK,h1],h2⟩
theorem Bo{st:Nat}{l:List AV}(h:fitAll st l=true):∀x∈l,x.cells.length=st:=λx hx=>(ua h x hx).1
theorem qW{σ:List ag}{k:Option Nat}{X:AV}{v:Value}{n:Nat}{cs:List AV}(h:aG σ k X=some (n,cs)) (hg:Good C w) (dg:∀b u B,C.lim b u->upto σ b u=some B->∃id,C.own b u=some (B,id)) (hv:VR C w.heap X v) :
  ∃vals:List Value,(∃q m,v = .slice q n m)/\(∀w1:World,w1.heap=w.heap->(Builtin.firstCells (aC k) n v).run P w1 = .ok vals.toArray w1)/\cs.length=n*aC k/\vals.length=cs.length/\∀(i:Nat) q,cs[i]? = some q->∃y,vals[i]? = some y/\VR C w.heap q y/\y.oneCell' = true:=by
 have mX:∀(a:Option Addr) m (w1:World),w1.heap=w.heap->(Builtin.firstCells (aC k) 0 (.slice a 0 m)).run P w1 = .ok ([]:List Value).toArray w1:=λa m w1 _=>by
  cases a<;>simp[Builtin.firstCells,loadCells,loadCellsFrom]
 have oz:=mX none
 -- elements of an KN slice
 have yc:∀(l:List AV) (ak off nY cap:Nat) (c:Array Value) (el:TypeId) (fz:Nat×Nat),fitAll (aC k) l=true->v = .slice (some ⟨ak,off,none⟩) l.length cap->w.heap[ak]? = some (.cells c el fz)->je C w.heap c nY l off->
   ∃vals:List Value,(∃q m,v = .slice q l.length m)/\(∀w1:World,w1.heap=w.heap->(Builtin.firstCells (aC k) l.length v).run P w1 = .ok vals.toArray w1)/\(l.flatMap AV.cells).length=l.length*aC k/\vals.length=(l.flatMap AV.cells).length/\∀(i:Nat) q,(l.flatMap AV.cells)[i]? = some q->∃y,vals[i]? = some y/\VR C w.heap q y/\y.oneCell' = true:=by
  intro l ak off nY cap c el fz hf e hH hl;obtain⟨f1,f2⟩:=xZ (Bo hf);have hc:=G2 (C:=C) (H:=w.heap) (c:=c) (off:=off) (Bo hf) (λi x hi=>by
   obtain⟨val,g1,g2,g3⟩:=hl.get i x hi;obtain⟨h1,h2⟩:=ua hf x (qU hi);have bR:nY = aC k:=by rw[<-g2,VR.size h2 g1,h1]
   subst bR;exact⟨val,g1,g2,h2,λj hj=>by rw[<-g3 j hj,Nat.add_assoc]⟩)
  obtain⟨vals,k1,k2,k3⟩:=yb (P:=P) hH hc;exact⟨vals,⟨_,_,e⟩,λw1 h1=>by rw[e];simp only[Builtin.firstCells];rw[<-f1];exact k1 w1 h1,f1,k2,k3⟩
 cases X<;>simp only[aG]at h<;>try(simp at h;done)
 ·simp at h;obtain⟨rfl,rfl⟩:=h
  have hv:v = .slice none 0 0:=hv;subst hv;exact⟨[],⟨_,_,rfl⟩,oz 0,by simp,rfl,λi q h=>by simp at h⟩
 ·simp at h;obtain⟨rfl,rfl⟩:=h
  unfold VR at hv;obtain⟨a0,hv⟩:=hv;subst hv;exact⟨[],⟨_,_,rfl⟩,mX a0 0,by simp,rfl,λi q h=>by simp at h⟩
 ·rename_i nn l
  split at h
  case isFalse=>simp at h
  rename_i hf;simp only[bF,Prod.mk.injEq]at h;obtain⟨rfl,rfl⟩:=h;unfold VR at hv;rcases hv.2 with⟨rfl,_,rfl,_⟩|⟨ak,off,cap,st,c,el,fz,e,_,_,hH,hl⟩
  ·exact⟨[],⟨_,_,rfl⟩,mX _ 0,by simp,rfl,λi q h=>by simp at h⟩
  ·exact yc l ak off st cap c el fz hf e hH hl
 ·rename_i l
  split at h
  case isFalse=>simp at h
  rename_i hf;simp only[bF,Prod.mk.injEq]at h;obtain⟨rfl,rfl⟩:=h;unfold VR at hv;obtain⟨ak,off,st,c,el,fz,e,_,hH,hl⟩:=hv;exact yc l ak off st l.length c el fz hf e hH hl
 ·rename_i b u off len
  cases hu:upto σ b u with
  |none=>simp[hu]at h
  |some B=>
   simp only[hu]at h;split at h
   case isFalse=>simp at h
   rename_i hle;simp only[bF,Prod.mk.injEq]at h;obtain⟨rfl,rfl⟩:=h;obtain⟨id,ho⟩:=dg b u B (yd hv) hu;obtain⟨_,e1,e3,e4⟩:=hg.kR b u B id ho;unfold VR at hv;have hv:=hv.2.2 B id ho;have hlen:((B.cells.drop off).take (len*aC k)).length=len*aC k:=by simp;omega
   cases hs:B.st with
   |dead=>exact absurd hs e4
   |map es=>have:=vU hu;rw[hs]at this;simp[eo.iz]at this
   |jN=>
    simp only[hs]at hv;obtain⟨rfl,rfl,rfl⟩:=hv;exact⟨[],⟨_,_,rfl⟩,oz 0,by simp,by simp,λi q h=>by simp at h⟩
   |live=>
    simp only[hs]at hv;obtain⟨c,el,o,cap,g1,rfl,g3,g4,g5⟩:=hv;obtain⟨_,c', mg, n2,n3,n4⟩:=hg.live b u B id ho hs;rw[g1]at n2;simp only[bF,kF]at n2;obtain⟨rfl,rfl,_⟩:=n2
    by_cases h0:len=0
    ·subst h0
     refine⟨[],⟨_,_,rfl⟩,?_,by simp,by simp,λi q h=>by simp at h⟩
     intro w1 _;have:=run_loadCells (P:=P) w1 ⟨id,o,none⟩ 0 (λ_=>undef) (λj hj=>absurd hj (Nat.not_lt_zero j));simpa[Builtin.firstCells]using this
    ·obtain rfl:=g3 (by omega)
     obtain⟨vals,k1,k2,k3⟩:=yb (P:=P) (cs:=(B.cells.drop o).take (len*aC k)) (off:=o) g1 (λi q hi=>by
      have aK:=(cT.1 hi).1;rw[hlen]at aK;rw[sj aK,lE]at hi;exact n4 (o+i) q hi)
     exact⟨vals,⟨_,_,rfl⟩,λw1 h1=>by simp only[Builtin.firstCells];rw[<-hlen];exact k1 w1 h1,hlen,k2,k3⟩
theorem Xz{x:AV}{b:UInt8}(h:byteOf x=some b):∃n:Int,x = .ik 4 n/\(0<=n/\n<=255)/\b=UInt8.ofNat n.toNat:=by
 unfold byteOf at h;split at h
 ·rename_i n
  split at h
  ·rename_i hn
   injection h with h
   exact⟨n,rfl,hn,h.symm⟩
  ·simp at h
 ·simp at h
theorem LZ{C:Ctx}{H:Array Obj}:∀{cs:List AV}{s:List UInt8}{vals:List Value},bytesOf cs=some s->vals.length=cs.length->(∀(i:Nat) q,cs[i]? = some q->∃y,vals[i]? = some y/\VR C H q y/\y.oneCell' = true)->∃ns:List Int,vals=ns.map (Value.int .u8)/\ns.map (λn=>UInt8.ofNat n.toNat)=s
 | [],s,vals,h,hl,_=>by
  simp[bytesOf]at h;subst h;obtain rfl:=dW hl;exact⟨[],rfl,rfl⟩
 |x::cs,s,vals,h,hl,hv=>by
  obtain⟨y,h1,h2,_⟩:=hv 0 x rfl;cases vals with
  |nil=>simp at hl
  |cons v vals=>
   simp at h1;subst h1;cases hx:byteOf x with
   |none=>simp[bytesOf,hx]at h
   |some b=>
   cases hb:bytesOf cs with
   |none=>simp[bytesOf,hx,hb]at h
   |some s' =>
    simp[bytesOf,hx,hb]at h;subst h;obtain⟨n,rfl,hn,rfl⟩:=Xz hx;obtain⟨ns,e1,e2⟩:=LZ hb (by simpa using hl) (λi q hi=>hv (i+1) q hi)
    unfold VR at h2;obtain⟨K,g1,g2⟩:=h2;rw[show jV 4=some IntKind.u8 from rfl]at g1;cases g1
    exact⟨n::ns,by rw[e1,g2];rfl,by rw[<-e2];rfl⟩
theorem L2:∀(ns:List Int) (b:ByteArray),ns.foldl (λr n=>r.push (UInt8.ofNat n.toNat)) b=⟨b.data++(ns.map λn=>UInt8.ofNat n.toNat).toArray⟩
 | [],b=>by simp
 |n::ns,b=>by
  rw[oA,L2 ns];simp[ByteArray.push]
theorem L3{ce:CE}{σ:List ag}{nl:Nat}{ps:List aX}{r:Rf->AV}{o:Oper}{s d:TypeId}{x:Operand}{y:Rf}{z:AV}{p:Option aX}{ρ:Operand->Value}(ho:o.op = .convert s d x)
  (ht:(match P.underlying s,P.underlying d with|some (.slice e),some .string=>(match P.underlying e with|some (.int .u8)=>true|_=>false)|_,_=>false)=true) (hg:Good C w) (dg:∀b u B,C.lim b u->upto σ b u=some B->∃id,C.own b u=some (B,id)) (hx:VR C w.heap (r y) (ρ x)) (he:ev ce σ nl ps r (.Bp y)=some (z,p)):Plain P ρ o w C w.heap z/\p=none:=by
 have hu:∃e,P.underlying s=some (.slice e)/\P.underlying d=some .string/\P.underlying e=some (.int .u8):=by
  split at ht
  ·rename_i e h1 h2
   split at ht
   ·rename_i h3;exact⟨e,h1,h2,h3⟩
   ·simp at ht
  ·simp at ht
 obtain⟨e,hs,hd,FJ⟩:=hu;simp only[ev]at he;cases hc:aG σ none (r y)with
 |none=>rw[hc]at he;simp at he
 |some q=>
  obtain⟨n,cs⟩:=q;rw[hc]at he;simp only at he;cases hb:bytesOf cs with
  |none=>rw[hb]at he;simp at he
  |some bs=>
   rw[hb]at he;simp at he;obtain⟨hz,hp⟩:=he;subst hz hp;obtain⟨vals,⟨q,m,hv⟩,cD,h1,h2,h3⟩:=qW (P:=P) hc hg dg hx;obtain⟨ns,e1,e2⟩:=LZ hb h2 h3;have hr:=cD w rfl;have V5:vals.length=n:=by rw[h2,h1];simp[aC]
   refine⟨dX (s:=Go.convert s d (ρ x)) (v:=.string ⟨bs.toArray⟩) (by simp only[execOp,ho]) ?_ (by unfold VR;rfl),rfl⟩
   rw[hv]at hr ⊢;cases q with
   |none=>
    rw[run_convert_bytes_string w s d e none n m hs FJ hd];have hvn:vals=[]:=by
     simp only[Builtin.firstCells,bh,Result.ok.injEq,and_true]at hr;simpa using hr.symm
    rw[hvn]at e1;have:ns=[]:=by simpa using e1.symm
    subst this;simp at e2;subst e2;simp[Conv.bytesToString]
    rfl
   |some ad=>
    rw[run_convert_bytes_string w s d e (some ad) n m hs FJ hd];have hl:(loadCells ad n).run P w = .ok (ns.map (Value.int .u8)).toArray w:=by
     rw[<-e1];simpa[Builtin.firstCells,aC]using hr
    rw[run_bytesToString w ad n m ns hl,L2];simp[e2,ByteArray.empty,ByteArray.emptyWithCapacity]
    rfl
theorem XA{σ:List ag}{k:Option Nat}{X:AV}{v:Value}{n m:Nat}{cs:List AV}(h:aG σ k X=some (n,cs)) (hm:m<=n) (hg:Good C w) (dg:∀b u B,C.lim b u->upto σ b u=some B->∃id,C.own b u=some (B,id)) (hv:VR C w.heap X v) :
  ∃vals:List Value,(∃q m,v = .slice q n m)/\(Builtin.firstCells (aC k) m v).run P w = .ok vals.toArray w/\cs.length=n*aC k/\vals.length=m*aC k/\∀(i:Nat) q,(cs.take (m*aC k))[i]? = some q->∃y,vals[i]? = some y/\VR C w.heap q y/\y.oneCell' = true:=by
 have FK:m*aC k<=n*aC k:=jR _ hm;have mX:∀(a:Option Addr) j,(Builtin.firstCells (aC k) 0 (.slice a 0 j)).run P w = .ok ([]:List Value).toArray w:=λa j=>by
  cases a<;>simp[Builtin.firstCells,loadCells,loadCellsFrom]
 have yc:∀(l:List AV) (ak off nY cap:Nat) (c:Array Value) (el:TypeId) (fz:Nat×Nat),m<=l.length->fitAll (aC k) l=true->v = .slice (some ⟨ak,off,none⟩) l.length cap->w.heap[ak]? = some (.cells c el fz)->je C w.heap c nY l off->
   ∃vals:List Value,(∃q m,v = .slice q l.length m)/\(Builtin.firstCells (aC k) m v).run P w = .ok vals.toArray w/\(l.flatMap AV.cells).length=l.length*aC k/\vals.length=m*aC k/\∀(i:Nat) q,((l.flatMap AV.cells).take (m*aC k))[i]? = some q->∃y,vals[i]? = some y/\VR C w.heap q y/\y.oneCell' = true:=by
  intro l ak off nY cap c el fz XB hf e hH hl;obtain⟨f1,f2⟩:=xZ (Bo hf);have hc:=G2 (C:=C) (H:=w.heap) (c:=c) (off:=off) (Bo hf) (λi x hi=>by
   obtain⟨val,g1,g2,g3⟩:=hl.get i x hi;obtain⟨h1,h2⟩:=ua hf x (qU hi);have bR:nY = aC k:=by rw[<-g2,VR.size h2 g1,h1]
   subst bR;exact⟨val,g1,g2,h2,λj hj=>by rw[<-g3 j hj,Nat.add_assoc]⟩)
  have hlen:((l.flatMap AV.cells).take (m*aC k)).length=m*aC k:=by
   have:=jR (aC k) XB;rw[my,f1];omega
  obtain⟨vals,k1,k2,k3⟩:=yb (P:=P) (cs:=(l.flatMap AV.cells).take (m*aC k)) (off:=off) hH (λi q hi=>by
   have aK:=(cT.1 hi).1;rw[hlen]at aK;rw[sj aK]at hi;exact hc i q hi)
  exact⟨vals,⟨_,_,e⟩,by rw[e];simp only[Builtin.firstCells];rw[<-hlen];exact k1 w rfl,f1,by rw[k2,hlen],k3⟩
 cases X<;>simp only[aG]at h<;>try(simp at h;done)
 ·simp at h;obtain⟨rfl,rfl⟩:=h
  have hv:v = .slice none 0 0:=hv;subst hv;obtain rfl:m=0:=by omega
  exact⟨[],⟨_,_,rfl⟩,mX none 0,by simp,by simp,λi q h=>by simp at h⟩
 ·simp at h;obtain⟨rfl,rfl⟩:=h
  unfold VR at hv;obtain⟨a0,hv⟩:=hv;subst hv;obtain rfl:m=0:=by omega
  exact⟨[],⟨_,_,rfl⟩,mX a0 0,by simp,by simp,λi q h=>by simp at h⟩
 ·rename_i nn l
  split at h
  case isFalse=>simp at h
  rename_i hf;simp only[bF,Prod.mk.injEq]at h;obtain⟨rfl,rfl⟩:=h;unfold VR at hv;rcases hv.2 with⟨rfl,_,rfl,_⟩|⟨ak,off,cap,st,c,el,fz,e,_,_,hH,hl⟩
  ·obtain rfl:m=0:=by simpa using hm
   exact⟨[],⟨_,_,rfl⟩,mX _ 0,by simp,by simp,λi q h=>by simp at h⟩
  ·exact yc l ak off st cap c el fz hm hf e hH hl
 ·rename_i l
  split at h
  case isFalse=>simp at h
  rename_i hf;simp only[bF,Prod.mk.injEq]at h;obtain⟨rfl,rfl⟩:=h;unfold VR at hv;obtain⟨ak,off,st,c,el,fz,e,_,hH,hl⟩:=hv;exact yc l ak off st l.length c el fz hm hf e hH hl
 ·rename_i b u off len
  cases hu:upto σ b u with
  |none=>simp[hu]at h
  |some B=>
   simp only[hu]at h;split at h
   case isFalse=>simp at h
   rename_i hle;simp only[bF,Prod.mk.injEq]at h;obtain⟨rfl,rfl⟩:=h;obtain⟨id,ho⟩:=dg b u B (yd hv) hu;obtain⟨_,e1,e3,e4⟩:=hg.kR b u B id ho;unfold VR at hv;have hv:=hv.2.2 B id ho;have hlen:((B.cells.drop off).take (len*aC k)).length=len*aC k:=by simp;omega
   cases hs:B.st with
   |dead=>exact absurd hs e4
   |map es=>have:=vU hu;rw[hs]at this;simp[eo.iz]at this
   |jN=>
    simp only[hs]at hv;obtain⟨rfl,rfl,rfl⟩:=hv;obtain rfl:m=0:=by omega
    exact⟨[],⟨_,_,rfl⟩,mX none 0,by simp,by simp,λi q h=>by simp at h⟩
   |live=>
    simp only[hs]at hv;obtain⟨c,el,o,cap,g1,rfl,g3,g4,g5⟩:=hv;obtain⟨_,c', mg, n2,n3,n4⟩:=hg.live b u B id ho hs;rw[g1]at n2;simp only[bF,kF]at n2;obtain⟨rfl,rfl,_⟩:=n2
    by_cases h0:m=0
    ·subst h0
     refine⟨[],⟨_,_,rfl⟩,?_,hlen,by simp,λi q h=>by simp at h⟩
     have:=run_loadCells (P:=P) w ⟨id,o,none⟩ 0 (λ_=>undef) (λj hj=>absurd hj (Nat.not_lt_zero j));simpa[Builtin.firstCells]using this
    ·obtain rfl:=g3 (by omega)
     have rY:((B.cells.drop o).take (len*aC k)).take (m*aC k)=(B.cells.drop o).take (m*aC k):=by rw[List.take_take,qX FK]
     have sr : ((B.cells.drop o).take (m*aC k)).length=m*aC k:=by simp;omega
     obtain⟨vals,k1,k2,k3⟩:=yb (P:=P) (cs:=(B.cells.drop o).take (m*aC k)) (off:=o) g1 (λi q hi=>by
      have aK:=(cT.1 hi).1;rw[sr]at aK;rw[sj aK,lE]at hi;exact n4 (o+i) q hi)
     exact⟨vals,⟨_,_,rfl⟩,by simp only[Builtin.firstCells];rw[<-sr];exact k1 w rfl,hlen,by rw[k2,sr],by rw[rY];exact k3⟩
theorem L4 (n:Nat):∀(m c:Nat),Builtin.growBy n m c<=2^m*(c+768)
 |0,c=>by simp[Builtin.growBy]
 |m+1,c=>by
  unfold Builtin.growBy;split
  ·have:1*(c+768)<=2^(m+1)*(c+768):=jR _ (Nat.one_le_two_pow)
   omega
  ·refine Nat.le_trans (L4 n m _) ?_
   rw[Nat.pow_succ,Nat.mul_assoc];refine Nat.mul_le_mul_left _ ?_;omega
theorem XC{ye cap:Nat}(h:ye<=1073741824) (hc:cap<ye):Builtin.nextslicecap ye cap<=17179881472:=by
 unfold Builtin.nextslicecap;split
 ·omega
 ·split
  ·omega
  ·have h2:Builtin.growBy ye 4 cap<=16*(cap+768):=L4 ye 4 cap
   exact Nat.le_trans h2 (Nat.le_trans (Nat.mul_le_mul_left 16 (show cap+768<=1073742592 by omega)) (by decide))
theorem G8{T T' e:TypeId}{k:Option Nat}(ht:aF P T=some e) (ja : (aF P T').isSome=true) (hk:bt P e k=true){ty:TypeId}{x:Value}{n len cap:Nat}{q:Option Addr}{m:Nat}{base:Option Addr}{vals:List Value}{w' : World}
  (hx:x = .slice q n m) (hf:(Builtin.firstCells (aC k) n x).run P w = .ok vals.toArray w) (fA:len+n<=cap)
  (bR:∀b,base=some b->(storeCells (b.add (len*aC k)) vals).run P w = .ok () w') (oB:base=none->w' = w) :
  (Builtin.append_ #[T,T'] ty #[.slice base len cap,x]).run P w = .ok (.slice base (len+n) cap) w' :=by
 obtain⟨e', xp⟩:=ss.1 ja;subst hx;cases base with
 |none=>simp[Builtin.append_,jS ht,jS xp, iP (kD hk),Builtin.lenOf,fA,hf,oB rfl]
 |some b=>
  have bR:=bR b rfl;simp[Builtin.append_,jS ht,jS xp, iP (kD hk),Builtin.lenOf,fA,hf,bR]
theorem XD{T T' e:TypeId}{k:Option Nat}(ht:aF P T=some e) (ja : (aF P T').isSome=true) (hk:bt P e k=true) (mi:fy P e=true) (hz:cV P e=true){ty:TypeId}{x:Value}{n len cap:Nat}{q:Option Addr}{m:Nat}{base:Option Addr}
  {vals olds:List Value} (hx:x = .slice q n m) (hf:∀w1:World,w1.heap=w.heap->(Builtin.firstCells (aC k) n x).run P w1 = .ok vals.toArray w1) (ho:∀w1:World,w1.heap=w.heap->(Builtin.firstCells (aC k) len (.slice base len cap)).run P w1 = .ok olds.toArray w1)
  (aK:cap<len+n) (hb:len+n<=1073741824) :
  ∃(nc:Nat) (rest:Array Value),len+n<=nc/\rest.size=(nc-(len+n))*aC k/\
   (Builtin.append_ #[T,T'] ty #[.slice base len cap,x]).run P w = .ok (.slice (some ⟨w.heap.size,0,none⟩) (len+n) nc) (ck w.drew (.cells (olds.toArray++vals.toArray++rest) e)):=by
 obtain⟨e', xp⟩:=ss.1 ja;obtain⟨i,hi,mi⟩:=LV mi;subst hx;have Xo : ∃z,i.zero=some z/\z.cells.size=aC k:=by
  unfold cV at hz;simp only[hi]at hz;cases G0:i.zero with
  |none=>simp[G0]at hz
  |some z=>
   simp[G0]at hz;have:=kD hk;simp[bW,hi]at this;exact⟨z,rfl,by omega⟩
 obtain⟨z,G0,G4⟩:=Xo;have hzv:∀w1:World,(zeroValue e).run P w1 = .ok z w1:=λw1=>by
  simp only[zeroValue,aL,run_typeInfo w1 hi,aR,G0,bh]
 have c0:¬(len+n<=cap):=by omega
 have c1:¬(((len+n:Nat):Int)>IntKind.i64.max):=by
  have:IntKind.i64.max=9223372036854775807:=by decide
  rw[this];omega
 have c2:¬(Builtin.nextslicecap (len+n) cap*i.bytes>2^48):=by
  have h1:=XC hb aK;have h2:Builtin.nextslicecap (len+n) cap*i.bytes<=17179881472*4096:=Nat.mul_le_mul h1 mi;have h3:17179881472*4096<=2^48:=by decide
  exact Nat.not_lt.2 (Nat.le_trans h2 h3)
 let nc:Nat:=(Question.appendCap (len+n) cap e).cut (w.tape w.drawn (.appendCap (len+n) cap e))
 have XE:len+n<=nc:=by show _<=_+_;omega
 have G9:(choose (.appendCap (len+n) cap e)).run P w = .ok nc w.drew:=by
  rfl
 have XF:∀(b:Nat) (w1:World),(askRoom b).run P w1 = .ok () w1:=λb w1=>by
  unfold askRoom;split<;>rfl
 have mh:=iP (kD hk) (P:=P);refine⟨nc,Builtin.zeroCells z.cells (nc-(len+n)),XE,?_,?_⟩
 ·simp[Builtin.zeroCells,G4]
 ·have hold:=ho w.drew rfl
  have vV:=hf w.drew rfl;have Br : ¬((9223372036854775807:Int)<(len:Int)+(n:Int)):=by omega
  have AA:(Question.appendCap (len+n) cap e).forced=false:=rfl;have c2' : Builtin.nextslicecap (len+n) cap*i.bytes<=281474976710656:=by
   have:(2:Nat)^48=281474976710656:=by decide
   omega
  simp[Builtin.append_,jS ht,jS xp, mh,Builtin.lenOf,c0,Br, run_typeInfo w hi,c2', AA,G9,run_typeInfo w.drew hi,XF,hold,vV,hzv,xV];rw[aa (by omega)]
  have L5:∀Z:Array Value,olds.toArray++(vals.toArray++Z)=(olds++vals).toArray++Z:=λZ=>by rw[<-Array.append_assoc];simp
  first
   |(rw[L5];done)
   |(rw[L5];rfl)
   |rfl
end
end Ab
set_option linter.all false
namespace Ab
open Go
variable{P:Program}
theorem jW (w:World) (g:Nat) (c:Array Value){k:Nat}(h:k ≠ g):(w.setRow g c).heap[k]? = w.heap[k]?:=by
 simp only[World.setRow,su];rw[aa (by omega)]
theorem nw (w:World) (g:Nat) (c:Array Value):(w.setRow g c).heap.size=w.heap.size:=by simp[World.setRow]
theorem L6{C:Ctx}{w:World}(hg:Good C w){id:Nat}{c c' : Array Value}{el:TypeId}(Bt:owned C id) (hH:w.heap[id]? = some (.cells c el (0,0))) (hs:c'.size=c.size) (C' : Ctx) (hI:∀k,C.I k->C'.I k) (fI:∀b u,C.lim b u->C'.lim b u)
  (bH:∀b u B' i,C.lim b u->C'.own b u=some (B', i)->∃B,C.own b u=some (B,i)/\B.st=B'.st/\B.k=B'.k):fO C w.heap C' (w.setRow id c').heap:=by
 refine⟨hI,λk hk=>jW w id c' λe=>hg.XG Bt (e▸hk),fI,λb u B' i hl ho=>?_⟩;obtain⟨B,h1,h2,h3⟩:=bH b u B' i hl ho;refine⟨B,h1,by rw[h2],h3,λq mg hq=>?_⟩
 by_cases e:i=id
 ·subst e
  rw[hH]at hq;simp only[bF,kF]at hq;obtain⟨rfl,rfl,_⟩:=hq;exact⟨c', setRow_heap w i c c' el (0,0) hH,hs⟩
 ·exact⟨q,by rw[jW w id c' e];exact hq,rfl⟩
section
variable{a:Act}{ρ:Operand->Value}{r:Rf->AV}{w:World}{C:Ctx}{R:Operand->Rf->Bool}{ce:CE}{σ:List ag}{nl:Nat}{ps:List aX}
theorem XH{o:Oper}{ca:Call}{bi:Builtin}(ho:o.op = .call ca) (hc:ca.callee = .builtin bi) (w:World) :
  (execOp a.eval o).run P w=(builtin bi ca.argTypes o.type (ca.args.map fun | .const _=>true|_=>false) (ca.args.map a.eval)).run P w:=by
 simp only[execOp,ho,resolve,hc,aL,bh,aR,invoke]
 rfl
theorem jX{o:Oper}{ca:Call}{s x:Operand}{t t' : TypeId}{kC:Value->World->Prop}{v:Value}{w' : World}(ho:o.op = .call ca) (hc:ca.callee = .builtin .append) (ha:ca.args.toList=[s,x]) (eX:ca.argTypes.toList=[t,t'])
  (h:(Builtin.append_ #[t,t'] o.type #[a.eval s,a.eval x]).run P w = .ok v w') (hp:kC v w'):bA P o a w kC:=by
 have ny : ca.args = #[s,x]:=by rw[<-Array.toList_inj];simpa using ha
 have nA : ca.argTypes = #[t,t']:=by rw[<-Array.toList_inj];simpa using eX
 refine bA.val (v:=v) (w' :=w') ?_ hp;rw[XH ho hc];simp only[builtin,ny, nA, aL];have:Array.map a.eval #[s,x] = #[a.eval s,a.eval x]:=by simp
 rw[this,h];simp
theorem XI{cells cs:List AV}{olds vals:List Value}{rest:Array Value}{H:Array Obj}(h1:olds.length=cells.length) (h2:vals.length=cs.length)
  (ho:∀(i:Nat) q,cells[i]? = some q->∃y,olds[i]? = some y/\VR C H q y/\y.oneCell' = true) (hv:∀(i:Nat) q,cs[i]? = some q->∃y,vals[i]? = some y/\VR C H q y/\y.oneCell' = true) :
  (cells++cs).length<=(olds.toArray++vals.toArray++rest).size/\∀(i:Nat) q,(cells++cs)[i]? = some q->∃y,(olds.toArray++vals.toArray++rest)[i]? = some y/\VR C H q y/\y.oneCell' = true:=by
 refine⟨by simp;omega,λi q hi=>?_⟩
 have aK:=(cT.1 hi).1;simp at aK;rw[kS (by simp;omega)]
 by_cases hl:i<cells.length
 ·rw[ft hl]at hi
  obtain⟨y,g1,g2⟩:=ho i q hi;exact⟨y,by rw[kS (by simp;omega)];simpa using g1,g2⟩
 ·rw[gm (by omega)]at hi
  obtain⟨y,g1,g2⟩:=hv _ q hi;exact⟨y,by rw[ud (by simp;omega)];simpa[h1]using g1,g2⟩
theorem XJ{B:ag}{b:Nat}{c:Array Value}{el:TypeId}(hg:Good C w) (hb:¬C.lim b B.cells.length) (bR:B.st = .live) (hle:B.cells.length<=c.size) (hc:∀(i:Nat) x,B.cells[i]? = some x->∃y,c[i]? = some y/\VR C w.heap x y/\y.oneCell' = true) :
  Good (ar C b B.cells.length (B,w.heap.size)) (ck w.drew (.cells c el))/\Step C w (ar C b B.cells.length (B,w.heap.size)) (ck w.drew (.cells c el)):=by
 have h1:Good C w.drew:=hg.heap rfl;obtain⟨g1,g2⟩:=Bc h1 B hb c el bR hle hc;exact⟨g1,(Step.heap (C:=C) (w:=w) (w' :=w.drew) rfl rfl ⟨rfl,Nat.le_succ _⟩ rfl).trans g2⟩
theorem XK{B:ag}{b id:Nat}{cs:List AV}{c:Array Value}{el:TypeId}{vals:List Value}(hg:Good C w) (ho:C.own b B.cells.length=some (B,id)) (hl:B.st = .live) (nq:¬C.lim b (B.cells++cs).length)
  (lF:∀u' B' id', C.own b u' = some (B', id')->u' = B.cells.length) (hH:w.heap[id]? = some (.cells c el (0,0))) (fA:B.cells.length+vals.length<=c.size) (pI:vals.length=cs.length)
  (hv:∀(i:Nat) q,cs[i]? = some q->∃y,vals[i]? = some y/\VR C w.heap q y/\y.oneCell' = true) :
  Good (ar C b (B.cells++cs).length (⟨B.k,B.cells++cs,.live⟩,id)) (w.setRow id (c.toList.take B.cells.length++vals++c.toList.drop (B.cells.length+vals.length)).toArray)/\
  Step C w (ar C b (B.cells++cs).length (⟨B.k,B.cells++cs,.live⟩,id)) (w.setRow id (c.toList.take B.cells.length++vals++c.toList.drop (B.cells.length+vals.length)).toArray):=by
 have bH:owned C id:=⟨b,_,B,ho,lG hl⟩;generalize fW : (c.toList.take B.cells.length++vals++c.toList.drop (B.cells.length+vals.length)).toArray=c';have hs:c'.size=c.size:=by subst fW; simp;omega
 have gC:∀i,c'[i]? = if B.cells.length<=i/\i<B.cells.length+vals.length then vals[i-B.cells.length]? else c[i]?:=λi=>by
  subst fW;simp only[List.getElem?_toArray]
  by_cases h1:i<B.cells.length
  ·rw[aa (by omega),iS,ft (by simp;omega),sj h1];simp
  ·by_cases h2:i<B.cells.length+vals.length
   ·rw[ab ⟨by omega,h2⟩,ft (by simp;omega),gm (by simp;omega)]
    congr 1;simp;omega
   ·rw[aa (by omega),gm (by simp;omega),lE]
    simp
    congr 1;omega
 have ev:=L6 (c' :=c') hg bH hH hs (ar C b (B.cells++cs).length (⟨B.k,B.cells++cs,.live⟩,id)) (λ_ h=>h) (λ_ _ h=>.inr h) (λb' u' B' i AB aW =>by
  have bY:¬(b' = b/\u' = (B.cells++cs).length):=λ⟨e1,e2⟩=>nq (e1▸e2▸AB);simp only[ar,aa bY]at aW;exact⟨B', aW, rfl,rfl⟩)
 obtain⟨n1,c0,el0,n2,n3,n4⟩:=hg.live b _ B id ho hl;rw[hH]at n2;simp only[bF,kF]at n2;obtain⟨rfl,rfl,_⟩:=n2;have qY:(w.setRow id c').heap[id]? = some (.cells c' el (0,0)):=setRow_heap w id c c' el (0,0) hH;refine⟨⟨λk hk=>by rw[nw];exact hg.I k hk,λb' u' B' i aW =>?_,λb' u' B' i aW ct =>?_,λb1 u1 B1 i1 b2 u2 B2 i2 k1 l1 k2 l2 bY=>?_,λb' u' B' i es aW ct =>?_⟩,
  ⟨ev,by rw[nw];exact bw _,λk hk oB=>jW w id c' λe=>oB (e▸bH),λk hk=>?_,λk hk=>.inl hk,rfl,⟨rfl,bw _⟩,rfl⟩⟩
 ·by_cases e:b' = b/\u' = (B.cells++cs).length
  ·simp only[ar,ab e]at aW
   simp at aW; obtain⟨rfl,rfl⟩:=aW;exact⟨.inl e,e.2,λh=>by simp at h,by simp⟩
  ·simp only[ar,aa e]at aW
   obtain⟨j1,j2,j3,j4⟩:=hg.kR b' u' B' i aW;exact⟨.inr j1,j2,j3,j4⟩
 ·by_cases e:b' = b/\u' = (B.cells++cs).length
  ·simp only[ar,ab e]at aW
   simp at aW; obtain⟨rfl,rfl⟩:=aW;refine⟨n1,c', el,qY,by rw[hs];simp;omega,λi q hi=>?_⟩
   rw[gC]
   by_cases h1:i<B.cells.length
   ·have dw : (B.cells++cs)[i]? = some q:=hi
    rw[ft h1]at dw;obtain⟨y,m1,m2,m3⟩:=n4 i q dw;exact⟨y,by rw[aa (by omega)];exact m1,VR.mono ev _ _ m2,m3⟩
   ·have dw : (B.cells++cs)[i]? = some q:=hi
    rw[gm (by omega)]at dw
    have aK:=(cT.1 dw).1;obtain⟨y,m1,m2,m3⟩:=hv _ q dw;exact⟨y,by rw[ab ⟨by omega,by omega⟩];exact m1,VR.mono ev _ _ m2,m3⟩
  ·simp only[ar,aa e]at aW
   obtain⟨j1,c1,L7,j2,j3,j4⟩:=hg.live b' u' B' i aW ct
   by_cases hi:i=id
   ·subst hi
    have sv:b' = b:=Decidable.byContradiction λh=>hg.apart b' u' B' i b _ B i aW (lG ct) ho (lG hl) h rfl;subst sv;have hu:=lF u' B' i aW;have hlen:=(hg.kR b' u' B' i aW).2.1;rw[hH]at j2;simp only[bF,kF]at j2;obtain⟨rfl,rfl,_⟩:=j2;refine⟨j1,c', el,qY,by omega,λi' q hq=>?_⟩
    have aK:=(cT.1 hq).1;obtain⟨y,m1,m2,m3⟩:=j4 i' q hq;exact⟨y,by rw[gC,aa (by omega)];exact m1,VR.mono ev _ _ m2,m3⟩
   ·refine⟨j1,c1,L7,by rw[jW w id c' hi];exact j2,j3,λi' q hq=>?_⟩
    obtain⟨y,m1,m2,m3⟩:=j4 i' q hq;exact⟨y,m1,VR.mono ev _ _ m2,m3⟩
 ·have hb:∀b' u' B' i,(ar C b (B.cells++cs).length (⟨B.k,B.cells++cs,.live⟩,id)).own b' u' = some (B', i)->B'.st.jE=true->∃Bu vb, C.own b' Bu = some (vb, i)/\vb.st.jE=true:=by
   intro b' u' B' i aW ct
   by_cases e:b' = b/\u' = (B.cells++cs).length
   ·simp only[ar,ab e]at aW
    simp at aW; obtain⟨rfl,rfl⟩:=aW;exact⟨_,B,by rw[e.1];exact ho,lG hl⟩
   ·simp only[ar,aa e]at aW
    exact⟨u', B', aW, ct⟩
  obtain⟨_,_,q1,q2⟩:=hb b1 u1 B1 i1 k1 l1;obtain⟨_,_,q3,q4⟩:=hb b2 u2 B2 i2 k2 l2;exact hg.apart _ _ _ _ _ _ _ _ q1 q2 q3 q4 bY
 ·by_cases e:b' = b/\u' = (B.cells++cs).length
  ·simp only[ar,ab e]at aW
   simp at aW; obtain⟨rfl,rfl⟩:=aW;simp at ct
  ·simp only[ar,aa e]at aW
   have hi:i ≠ id:=λhi=>by
    subst hi;have sv:b' = b:=Decidable.byContradiction λh=>hg.apart b' u' B' i b _ B i aW (lB ct) ho (lG hl) h rfl;subst sv;have hu:=lF u' B' i aW;rw[hu,ho]at aW;simp at aW;rw[<-aW, hl]at ct;simp at ct
   exact hg.cZ (C' :=ar C b (B.cells++cs).length (⟨B.k,B.cells++cs,.live⟩,id)) ev aW ct (jW w id c' hi) (hg.maps b' u' B' i es aW ct).1
 ·obtain⟨b', u', B', aW, ct⟩:=hk
  by_cases e:b' = b/\u' = (B.cells++cs).length
  ·simp only[ar,ab e]at aW
   simp at aW; obtain⟨rfl,rfl⟩:=aW;exact .inl bH
  ·simp only[ar,aa e]at aW
   exact .inl ⟨b', u', B', aW, ct⟩
end
end Ab
set_option linter.all false
namespace Ab
open Go
variable{P:Program}
theorem Good.shrink{C C2:Ctx}{w:World}(hg:Good C w) (hI:C2.I=C.I) (bH:∀b u e,C2.own b u=some e->C.own b u=some e) (fI:∀b u,C.lim b u->C2.lim b u):Good C2 w/\Step C w C2 w:=by
 have ev:fO C w.heap C2 w.heap:=⟨λk h=>by rw[hI];exact h,λ_ _=>rfl,fI,λb u B' id _ ho=>⟨B', bH _ _ _ ho,rfl,rfl,λc el hc=>⟨c,hc,rfl⟩⟩⟩
 refine⟨⟨by rw[hI];exact hg.I,λb u B id ho=>?_,λb u B id ho hl=>?_,λb1 u1 B1 i1 b2 u2 B2 i2 h1 l1 h2 l2 bY=>hg.apart _ _ _ _ _ _ _ _ (bH _ _ _ h1) l1 (bH _ _ _ h2) l2 bY,λb u B id es ho hl=>hg.cZ ev (bH _ _ _ ho) hl rfl (by rw[hI];exact(hg.maps b u B id es (bH _ _ _ ho) hl).1)⟩,
  ⟨ev,bw _,λ_ _ _=>rfl,λk ⟨b,u,B,ho,hl⟩=>.inl ⟨b,u,B,bH _ _ _ ho,hl⟩,λk h=>.inl (by rw[hI]at h;exact h),rfl,⟨rfl,bw _⟩,rfl⟩⟩
 ·obtain⟨h1,h2,h3,h4⟩:=hg.kR b u B id (bH _ _ _ ho)
  exact⟨fI _ _ h1,h2,h3,h4⟩
 ·obtain⟨h1,c,el,h2,h3,h4⟩:=hg.live b u B id (bH _ _ _ ho) hl
  refine⟨by rw[hI];exact h1,c,el,h2,h3,λi x hi=>?_⟩
  obtain⟨y,k1,k2,k3⟩:=h4 i x hi;exact⟨y,k1,VR.mono ev _ _ k2,k3⟩
section
variable{a:Act}{ρ:Operand->Value}{r:Rf->AV}{w:World}{C:Ctx}{R:Operand->Rf->Bool}{ce:CE}{σ:List ag}{nl:Nat}{ps:List aX}
theorem qZ{T T' e:TypeId}{k k0:Option Nat}(ht:aF P T=some e) (ja : (aF P T').isSome=true) (hk:bt P e k=true) (mi:fy P e=true) (hz:cV P e=true){ty:TypeId}{X:AV}{vx:Value}{n:Nat}{cs cells:List AV}(hg:Good C w)
  (dg:∀b u B,C.lim b u->upto σ b u=some B->∃id,C.own b u=some (B,id)) (et:aG σ k X=some (n,cs)) (hx:VR C w.heap X vx) {b len cap:Nat} {base:Option Addr} {olds:List Value} (hb:¬C.lim b (cells++cs).length) (jY:aC k0=aC k)
  (hlen:cells.length=len*aC k) (XL:olds.length=cells.length) (hold:∀w1:World,w1.heap=w.heap->(Builtin.firstCells (aC k) len (.slice base len cap)).run P w1 = .ok olds.toArray w1)
  (L8:∀(i:Nat) q,cells[i]? = some q->∃y,olds[i]? = some y/\VR C w.heap q y/\y.oneCell' = true) (aK:cap<len+n) (fP:len+n<=dE) :
  ∃v w' id', (Builtin.append_ #[T,T'] ty #[.slice base len cap,vx]).run P w = .ok v w' /\Good (ar C b (cells++cs).length (⟨k0,cells++cs,.live⟩,id')) w' /\Step C w (ar C b (cells++cs).length (⟨k0,cells++cs,.live⟩,id')) w' /\
    VR (ar C b (cells++cs).length (⟨k0,cells++cs,.live⟩,id')) w'.heap (.sl b (cells++cs).length 0 (len+n)) v:=by
 obtain⟨vals,⟨q,m,vc⟩,hf,gD,pI,jZ⟩:=qW (P:=P) et hg dg hx;obtain⟨nc,rest,h1,h2,h3⟩:=XD (P:=P) (w:=w) (ty:=ty) (olds:=olds) ht ja hk mi hz vc hf hold aK fP;obtain⟨g1,g2⟩:=XI (rest:=rest) (C:=C) (H:=w.heap) XL pI L8 jZ;have hl:(⟨k0,cells++cs,.live⟩:ag).cells.length=(cells++cs).length:=rfl;obtain⟨p1,p2⟩:=XJ (b:=b) (B:=⟨k0,cells++cs,.live⟩) (c:=olds.toArray++vals.toArray++rest) (el:=e) hg hb rfl g1 g2;refine⟨_,_,w.heap.size,h3,p1,p2,vT (B:=⟨k0,cells++cs,.live⟩) (id:=w.heap.size) (by simp[ar]) (.inl ⟨rfl,rfl⟩) rfl (oq w.drew _) h1 ?_⟩
 simp only[jY];have e1:(nc-(len+n))*aC k+(len+n)*aC k=nc*aC k:=by rw[<-Nat.add_mul,Nat.sub_add_cancel h1]
 rw[fx len n]at e1;simp;omega
theorem L9{T T' e:TypeId}{k:Option Nat}(ht:aF P T=some e) (ja : (aF P T').isSome=true) (hk:bt P e k=true) (mi:fy P e=true) (hz:cV P e=true){ty:TypeId}{X:AV}{vx:Value}{n:Nat}{cs:List AV}(hg:Good C w)
  (dg:∀b u B,C.lim b u->upto σ b u=some B->∃id,C.own b u=some (B,id)) (et:aG σ k X=some (n,cs)) (hx:VR C w.heap X vx) {b len:Nat} {vs:Value} {B:ag} {id:Nat} (ho:C.own b B.cells.length=some (B,id)) (hu:B.cells.length=len*aC k) (jY:aC B.k=aC k)
  (hs:VR C w.heap (.sl b B.cells.length 0 len) vs) (hn:0<n) (fP:len+n<=dE) (FL:B.st.iz=false) (hb:¬C.lim b (B.cells++cs).length) (lF:∀u' B' id', C.own b u' = some (B', id')->u' = B.cells.length) :
  ∃v w' id', (Builtin.append_ #[T,T'] ty #[vs,vx]).run P w = .ok v w' /\Good (ar C b (B.cells++cs).length (⟨B.k,B.cells++cs,.live⟩,id')) w' /\Step C w (ar C b (B.cells++cs).length (⟨B.k,B.cells++cs,.live⟩,id')) w' /\
    VR (ar C b (B.cells++cs).length (⟨B.k,B.cells++cs,.live⟩,id')) w'.heap (.sl b (B.cells++cs).length 0 (len+n)) v:=by
 obtain⟨_,_,e3,e4⟩:=hg.kR b _ B id ho;unfold VR at hs;have hs:=hs.2.2 B id ho;cases bR:B.st with
 |dead=>exact absurd bR e4
 |map es=>rw[bR]at FL;simp[eo.iz]at FL
 |jN=>
  simp only[bR]at hs;obtain⟨_,rfl,rfl⟩:=hs;have xq:=e3 bR;have:=qZ (P:=P) (σ:=σ) (cells:=B.cells) (k0:=B.k) (b:=b) (len:=0) (cap:=0) (base:=none) (olds:=[]) (ty:=ty) ht ja hk mi hz hg dg et hx hb jY (by rw[xq];simp) (by rw[xq];rfl) (λw1 _=>by simp[Builtin.firstCells]) (by rw[xq];simp) (by omega) (by omega)
  simpa using this
 |live=>
  simp only[bR]at hs;obtain⟨c,el,o,cap,g1,rfl,g3,g4,g5⟩:=hs;obtain⟨_,c', mg, n2,n3,n4⟩:=hg.live b _ B id ho bR;rw[g1]at n2;simp only[bF,kF]at n2;obtain⟨rfl,rfl,_⟩:=n2
  by_cases fA:len+n<=cap
  ·have pZ:0<cap:=by omega
   have XN:=g3 pZ;subst XN;obtain⟨vals,⟨q,m,vc⟩,hf,gD,pI,jZ⟩:=qW (P:=P) et hg dg hx;have Ma : B.cells.length+vals.length<=c.size:=by
    have:(len+n)*aC k<=cap*aC k:=jR _ fA;rw[fx]at this;rw[jY]at g5;omega
   obtain⟨p1,p2⟩:=XK hg ho bR hb lF g1 Ma pI jZ;have kG:∀v∈vals,v.oneCell' = true:=λv hv=>by
    obtain⟨i,hi⟩:=List.getElem?_of_mem hv;have aK:=(cT.1 hi).1;obtain⟨y,m1,m2,m3⟩:=jZ i cs[i] (dc (by omega))
    rw[hi]at m1;simp at m1;subst m1;exact m3
   have ff:=run_storeCells_at P id B.cells.length el vals 0 c w g1 (by omega) kG
   have Bv:=G8 (P:=P) (w:=w) (ty:=ty) (base:=some ⟨id,0,none⟩) ht ja hk vc (hf w rfl) fA (λb hb=>by
    simp at hb;subst hb;rw[p6,jf,<-hu];exact ff) (λh=>by simp at h)
   refine⟨_,_,id,Bv,p1,p2,?_⟩;have rZ : (w.setRow id (c.toList.take B.cells.length++vals++c.toList.drop (B.cells.length+vals.length)).toArray).heap[id]? = some (.cells _ el (0,0)):=setRow_heap w id c _ el (0,0) g1;refine vT (B:=⟨B.k,B.cells++cs,.live⟩) (id:=id) (by simp[ar]) (.inl ⟨rfl,rfl⟩) rfl rZ fA ?_
   rw[jY]at g5 ⊢;simp only[List.size_toArray,bu,my,List.length_drop,nD];omega
  ·by_cases h0:len=0
   ·subst h0
    have xq:B.cells=[]:=dW (by omega)
    refine qZ (P:=P) (σ:=σ) (cells:=B.cells) (k0:=B.k) (b:=b) (olds:=[]) (ty:=ty) ht ja hk mi hz hg dg et hx hb jY hu (by rw[xq];rfl) (λw1 h1=>?_) (by rw[xq];simp) (by omega) fP
    have:=run_loadCells (P:=P) w1 ⟨id,o,none⟩ 0 (λ_=>undef) (λj hj=>absurd hj (Nat.not_lt_zero j));simpa[Builtin.firstCells]using this
   ·obtain rfl:=g3 (by omega)
    obtain⟨olds,k1,k2,k3⟩:=yb (P:=P) (cs:=B.cells) (off:=0) g1 (λi q hi=>by rw[jf];exact n4 i q hi)
    exact qZ (P:=P) (σ:=σ) (cells:=B.cells) (k0:=B.k) (b:=b) (olds:=olds) (ty:=ty) ht ja hk mi hz hg dg et hx hb jY hu k2 (λw1 h1=>by simp only[Builtin.firstCells];rw[<-hu];exact k1 w1 h1) k3 (by omega) fP
end
end Ab
namespace Ab
open Go
variable{P:Program}
section
variable{a:Act}{ρ:Operand->Value}{r:Rf->AV}{w:World}{C:Ctx}{R:Operand->Rf->Bool}{ce:CE}{σ:List ag}{nl:Nat}{ps:List aX}
theorem Bw{a b:Option Nat}(h:tQ a b=true):a=b:=by
 cases a<;>cases b<;>simp[tQ]at h<;>simp[h]
theorem sw{T T' e:TypeId}{k:Option Nat}(ht:aF P T=some e) (ja : (aF P T').isSome=true) (hk:bt P e k=true){ty:TypeId}{X:AV}{vx vs:Value}{cs:List AV}(hg:Good C w)
  (dg:∀b u B,C.lim b u->upto σ b u=some B->∃id,C.own b u=some (B,id)) (et:aG σ k X=some (0,cs)) (hx:VR C w.heap X vx) (hs:∃a l c,vs = .slice a l c/\l<=c) :
  (Builtin.append_ #[T,T'] ty #[vs,vx]).run P w = .ok vs w:=by
 obtain⟨base,l,c,rfl,Mb⟩:=hs;obtain⟨vals,⟨q,m,vc⟩,hf,gD,pI,jZ⟩:=qW (P:=P) et hg dg hx;have qC:vals=[]:=dW (by omega)
 subst qC;have:=G8 (P:=P) (w:=w) (w' :=w) (ty:=ty) (base:=base) (len:=l) (cap:=c) ht ja hk vc (hf w rfl) (by omega) (λb _=>rfl) (λ_=>rfl)
 simpa using this
theorem XO{o:Oper}{ca:Call}{s x:Operand}{t t' e:TypeId}{s' x' : Rf}{k:Option Nat}{z:AV}{p:Option aX}(ho:o.op = .call ca) (hc:ca.callee = .builtin .append) (ha:ca.args.toList=[s,x]) (eX:ca.argTypes.toList=[t,t'])
  (ht:aF P t=some e) (ja : (aF P t').isSome=true) (hk:bt P e k=true) (mi:fy P e=true) (hz:cV P e=true) (hg:Good C w)
  (dg:∀b u B,C.lim b u->upto σ b u=some B->∃id,C.own b u=some (B,id)) (hb:∀u,¬C.lim nl u)
  (ve:∀b u B cs,upto σ b u=some B->p=some (.grow b cs)->oC b ps=false->(∀n,u<n->¬C.lim b n)/\∀u' B' id', C.own b u' = some (B', id')->u' = u)
  (hs:VR C w.heap (r s') (a.eval s)) (hx:VR C w.heap (r x') (a.eval x)) (he:ev ce σ nl ps r (.app s' x' k)=some (z,p)):bA P o a w (iQ nl C w z p):=by
 simp only[ev]at he;cases et:aG σ k (r x')with
 |none=>simp[et]at he
 |some Mc=>
  obtain⟨n,cs⟩:=Mc;simp only[et]at he;cases gP : r s' <;>simp only[gP]at he<;>try(simp at he;done)
  ·-- nil
   rw[gP]at hs;have hv:a.eval s = .slice none 0 0:=hs
   by_cases hn:n=0
   ·subst hn
    simp at he;obtain⟨rfl,rfl⟩:=he;refine jX ho hc ha eX (sw ht ja hk hg dg et hx ⟨none,0,0,hv,bw 0⟩) ?_;exact(da.same hg (by rw[hv];exact rfl)).e
   ·have lr : (n==0)=false:=by simpa using hn
    simp only[lr, eE,eG]at he;split at he
    case isFalse=>simp at he
    rename_i fP;simp only[bF,Prod.mk.injEq]at he;obtain⟨rfl,rfl⟩:=he;obtain⟨v,w', id', h1,h2,h3,h4⟩:=qZ (P:=P) (σ:=σ) (cells:=[]) (k0:=k) (b:=nl) (len:=0) (cap:=0) (base:=none) (olds:=[]) (ty:=o.type) ht ja hk mi hz hg dg et hx (hb _) rfl (by simp) rfl (λw1 _=>by simp[Builtin.firstCells]) (by simp) (by omega) (by omega)
    rw[<-hv]at h1;simp only[q7,jf]at h2 h3 h4;exact jX ho hc ha eX h1 ⟨_,h2,h3,h4,id', rfl,rfl⟩
  ·-- an empty slice V6 room
   rw[gP]at hs;have oD:=hs;unfold VR at hs;obtain⟨a0,hv⟩:=hs
   by_cases hn:n=0
   ·subst hn
    simp at he;obtain⟨rfl,rfl⟩:=he;refine jX ho hc ha eX (sw ht ja hk hg dg et hx ⟨_,_,_,hv,bw 0⟩) ?_;exact(da.same hg oD).e
   ·have lr : (n==0)=false:=by simpa using hn
    simp only[lr, eE,eG]at he;split at he
    case isFalse=>simp at he
    rename_i fP;simp only[bF,Prod.mk.injEq]at he;obtain⟨rfl,rfl⟩:=he;obtain⟨olds,_,k1,k2,k3,k4⟩:=qW (P:=P) (σ:=σ) (k:=k) (X:=.emp) (v:=a.eval s) (n:=0) (cs:=[]) (by simp[aG]) hg dg oD
    rw[hv]at k1;obtain⟨v,w', id', h1,h2,h3,h4⟩:=qZ (P:=P) (σ:=σ) (cells:=[]) (k0:=k) (b:=nl) (len:=0) (cap:=0) (base:=a0) (olds:=olds) (ty:=o.type) ht ja hk mi hz hg dg et hx (hb _) rfl k2 k3 k1 k4 (by omega) (by omega)
    rw[<-hv]at h1;simp only[q7,jf]at h2 h3 h4;exact jX ho hc ha eX h1 ⟨_,h2,h3,h4,id', rfl,rfl⟩
  ·-- a literal
   rename_i l;rw[gP]at hs;have oD:=hs;unfold VR at hs;obtain⟨ak,off,st,c,el,fz,hv,hI,hH,hl⟩:=hs
   by_cases hn:n=0
   ·subst hn
    simp at he;obtain⟨rfl,rfl⟩:=he;refine jX ho hc ha eX (sw ht ja hk hg dg et hx ⟨_,_,_,hv,bw _⟩) ?_;refine(da.same hg ?_).e;split
    ·rename_i sh
     unfold VR;exact⟨sh,.inr ⟨ak,off,l.length,st,c,el,fz,hv,bw _,hI,hH,hl⟩⟩
    ·exact oD
   ·have lr : (n==0)=false:=by simpa using hn
    simp only[lr, eE,eG]at he;split at he
    case isFalse=>simp at he
    rename_i fk;simp only[aD,eP]at fk;simp only[bF,Prod.mk.injEq]at he;obtain⟨rfl,rfl⟩:=he;obtain⟨olds,_,k1,k2,k3,k4⟩:=qW (P:=P) (σ:=σ) (k:=k) (X:=.arr l) (v:=a.eval s) (n:=l.length) (cs:=l.flatMap AV.cells) (by simp only[aG,fk.1,dC]) hg dg oD
    rw[hv]at k1;obtain⟨v,w', id', h1,h2,h3,h4⟩:=qZ (P:=P) (σ:=σ) (cells:=l.flatMap AV.cells) (k0:=k) (b:=nl) (olds:=olds) (ty:=o.type) ht ja hk mi hz hg dg et hx (hb _) rfl k2 k3 k1 k4 (by omega) fk.2
    rw[<-hv]at h1;exact jX ho hc ha eX h1 ⟨_,h2,h3,h4,id', rfl,rfl⟩
  ·-- an owned slice
   rename_i b u off len;cases hu:upto σ b u with
   |none=>simp[hu]at he
   |some B=>
    simp only[hu]at he;split at he
    case isFalse=>simp at he
    rename_i fk;simp only[aD,cL,eP,Bool.not_eq_true']at fk;obtain⟨⟨⟨⟨rfl,oE⟩,fP⟩,XP⟩,vf⟩:=fk;have vf:=Bw vf;rw[gP]at hs;obtain⟨id,bH⟩:=dg b u B (yd hs) hu;have XQ :=(hg.kR b u B id bH).2.1
    by_cases hn:n=0
    ·subst hn
     simp at he;obtain⟨rfl,rfl⟩:=he;have vg:∃a' l' c', a.eval s = .slice a' l' c' /\l' <=c' :=by
      unfold VR at hs;obtain⟨⟨q,c,e1,e2,_⟩,_⟩:=hs;exact⟨_,_,_,e1,e2⟩
     exact jX ho hc ha eX (sw ht ja hk hg dg et hx vg) (da.same hg hs).e
    ·have lr : (n==0)=false:=by simpa using hn
     simp only[lr, eE,eG]at he;split at he
     case isTrue=>simp at he
     rename_i jM;simp at jM;simp only[bF,Prod.mk.injEq]at he;obtain⟨rfl,rfl⟩:=he;subst XQ;obtain⟨q1,q2⟩:=ve b _ B cs hu rfl XP;have aK:B.cells.length<(B.cells++cs).length:=by
      have:0<cs.length:=mz.2 jM;simp;omega
     obtain⟨v,w', id', h1,h2,h3,h4⟩:=L9 (P:=P) (σ:=σ) (ty:=o.type) ht ja hk mi hz hg dg et hx bH oE (by rw[vf]) hs (by omega) fP (vU hu) (q1 _ aK) q2
     have e1:B.cells.length+cs.length=(B.cells++cs).length:=by simp
     rw[e1];exact jX ho hc ha eX h1 ⟨_,h2,h3,h4,B,id,id', jM,bH,rfl,rfl⟩
end
end Ab
set_option linter.all false
namespace Ab
open Go
variable{P:Program}
def iT (σ:List ag) (ids:Nat->Nat) (I:Nat->Prop) (w:World) (x:AV) (bp : List ag) (v:Value) (w' : World):Prop:=
 ∃aJ I', Good (af bp aJ I') w' /\Step (af σ ids I) w (af bp aJ I') w' /\VR (af bp aJ I') w'.heap x v
theorem Md{c:Array Value}{off:Nat}{vals:List Value}(fA:off+vals.length<=c.size) :
  (c.toList.take off++vals++c.toList.drop (off+vals.length)).toArray.size=c.size/\∀i,(c.toList.take off++vals++c.toList.drop (off+vals.length)).toArray[i]? = if off<=i/\i<off+vals.length then vals[i-off]? else c[i]?:=by
 refine⟨by simp;omega,λi=>?_⟩
 simp only[List.getElem?_toArray]
 by_cases h1:i<off
 ·rw[aa (by omega),iS,ft (by simp;omega),sj h1];simp
 ·by_cases h2:i<off+vals.length
  ·rw[ab ⟨by omega,h2⟩,ft (by simp;omega),gm (by simp;omega)]
   congr 1;simp;omega
  ·rw[aa (by omega),gm (by simp;omega),lE]
   simp
   congr 1;omega
section
variable{a:Act}{ρ:Operand->Value}{r:Rf->AV}{w:World}{C:Ctx}{R:Operand->Rf->Bool}{ce:CE}{σ:List ag}{nl:Nat}{ps:List aX}
theorem ue{B:ag}{b id off:Nat}{new:List AV}{c:Array Value}{el:TypeId}{vals:List Value}(hg:Good C w) (ho:C.own b B.cells.length=some (B,id)) (hl:B.st = .live)
  (lF:∀u' B' id', C.own b u' = some (B', id')->u' = B.cells.length) (hH:w.heap[id]? = some (.cells c el (0,0))) (fA:off+new.length<=B.cells.length) (pI:vals.length=new.length)
  (hv:∀(i:Nat) q,new[i]? = some q->∃y,vals[i]? = some y/\VR C w.heap q y/\y.oneCell' = true) :
  Good {C with own:=λb' u' =>if b' = b/\u' = B.cells.length then some (⟨B.k,putAt B.cells off new,B.st⟩,id)else C.own b' u'} (w.setRow id (c.toList.take off++vals++c.toList.drop (off+vals.length)).toArray)/\
  Step C w {C with own:=λb' u' =>if b' = b/\u' = B.cells.length then some (⟨B.k,putAt B.cells off new,B.st⟩,id)else C.own b' u'} (w.setRow id (c.toList.take off++vals++c.toList.drop (off+vals.length)).toArray):=by
 have bH:owned C id:=⟨b,_,B,ho,lG hl⟩;obtain⟨n1,c0,el0,n2,n3,n4⟩:=hg.live b _ B id ho hl;rw[hH]at n2;simp only[bF,kF]at n2;obtain⟨rfl,rfl,_⟩:=n2;obtain⟨hs,gC⟩:=Md (c:=c) (off:=off) (vals:=vals) (by omega)
 generalize (c.toList.take off++vals++c.toList.drop (off+vals.length)).toArray=c' at *;obtain⟨pl,pg⟩:=q8 B.cells new off fA;obtain⟨_,_,Ha,jh⟩:=hg.kR b _ B id ho;generalize xr : ({C with own:=λb' u' =>if b' = b/\u' = B.cells.length then some (⟨B.k,putAt B.cells off new,B.st⟩,id)else C.own b' u'}:Ctx)=C'
 have j5 : ∀b' u', C'.own b' u' = if b' = b/\u' = B.cells.length then some (⟨B.k,putAt B.cells off new,B.st⟩,id)else C.own b' u' :=λb' u' =>by subst xr; rfl
 have xt : C'.I=C.I:=by subst xr; rfl
 have sx : C'.lim=C.lim:=by subst xr; rfl
 have ev:=L6 (c' :=c') hg bH hH hs C' (λk h=>by rw[xt];exact h) (λb u h=>by rw[sx];exact h) (λb' u' B' i AB aW =>by
  rw[j5]at aW
  by_cases e:b' = b/\u' = B.cells.length
  ·rw[ab e]at aW
   simp at aW; obtain⟨rfl,rfl⟩:=aW;exact⟨B,by rw[e.1,e.2];exact ho,rfl,rfl⟩
  ·rw[aa e]at aW
   exact⟨B', aW, rfl,rfl⟩)
 have qY:(w.setRow id c').heap[id]? = some (.cells c' el (0,0)):=setRow_heap w id c c' el (0,0) hH;have oF:∀b' u' B' i,C'.own b' u' = some (B', i)->B'.st.jE=true->∃Bu vb, C.own b' Bu = some (vb, i)/\vb.st.jE=true:=by
  intro b' u' B' i aW ct;rw[j5]at aW
  by_cases e:b' = b/\u' = B.cells.length
  ·rw[ab e]at aW
   simp at aW; obtain⟨rfl,rfl⟩:=aW;exact⟨_,B,by rw[e.1];exact ho,lG hl⟩
  ·rw[aa e]at aW
   exact⟨u', B', aW, ct⟩
 refine⟨⟨λk hk=>by rw[nw];rw[xt]at hk;exact hg.I k hk,λb' u' B' i aW =>?_,λb' u' B' i aW ct =>?_,λb1 u1 B1 i1 b2 u2 B2 i2 k1 l1 k2 l2 bY=>?_,λb' u' B' i es aW ct =>?_⟩,
  ⟨ev,by rw[nw];exact bw _,λk hk oB=>jW w id c' λe=>oB (e▸bH),λk hk=>?_,λk hk=>.inl (by rw[xt]at hk;exact hk),rfl,⟨rfl,bw _⟩,rfl⟩⟩
 ·rw[sx]
  rw[j5]at aW
  by_cases e:b' = b/\u' = B.cells.length
  ·rw[ab e]at aW
   simp at aW; obtain⟨rfl,rfl⟩:=aW;refine⟨by rw[e.1,e.2];exact(hg.kR b _ B id ho).1,by rw[e.2];exact pl.symm,λh=>?_,jh⟩
   have h0:=Ha h;have:new=[]:=by
    have:new.length=0:=by rw[h0]at fA;simp at fA;simp[fA]
    exact dW this
   have hz:(putAt B.cells off new).length=0:=by rw[pl,h0];rfl
   exact dW hz
  ·rw[aa e]at aW
   exact hg.kR b' u' B' i aW
 ·rw[xt]
  rw[j5]at aW
  by_cases e:b' = b/\u' = B.cells.length
  ·rw[ab e]at aW
   simp at aW; obtain⟨rfl,rfl⟩:=aW;refine⟨n1,c', el,qY,by rw[hs];show(putAt B.cells off new).length<=_;omega,λi q hi=>?_⟩
   have dw : (putAt B.cells off new)[i]? = some q:=hi;rw[pg]at dw;rw[gC]
   by_cases fc:off<=i/\i<off+new.length
   ·rw[ab fc]at dw
    obtain⟨y,m1,m2,m3⟩:=hv _ q dw;exact⟨y,by rw[ab (by omega)];exact m1,VR.mono ev _ _ m2,m3⟩
   ·rw[aa fc]at dw
    obtain⟨y,m1,m2,m3⟩:=n4 i q dw;exact⟨y,by rw[aa (by omega)];exact m1,VR.mono ev _ _ m2,m3⟩
  ·rw[aa e]at aW
   obtain⟨j1,c1,L7,j2,j3,j4⟩:=hg.live b' u' B' i aW ct
   by_cases hi:i=id
   ·subst hi
    have sv:b' = b:=Decidable.byContradiction λh=>hg.apart b' u' B' i b _ B i aW (lG ct) ho (lG hl) h rfl;subst sv;exact absurd ⟨rfl,lF u' B' i aW⟩ e
   ·refine⟨j1,c1,L7,by rw[jW w id c' hi];exact j2,j3,λi' q hq=>?_⟩
    obtain⟨y,m1,m2,m3⟩:=j4 i' q hq;exact⟨y,m1,VR.mono ev _ _ m2,m3⟩
 ·obtain⟨_,_,q1,q2⟩:=oF b1 u1 B1 i1 k1 l1
  obtain⟨_,_,q3,q4⟩:=oF b2 u2 B2 i2 k2 l2;exact hg.apart _ _ _ _ _ _ _ _ q1 q2 q3 q4 bY
 ·rw[j5]at aW
  by_cases e:b' = b/\u' = B.cells.length
  ·rw[ab e]at aW
   simp at aW; obtain⟨rfl,rfl⟩:=aW;rw[show(⟨B.k,putAt B.cells off new,B.st⟩:ag).st=B.st from rfl,hl]at ct;simp at ct
  ·rw[aa e]at aW
   have hi:i ≠ id:=λhi=>by
    subst hi;have sv:b' = b:=Decidable.byContradiction λh=>hg.apart b' u' B' i b _ B i aW (lB ct) ho (lG hl) h rfl;subst sv;exact e ⟨rfl,lF u' B' i aW⟩
   exact hg.cZ ev aW ct (jW w id c' hi) (by rw[xt];exact(hg.maps b' u' B' i es aW ct).1)
 ·obtain⟨b', u', B', aW, ct⟩:=hk
  obtain⟨Bu, vb, q1,q2⟩:=oF b' u' B' k aW ct;exact .inl ⟨b', Bu, vb, q1,q2⟩
theorem Me{B:ag}{b id:Nat}{es vW : List (AV×AV)}{l l' : Array MapEntry}{clock clock' : Nat}(hg:Good C w) (ho:C.own b 0=some (B,id)) (hl:B.st = .map es)
  (lF:∀u' B' id', C.own b u' = some (B', id')->u' = 0) (hH:w.heap[id]? = some (.map l clock)) (hm:MR C w.heap vW l'.toList) :
  Good {C with own:=λb' u' =>if b' = b/\u' = 0 then some (⟨B.k,B.cells,.map vW⟩,id)else C.own b' u'} {w with heap:=w.heap.setIfInBounds id (.map l' clock')}/\
  Step C w {C with own:=λb' u' =>if b' = b/\u' = 0 then some (⟨B.k,B.cells,.map vW⟩,id)else C.own b' u'} {w with heap:=w.heap.setIfInBounds id (.map l' clock')}:=by
 have bH:owned C id:=⟨b,_,B,ho,lB hl⟩;obtain⟨n1,_⟩:=hg.maps b _ B id es ho hl;obtain⟨nq,yg⟩:=Go.MapKept.heap_set (o' :=.map l' clock') hH;have mh:(w.heap.setIfInBounds id (.map l' clock')).size=w.heap.size:=by simp
 generalize w.heap.setIfInBounds id (.map l' clock')=H' at *;obtain⟨e1,e2,_,_⟩:=hg.kR b _ B id ho;generalize xr : ({C with own:=λb' u' =>if b' = b/\u' = 0 then some (⟨B.k,B.cells,.map vW⟩,id)else C.own b' u'}:Ctx)=C'
 have j5 : ∀b' u', C'.own b' u' = if b' = b/\u' = 0 then some (⟨B.k,B.cells,.map vW⟩,id)else C.own b' u' :=λb' u' =>by subst xr; rfl
 have xt : C'.I=C.I:=by subst xr; rfl
 have sx : C'.lim=C.lim:=by subst xr; rfl
 have dt:∀k,C.I k->H'[k]? = w.heap[k]?:=λk hk=>yg k λe=>n1 (e▸hk);have ev:fO C w.heap C' H' :=by
  refine⟨λk h=>by rw[xt];exact h,dt,λb u h=>by rw[sx];exact h,λb' u' B' i AB aW =>?_⟩
  rw[j5]at aW
  by_cases e:b' = b/\u' = 0
  ·rw[ab e]at aW
   simp at aW; obtain⟨rfl,rfl⟩:=aW;refine⟨B,by rw[e.1,e.2];exact ho,by rw[hl];rfl,rfl,λc el hc=>?_⟩
   rw[hH]at hc;simp at hc
  ·rw[aa e]at aW
   refine⟨B', aW, rfl,rfl,λc el hc=>⟨c,?_,rfl⟩⟩;have hi:i ≠ id:=λhi=>by subst hi;rw[hH]at hc;simp at hc
   rw[yg i hi];exact hc
 have oF:∀b' u' B' i,C'.own b' u' = some (B', i)->B'.st.jE=true->∃Bu vb, C.own b' Bu = some (vb, i)/\vb.st.jE=true:=by
  intro b' u' B' i aW ct;rw[j5]at aW
  by_cases e:b' = b/\u' = 0
  ·rw[ab e]at aW
   simp at aW; obtain⟨rfl,rfl⟩:=aW;exact⟨_,B,by rw[e.1];exact ho,lB hl⟩
  ·rw[aa e]at aW
   exact⟨u', B', aW, ct⟩
 refine⟨⟨λk hk=>by show k<H'.size;rw[mh];rw[xt]at hk;exact hg.I k hk,λb' u' B' i aW =>?_,λb' u' B' i aW ct =>?_,λb1 u1 B1 i1 b2 u2 B2 i2 k1 l1 k2 l2 bY=>?_,λb' u' B' i es1 aW ct =>?_⟩,
  ⟨ev,by show w.heap.size<=H'.size;rw[mh];exact bw _,λk hk oB=>yg k λe=>oB (e▸bH),λk hk=>?_,λk hk=>.inl (by rw[xt]at hk;exact hk),rfl,⟨rfl,bw _⟩,rfl⟩⟩
 ·rw[sx]
  rw[j5]at aW
  by_cases e:b' = b/\u' = 0
  ·rw[ab e]at aW
   simp at aW; obtain⟨rfl,rfl⟩:=aW;exact⟨by rw[e.1,e.2];exact e1,by rw[e.2];exact e2,λh=>by simp at h,by simp⟩
  ·rw[aa e]at aW
   exact hg.kR b' u' B' i aW
 ·rw[xt]
  rw[j5]at aW
  by_cases e:b' = b/\u' = 0
  ·rw[ab e]at aW
   simp at aW; obtain⟨rfl,rfl⟩:=aW;simp at ct
  ·rw[aa e]at aW
   obtain⟨j1,c1,L7,j2,j3,j4⟩:=hg.live b' u' B' i aW ct;have hi:i ≠ id:=λhi=>by subst hi;rw[hH]at j2;simp at j2
   refine⟨j1,c1,L7,by show H'[i]? = _;rw[yg i hi];exact j2,j3,λi' q hq=>?_⟩
   obtain⟨y,m1,m2,m3⟩:=j4 i' q hq;exact⟨y,m1,VR.mono ev _ _ m2,m3⟩
 ·obtain⟨_,_,q1,q2⟩:=oF b1 u1 B1 i1 k1 l1
  obtain⟨_,_,q3,q4⟩:=oF b2 u2 B2 i2 k2 l2;exact hg.apart _ _ _ _ _ _ _ _ q1 q2 q3 q4 bY
 ·rw[j5]at aW
  by_cases e:b' = b/\u' = 0
  ·rw[ab e]at aW
   simp at aW; obtain⟨rfl,rfl⟩:=aW;simp at ct; subst ct;exact⟨by rw[xt];exact n1,l', clock', nq,hm.mono ev⟩
  ·rw[aa e]at aW
   have hi:i ≠ id:=λhi=>by
    subst hi;have sv:b' = b:=Decidable.byContradiction λh=>hg.apart b' u' B' i b _ B i aW (lB ct) ho (lB hl) h rfl;subst sv;exact e ⟨rfl,lF u' B' i aW⟩
   exact hg.cZ (w' :={w with heap:=H'}) ev aW ct (yg i hi) (by rw[xt];exact(hg.maps b' u' B' i es1 aW ct).1)
 ·obtain⟨b', u', B', aW, ct⟩:=hk
  obtain⟨Bu, vb, q1,q2⟩:=oF b' u' B' k aW ct;exact .inl ⟨b', Bu, vb, q1,q2⟩
theorem mA{ids:Nat->Nat}{I:Nat->Prop}{b u:Nat}{B:ag}(h:ak σ b=some B):∀u' B' id', (af σ ids I).own b u' = some (B', id')->u' = B.cells.length:=λu' B' id' h' =>by
 simp only[af,h]at h';cases hs:B.st<;>simp only[hs]at h' <;>first
  |(split at h' <;>simp_all)
  |simp at h'
theorem q9{b u:Nat}{B:ag}(h:upto σ b u=some B):ak σ b=some B/\B.cells.length=u/\B.st ≠ .dead:=by
 unfold upto at h;cases hb:ak σ b with
 |none=>simp[hb]at h
 |some B' =>
  simp only[hb]at h;cases hs:B'.st<;>simp only[hs]at h<;>first
   |(simp at h;done)
   |(by_cases hu:B'.cells.length=u
     ·simp[hu]at h;subst h;exact⟨rfl,hu,by rw[hs];simp⟩
     ·simp[hu]at h)
theorem yh{b b' : Nat}{B:ag}(h:b<σ.length):ak (ay σ b B) b' = if b' = b then some B else ak σ b' :=by
 rw[dh,XR,dh,List.getElem?_set]
 by_cases e:b' = b
 ·subst e;simp[h]
 ·rw[aa (λh' =>e h'.symm),aa e]
theorem oG{ids:Nat->Nat}{I:Nat->Prop}{b:Nat}{B B' : ag}{id' : Nat}(hb:ak σ b=some B) (jh:B'.st ≠ .dead):∀b1 u1 e,(af (ay σ b B') (λq=>if q=b then id' else ids q) I).own b1 u1=some e->
  (if b1=b/\u1=B'.cells.length then some (B', id')else(af σ ids I).own b1 u1)=some e:=λb1 u1 e h=>by
 have aK:b<σ.length:=by rw[dh]at hb;exact(cT.1 hb).1
 simp only[af,yh aK]at h ⊢
 by_cases e1:b1=b
 ·subst e1
  simp only[dC]at h;cases hs:B'.st with
  |dead=>exact absurd hs jh
  |jN=>
   by_cases hu:B'.cells.length=u1
   ·simp only[hu,dC]at h
    rw[ab ⟨rfl,hu.symm⟩];exact h
   ·simp[hu]at h
  |live=>
   by_cases hu:B'.cells.length=u1
   ·simp only[hu,dC]at h
    rw[ab ⟨rfl,hu.symm⟩];exact h
   ·simp[hu]at h
  |map es=>
   by_cases hu:B'.cells.length=u1
   ·simp only[hu,dC]at h
    rw[ab ⟨rfl,hu.symm⟩];exact h
   ·simp[hu]at h
 ·rw[aa (λh' =>e1 h'.1)]
  simp only[aa e1]at h;exact h
theorem oH{ids aJ : Nat->Nat}{I:Nat->Prop}{b:Nat}{B B' : ag}(hb:ak σ b=some B) (hle:B.cells.length<=B'.cells.length):∀b1 u1,(af σ ids I).lim b1 u1->(af (ay σ b B') aJ I).lim b1 u1:=λb1 u1 ⟨B1,h1,h2⟩=>by
 have aK:b<σ.length:=by rw[dh]at hb;exact(cT.1 hb).1
 simp only[af,yh aK]
 by_cases e1:b1=b
 ·subst e1
  rw[hb]at h1;simp at h1;subst h1;exact⟨B', by simp,by omega⟩
 ·exact⟨B1,by rw[aa e1];exact h1,h2⟩
theorem Mf{ids:Nat->Nat}{I:Nat->Prop}{o:Oper}{t:TypeId}{p x:Operand}{p' x' : Rf}{n:Nat}{z:AV}{bp : List ag}(ho:o.op = .store t p x) (hn:bW P t n=true) (hg:Good (af σ ids I) w)
  (hp:VR (af σ ids I) w.heap (r p') (a.eval p)) (hx:VR (af σ ids I) w.heap (r x') (a.eval x)) (he:fC ce σ r (.st p' x' n)=some (z,bp)):bA P o a w (iT σ ids I w z bp):=by
 simp only[fC]at he;cases V7 : r p' <;>simp only[V7]at he<;>try(simp at he;done)
 rename_i b u off;cases hu:upto σ b u with
 |none=>simp[hu]at he
 |some B=>
  simp only[hu]at he;split at he
  case isFalse=>simp at he
  rename_i hc;simp only[aD,cL,eP]at hc;obtain⟨⟨⟨c1,c2⟩,c3⟩,c4⟩:=hc;simp only[bF,Prod.mk.injEq]at he;obtain⟨rfl,rfl⟩:=he;obtain⟨hb,oE,jh⟩:=q9 hu;have hs:B.st = .live:=by revert c3;cases B.st<;>simp[eo.isLive]
  have bH:=lC ids I hu;subst oE;rw[V7]at hp;unfold VR at hp;have e:=hp.2.2 B _ bH hs;obtain⟨_,c,el,hH,hle,j6⟩:=hg.live b _ B _ bH hs;have vX:=Bk c4;have mh:=VR.size vX hx;have hv:=G1 vX hx;obtain⟨g1,g2⟩:=ue (vals:=(a.eval x).cells.toList) (new:=(r x').cells) (off:=off) hg bH hs (mA (u:=0) hb) hH (by omega) (by simpa using mh) (λi q hi=>by
   obtain⟨y,k1,k2,k3⟩:=hv i q hi;exact⟨y,by rw[iR];exact k1,k2,k3⟩)
  obtain⟨pl,_⟩:=q8 B.cells (r x').cells off (by omega)
  have eQ:=oG (ids:=ids) (I:=I) (id' :=ids b) (B' :=⟨B.k,putAt B.cells off (r x').cells,B.st⟩) hb jh;have j7:(λq=>if q=b then ids b else ids q)=ids:=by funext q;split<;>simp_all
  rw[j7]at eQ;obtain⟨f1,f2⟩:=Good.shrink (C2:=af (ay σ b ⟨B.k,putAt B.cells off (r x').cells,B.st⟩) ids I) g1 rfl (λb1 u1 e1 h1=>by
   have:=eQ b1 u1 e1 h1;simp only[pl]at this;exact this) (λb1 u1 h1=>oH (ids:=ids) (I:=I) hb (by show _<=(putAt B.cells off (r x').cells).length;omega) b1 u1 h1)
  have kG:∀v∈(a.eval x).cells.toList,v.oneCell' = true:=(VR.cells vX hx).2;have ff:=run_storeCells_at P (ids b) off el (a.eval x).cells.toList 0 c w hH (by simp;omega) kG
  refine bA.skip (w' :=w.setRow (ids b) (c.toList.take off++(a.eval x).cells.toList++c.toList.drop (off+(a.eval x).cells.toList.length)).toArray) ?_ ⟨ids,I,f1,g2.trans f2,by unfold VR;trivial⟩
  have FI:=iP hn w;simp only[execOp,ho,Instr.storeAt,e,Instr.sureAddr,storeVar,aL,bh,aR,FI];rw[aa (by rw[mh,c1];simp)]
  simp only[Nat.add_zero]at ff;rw[ff]
  rfl
theorem Mg{ids:Nat->Nat}{I:Nat->Prop}{o:Oper}{t kt e:TypeId}{m k x:Operand}{m' k' x' : Rf}{kd:Nat}{z:AV}{bp : List ag}(ho:o.op = .mapUpdate t m k x\/o.op = .insert t m k x) (ht:P.underlying t=some (.map kt e)) (hk:dF P kt kd=true) (hg:Good (af σ ids I) w)
  (yi:VR (af σ ids I) w.heap (r m') (a.eval m)) (sA:VR (af σ ids I) w.heap (r k') (a.eval k)) (hx:VR (af σ ids I) w.heap (r x') (a.eval x)) (he:fC ce σ r (.vh m' kd k' x')=some (z,bp)):bA P o a w (iT σ ids I w z bp):=by
 simp only[fC]at he;cases nE : r m' <;>simp only[nE]at he<;>try(simp at he;done)
 rename_i b;rw[nE]at yi;cases hm:eY σ b with
 |none=>simp[hm]at he
 |some es=>
  simp only[hm]at he;split at he
  case isFalse=>simp at he
  rename_i hf;simp only[aD]at hf;cases hq:cH es (r k')with
  |none=>simp[hq]at he
  |some q=>
   cases q with
   |some _=>simp[hq]at he
   |none=>
    simp only[hq,bF,Prod.mk.injEq]at he;obtain⟨rfl,rfl⟩:=he;obtain⟨id,l,c,e1,hH,hM,B,hB,hs⟩:=Bx hg (λb u B _ hu=>⟨_,sB ids I hu⟩) hm yi;obtain⟨q', h1,h2⟩:=Hb hk hf.1 sA w hM hq;cases q' with
    |some _=>exact h2.elim
    |none=>
     have hc:=Hc hk hf.1 sA w false;obtain⟨hb,rfl⟩:=yj hB;have XS:=mA (ids:=ids) (I:=I) (u:=0) hb 0 B _ hB;have Mh : MR (af σ ids I) w.heap (es ++ [(r k', r x')]) (l.push {key:=a.eval k,val:=a.eval x,born:=c}).toList:=by
      rw[Array.toList_push];exact hM.push (Mi hf.1) sA hx
     obtain⟨g1,g2⟩:=Me (l' :=l.push {key:=a.eval k,val:=a.eval x,born:=c}) (clock' :=c+1) hg hB hs (λu' B' id' h=>by
      have:=mA (ids:=ids) (I:=I) (u:=0) hb u' B' id' h;omega) hH Mh
     have eQ:=oG (ids:=ids) (I:=I) (id' :=ids b) (B' :=⟨B.k,B.cells,.map (es ++ [(r k', r x')])⟩) hb (by simp)
     have j7:(λq=>if q=b then ids b else ids q)=ids:=by funext q;split<;>simp_all
     rw[j7]at eQ;have ji:oI σ b (es ++ [(r k', r x')])=ay σ b ⟨B.k,B.cells,.map (es ++ [(r k', r x')])⟩:=by simp only[oI,hb]
     rw[ji];obtain⟨f1,f2⟩:=Good.shrink (C2:=af (ay σ b ⟨B.k,B.cells,.map (es ++ [(r k', r x')])⟩) ids I) g1 rfl (λb1 u1 e1 h1=>by
      have:=eQ b1 u1 e1 h1;simp only[<-XS]at this;exact this) (λb1 u1 h1=>oH (ids:=ids) (I:=I) hb (by show _<=B.cells.length;omega) b1 u1 h1)
     refine bA.skip (w' :={w with heap:=w.heap.setIfInBounds (ids b) (.map (l.push {key:=a.eval k,val:=a.eval x,born:=c}) (c+1))}) ?_ ⟨ids,I,f1,g2.trans f2,by unfold VR;trivial⟩
     have cD:(Instr.mapUpdate t (a.eval m) (a.eval k) (a.eval x)).run P w = .ok () {w with heap:=w.heap.setIfInBounds (ids b) (.map (l.push {key:=a.eval k,val:=a.eval x,born:=c}) (c+1))}:=by
      rw[e1];simp only[Instr.mapUpdate,aL,run_underlying ht,aR,vY hH,hc,h1,Go.MapKept.run_setObj_map _ hH]
     rcases ho with ho|ho
     ·simp only[execOp,ho,aL,cD,aR,bh]
     ·simp only[execOp,ho,aL,cD,aR,bh]
theorem Mj{ids:Nat->Nat}{I:Nat->Prop}{b:Nat}{es vW : List (AV×AV)}{B:ag}{l l' : Array MapEntry}{c c' : Nat}(hg:Good (af σ ids I) w) (hb:ak σ b=some B) (hB:(af σ ids I).own b 0=some (B,ids b)) (hs:B.st = .map es)
  (hH:w.heap[ids b]? = some (.map l c)) (hM:MR (af σ ids I) w.heap vW l'.toList) :
  Good (af (oI σ b vW) ids I) {w with heap:=w.heap.setIfInBounds (ids b) (.map l' c')}/\Step (af σ ids I) w (af (oI σ b vW) ids I) {w with heap:=w.heap.setIfInBounds (ids b) (.map l' c')}:=by
 have XS:=mA (ids:=ids) (I:=I) (u:=0) hb 0 B _ hB;obtain⟨g1,g2⟩:=Me (l' :=l') (clock' :=c') hg hB hs (λu' B' id' h=>by
  have:=mA (ids:=ids) (I:=I) (u:=0) hb u' B' id' h;omega) hH hM
 have eQ:=oG (ids:=ids) (I:=I) (id' :=ids b) (B' :=⟨B.k,B.cells,.map vW⟩) hb (by simp)
 have j7:(λq=>if q=b then ids b else ids q)=ids:=by funext q;split<;>simp_all
 rw[j7]at eQ;have ji:oI σ b vW = ay σ b ⟨B.k,B.cells,.map vW⟩:=by simp only[oI,hb]
 rw[ji];obtain⟨f1,f2⟩:=Good.shrink (C2:=af (ay σ b ⟨B.k,B.cells,.map vW⟩) ids I) g1 rfl (λb1 u1 e1 h1=>by
  have:=eQ b1 u1 e1 h1;simp only[<-XS]at this;exact this) (λb1 u1 h1=>oH (ids:=ids) (I:=I) hb (by show _<=B.cells.length;omega) b1 u1 h1)
 exact⟨f1,g2.trans f2⟩
theorem Mk{ids:Nat->Nat}{I:Nat->Prop}{o:Oper}{t kt e:TypeId}{m k x:Operand}{m' k' x' : Rf}{kd:Nat}{z:AV}{bp : List ag}(ho:o.op = .mapUpdate t m k x\/o.op = .insert t m k x) (ht:P.underlying t=some (.map kt e)) (hk:dF P kt kd=true) (nZ:kd<2) (hg:Good (af σ ids I) w)
  (yi:VR (af σ ids I) w.heap (r m') (a.eval m)) (sA:VR (af σ ids I) w.heap (r k') (a.eval k)) (hx:VR (af σ ids I) w.heap (r x') (a.eval x)) (he:fC ce σ r (.xu m' kd k' x')=some (z,bp)):bA P o a w (iT σ ids I w z bp):=by
 simp only[fC]at he;cases nE : r m' <;>simp only[nE]at he<;>try(simp at he;done)
 rename_i b;rw[nE]at yi;cases hm:eY σ b with
 |none=>simp[hm]at he
 |some es=>
  simp only[hm]at he;split at he
  case isFalse=>simp at he
  rename_i hf;simp only[aD]at hf;have hc:=Hc hk hf.1 sA w false;obtain⟨id,l,c,e1,hH,hM,B,hB,hs⟩:=Bx hg (λb u B _ hu=>⟨_,sB ids I hu⟩) hm yi;obtain⟨hb,rfl⟩:=yj hB;have fin:∀{w'},(Instr.mapUpdate t (a.eval m) (a.eval k) (a.eval x)).run P w = .ok () w' ->iT σ ids I w .aM bp undef w' ->bA P o a w (iT σ ids I w .aM bp):=λcD hp=>by
   refine bA.skip ?_ hp;rcases ho with ho|ho
   ·simp only[execOp,ho,aL,cD,aR,bh]
   ·simp only[execOp,ho,aL,cD,aR,bh]
  cases hq:cH es (r k')with
  |none=>simp[hq]at he
  |some q=>
   cases q with
   |none=>
    simp only[hq,bF,Prod.mk.injEq]at he;obtain⟨rfl,rfl⟩:=he;obtain⟨q', h1,h2⟩:=Hb hk hf.1 sA w hM hq;cases q' with
    |some _=>exact h2.elim
    |none=>
     have Mh : MR (af σ ids I) w.heap (es ++ [(r k', r x')]) (l.push {key:=a.eval k,val:=a.eval x,born:=c}).toList:=by
      rw[Array.toList_push];exact hM.push (Mi hf.1) sA hx
     obtain⟨f1,f2⟩:=Mj (c' :=c+1) hg hb hB hs hH Mh;refine fin (w' :={w with heap:=w.heap.setIfInBounds (ids b) (.map (l.push {key:=a.eval k,val:=a.eval x,born:=c}) (c+1))}) ?_ ⟨ids,I,f1,f2,by unfold VR;trivial⟩
     rw[e1];simp only[Instr.mapUpdate,aL,run_underlying ht,aR,vY hH,hc,h1,Go.MapKept.run_setObj_map _ hH]
   |some y=>
    simp only[hq,bF,Prod.mk.injEq]at he;obtain⟨rfl,rfl⟩:=he;obtain⟨j,en,h1,h2,h3,h4⟩:=XT hk nZ hf.1 sA hx w hM hq;have Mh : MR (af σ ids I) w.heap (iU es (r k') (r x')) (l.modify j λe=>{e with key:=a.eval k,val:=a.eval x}).toList:=by
     have:(l.modify j λe=>{e with key:=a.eval k,val:=a.eval x}).toList=l.toList.set j {en with key:=a.eval k,val:=a.eval x}:=by
      rw[Array.toList_modify];apply List.ext_getElem?;intro i;rw[List.getElem?_modify,List.getElem?_set]
      by_cases hi:j=i
      ·subst hi
       have aK:=(cT.1 h2).1;simp only[dC,h2,lH,ab aK]
       rfl
      ·simp only[aa hi]
       cases l.toList[i]?<;>rfl
     rw[this];exact h4
    obtain⟨f1,f2⟩:=Mj (c' :=c) hg hb hB hs hH Mh;refine fin (w' :={w with heap:=w.heap.setIfInBounds (ids b) (.map (l.modify j λe=>{e with key:=a.eval k,val:=a.eval x}) c)}) ?_ ⟨ids,I,f1,f2,by unfold VR;trivial⟩
    have hj:l[j]? = some en:=by rw[<-Array.getElem?_toList];exact h2
    have bR:(Instr.keyThatStays (((l[j]?).map (·.key)).getD (a.eval k)) (a.eval k)).run P w = .ok (a.eval k) w:=by
     rw[hj];simp only[lH,Option.getD_some,h3];exact XU hk nZ hf.1 sA w
    rw[e1];simp only[Instr.mapUpdate,aL,run_underlying ht,aR,vY hH,hc,h1,bR,Go.MapKept.run_setObj_map _ hH]
end
end Ab
set_option linter.all false
namespace Ab
open Go
variable{P:Program}
section
variable{a:Act}{ρ:Operand->Value}{r:Rf->AV}{w:World}{C:Ctx}{R:Operand->Rf->Bool}{ce:CE}{σ:List ag}{nl:Nat}{ps:List aX}
theorem Ml{B:ag}{b:Nat}:ak (σ ++ [B]) b=if b=σ.length then some B else ak σ b:=by
 rw[dh,dh]
 by_cases e:b=σ.length
 ·subst e;simp
 ·rw[aa e]
  by_cases h:b<σ.length
  ·rw[ft h]
  ·rw[gm (by omega),jF (by simp;omega),jF (by omega)]
theorem By{ids:Nat->Nat}{I:Nat->Prop}{B:ag}{id:Nat}(jh:B.st ≠ .dead):∀b u e,(af (σ ++ [B]) (λq=>if q=σ.length then id else ids q) I).own b u=some e->(ar (af σ ids I) σ.length B.cells.length (B,id)).own b u=some e:=λb u e h=>by
 simp only[af,ar,Ml]at h ⊢
 by_cases e1:b=σ.length
 ·simp only[e1,dC]at h
  cases hs:B.st with
  |dead=>exact absurd hs jh
  |jN=>
   by_cases hu:B.cells.length=u
   ·simp only[hu,dC]at h
    rw[ab ⟨e1,hu.symm⟩];exact h
   ·simp[hu]at h
  |live=>
   by_cases hu:B.cells.length=u
   ·simp only[hu,dC]at h
    rw[ab ⟨e1,hu.symm⟩];exact h
   ·simp[hu]at h
  |map es=>
   by_cases hu:B.cells.length=u
   ·simp only[hu,dC]at h
    rw[ab ⟨e1,hu.symm⟩];exact h
   ·simp[hu]at h
 ·rw[aa (λh' =>e1 h'.1)]
  simp only[aa e1]at h;exact h
theorem Bz{ids aJ : Nat->Nat}{I:Nat->Prop}{B:ag}{id:Nat}:∀b u,(ar (af σ ids I) σ.length B.cells.length (B,id)).lim b u->(af (σ ++ [B]) aJ I).lim b u:=λb u h=>by
 simp only[af,ar,Ml]at h ⊢;rcases h with⟨rfl,rfl⟩|⟨B1,h1,h2⟩
 ·exact⟨B,by simp,bw _⟩
 ·have:b ≠ σ.length:=λe=>by
   rw[dh,jF (by omega)]at h1;simp at h1
  exact⟨B1,by rw[aa this];exact h1,h2⟩
theorem vZ{ids:Nat->Nat}{I:Nat->Prop}:∀u,¬(af σ ids I).lim σ.length u:=λu ⟨B1,h1,_⟩=>by
 rw[dh,jF (by omega)]at h1;simp at h1
theorem XV{ids:Nat->Nat}{I:Nat->Prop}{o:Oper}{ca:Call}{s x:Operand}{t t' e:TypeId}{s' x' : Rf}{k:Option Nat}{z:AV}{bp : List ag}(ho:o.op = .call ca) (hc:ca.callee = .builtin .append) (ha:ca.args.toList=[s,x]) (eX:ca.argTypes.toList=[t,t'])
  (ht:aF P t=some e) (ja : (aF P t').isSome=true) (hk:bt P e k=true) (mi:fy P e=true) (hz:cV P e=true) (hg:Good (af σ ids I) w)
  (hs:VR (af σ ids I) w.heap (r s') (a.eval s)) (hx:VR (af σ ids I) w.heap (r x') (a.eval x)) (he:fC ce σ r (.dm s' x' k)=some (z,bp)):bA P o a w (iT σ ids I w z bp):=by
 have dg:∀b u B,(af σ ids I).lim b u->upto σ b u=some B->∃id,(af σ ids I).own b u=some (B,id):=λb u B _ h=>⟨_,lC ids I h⟩
 -- a new block at the XW end
 have Hd:∀(B:ag) (x1:AV) v w' id', B.st = .live->Good (ar (af σ ids I) σ.length B.cells.length (B,id')) w' ->Step (af σ ids I) w (ar (af σ ids I) σ.length B.cells.length (B,id')) w' ->
   VR (ar (af σ ids I) σ.length B.cells.length (B,id')) w'.heap x1 v->iT σ ids I w x1 (σ ++ [B]) v w' :=λB x1 v w' id' bR h2 h3 h4=>by
  obtain⟨f1,f2⟩:=Good.shrink (C2:=af (σ ++ [B]) (λq=>if q=σ.length then id' else ids q) I) h2 rfl (By (by rw[bR];simp)) Bz
  exact⟨_,I,f1,h3.trans f2,VR.mono f2.ev _ _ h4⟩
 simp only[fC]at he;cases et:aG σ k (r x')with
 |none=>simp[et]at he
 |some Mc=>
  obtain⟨n,cs⟩:=Mc;simp only[et]at he;cases gP : r s' <;>simp only[gP]at he<;>try(simp at he;done)
  ·rw[gP]at hs
   have hv:a.eval s = .slice none 0 0:=hs
   by_cases hn:n=0
   ·subst hn
    simp at he;obtain⟨rfl,rfl⟩:=he;exact jX ho hc ha eX (sw ht ja hk hg dg et hx ⟨none,0,0,hv,bw 0⟩) ⟨ids,I,hg,Step.refl _ _,by rw[hv];exact rfl⟩
   ·have lr : (n==0)=false:=by simpa using hn
    simp only[lr, eE,eG]at he;split at he
    case isFalse=>simp at he
    rename_i fP;simp only[bF,Prod.mk.injEq]at he;obtain⟨rfl,rfl⟩:=he;obtain⟨v,w', id', h1,h2,h3,h4⟩:=qZ (P:=P) (σ:=σ) (cells:=[]) (k0:=k) (b:=σ.length) (len:=0) (cap:=0) (base:=none) (olds:=[]) (ty:=o.type) ht ja hk mi hz hg dg et hx (vZ _) rfl (by simp) rfl (λw1 _=>by simp[Builtin.firstCells]) (by simp) (by omega) (by omega)
    rw[<-hv]at h1;simp only[q7,jf]at h2 h3 h4;exact jX ho hc ha eX h1 (Hd ⟨k,cs,.live⟩ _ _ _ id' rfl h2 h3 h4)
  ·rw[gP]at hs
   have oD:=hs;unfold VR at hs;obtain⟨a0,hv⟩:=hs
   by_cases hn:n=0
   ·subst hn
    simp at he;obtain⟨rfl,rfl⟩:=he;exact jX ho hc ha eX (sw ht ja hk hg dg et hx ⟨_,_,_,hv,bw 0⟩) ⟨ids,I,hg,Step.refl _ _,oD⟩
   ·have lr : (n==0)=false:=by simpa using hn
    simp only[lr, eE,eG]at he;split at he
    case isFalse=>simp at he
    rename_i fP;simp only[bF,Prod.mk.injEq]at he;obtain⟨rfl,rfl⟩:=he;obtain⟨olds,_,k1,k2,k3,k4⟩:=qW (P:=P) (σ:=σ) (k:=k) (X:=.emp) (v:=a.eval s) (n:=0) (cs:=[]) (by simp[aG]) hg dg oD
    rw[hv]at k1;obtain⟨v,w', id', h1,h2,h3,h4⟩:=qZ (P:=P) (σ:=σ) (cells:=[]) (k0:=k) (b:=σ.length) (len:=0) (cap:=0) (base:=a0) (olds:=olds) (ty:=o.type) ht ja hk mi hz hg dg et hx (vZ _) rfl k2 k3 k1 k4 (by omega) (by omega)
    rw[<-hv]at h1;simp only[q7,jf]at h2 h3 h4;exact jX ho hc ha eX h1 (Hd ⟨k,cs,.live⟩ _ _ _ id' rfl h2 h3 h4)
  ·rename_i l
   rw[gP]at hs;have oD:=hs;unfold VR at hs;obtain⟨XX, off,st,c,el,fz,hv,hI,hH,hl⟩:=hs
   by_cases hn:n=0
   ·subst hn
    simp at he;obtain⟨rfl,rfl⟩:=he;refine jX ho hc ha eX (sw ht ja hk hg dg et hx ⟨_,_,_,hv,bw _⟩) ⟨ids,I,hg,Step.refl _ _,?_⟩;split
    ·rename_i sh
     unfold VR;exact⟨sh,.inr ⟨XX, off,l.length,st,c,el,fz,hv,bw _,hI,hH,hl⟩⟩
    ·exact oD
   ·have lr : (n==0)=false:=by simpa using hn
    simp only[lr, eE,eG]at he;split at he
    case isFalse=>simp at he
    rename_i fk;simp only[aD,eP]at fk;simp only[bF,Prod.mk.injEq]at he;obtain⟨rfl,rfl⟩:=he;obtain⟨olds,_,k1,k2,k3,k4⟩:=qW (P:=P) (σ:=σ) (k:=k) (X:=.arr l) (v:=a.eval s) (n:=l.length) (cs:=l.flatMap AV.cells) (by simp only[aG,fk.1,dC]) hg dg oD
    rw[hv]at k1;obtain⟨v,w', id', h1,h2,h3,h4⟩:=qZ (P:=P) (σ:=σ) (cells:=l.flatMap AV.cells) (k0:=k) (b:=σ.length) (olds:=olds) (ty:=o.type) ht ja hk mi hz hg dg et hx (vZ _) rfl k2 k3 k1 k4 (by omega) fk.2
    rw[<-hv]at h1;exact jX ho hc ha eX h1 (Hd ⟨k,l.flatMap AV.cells++cs,.live⟩ _ _ _ id' rfl h2 h3 h4)
  ·rename_i b u off len
   cases hu:upto σ b u with
   |none=>simp[hu]at he
   |some B=>
    simp only[hu]at he;split at he
    case isFalse=>simp at he
    rename_i fk;simp only[aD,cL,eP]at fk;obtain⟨⟨rfl,fP⟩,vf⟩:=fk;have vf:=Bw vf;obtain⟨hb,oE,jh⟩:=q9 hu;have bH:=lC ids I hu;subst oE;rw[gP]at hs
    by_cases hn:n=0
    ·subst hn
     simp at he;obtain⟨rfl,rfl⟩:=he;have vg:∃a' l' c', a.eval s = .slice a' l' c' /\l' <=c' :=by
      unfold VR at hs;obtain⟨⟨q,c,e1,e2,_⟩,_⟩:=hs;exact⟨_,_,_,e1,e2⟩
     exact jX ho hc ha eX (sw ht ja hk hg dg et hx vg) ⟨ids,I,hg,Step.refl _ _,hs⟩
    ·have lr : (n==0)=false:=by simpa using hn
     simp only[lr, eE,eG]at he;split at he
     case isTrue=>simp at he
     rename_i jM;simp at jM;have aoj : 0<cs.length:=mz.2 jM;split at he
     ·rename_i oE
      simp only[cL]at oE;simp only[bF,Prod.mk.injEq]at he;obtain⟨rfl,rfl⟩:=he;obtain⟨v,w', id', h1,h2,h3,h4⟩:=L9 (P:=P) (σ:=σ) (ty:=o.type) ht ja hk mi hz hg dg et hx bH oE (by rw[vf]) hs (by omega) fP (vU hu) (λ⟨B1,q1,q2⟩=>by rw[hb]at q1;simp at q1;subst q1;simp at q2;omega) (mA (u:=0) hb)
      have eQ:=oG (ids:=ids) (I:=I) (id' :=id') (B' :=⟨B.k,B.cells++cs,.live⟩) hb (by simp)
      obtain⟨f1,f2⟩:=Good.shrink (C2:=af (ay σ b ⟨B.k,B.cells++cs,.live⟩) (λq=>if q=b then id' else ids q) I) h2 rfl (λb1 u1 e1 h1=>eQ b1 u1 e1 h1) (λb1 u1 h1=>by
       rcases h1 with⟨e1,e2⟩|h1
       ·have aK:b<σ.length:=by rw[dh]at hb;exact(cT.1 hb).1
        exact⟨⟨B.k,B.cells++cs,.live⟩,by rw[yh aK,ab e1],by rw[e2];exact bw _⟩
       ·exact oH (ids:=ids) (I:=I) hb (by show _<=(B.cells++cs).length;simp) b1 u1 h1)
      have e1:B.cells.length+cs.length=(B.cells++cs).length:=by simp
      rw[e1];exact jX ho hc ha eX h1 ⟨_,I,f1,h3.trans f2,VR.mono f2.ev _ _ h4⟩
     ·split at he
      case isFalse=>simp at he
      rename_i hle;simp only[bF,Prod.mk.injEq]at he;obtain⟨rfl,rfl⟩:=he;obtain⟨vals,⟨q,m,vc⟩,hf,gD,pI,jZ⟩:=qW (P:=P) et hg dg hx;have BA:len*aC k+cs.length<=B.cells.length:=by rw[gD,<-Nat.add_mul];exact hle
      obtain⟨_,_,Ha,_⟩:=hg.kR b _ B _ bH;have dP:B.st = .live:=by
       cases bR:B.st with
       |dead=>exact absurd bR jh
       |map es=>have:=vU hu;rw[bR]at this;simp[eo.iz]at this
       |live=>rfl
       |jN=>
        have h0:B.cells.length=0:=by rw[Ha bR];rfl
        omega
      have Mm:=hs;unfold VR at Mm;have Mm:=Mm.2.2 B _ bH;simp only[dP]at Mm;obtain⟨c,el,o', cap,g1,hv,g3,g4,g5⟩:=Mm;obtain⟨_,c', mg, n2,n3,n4⟩:=hg.live b _ B _ bH dP;rw[g1]at n2;simp only[bF,kF]at n2;obtain⟨rfl,rfl,_⟩:=n2;rw[vf]at g5;have G5:0<aC k:=Nat.pos_of_ne_zero λh=>by rw[h,Nat.mul_zero]at gD;omega
      have fA:len+n<=cap:=by
       have:(len+n)*aC k<=cap*aC k:=by omega
       exact Nat.le_of_mul_le_mul_right this G5
      have pZ:0<cap:=by omega
      have XN:=g3 pZ;subst XN;have kG:∀v∈vals,v.oneCell' = true:=λv hv=>by
       obtain⟨i,hi⟩:=List.getElem?_of_mem hv;have aK:=(cT.1 hi).1;obtain⟨y,m1,m2,m3⟩:=jZ i cs[i] (dc (by omega))
       rw[hi]at m1;simp at m1;subst m1;exact m3
      have ff:=run_storeCells_at P (ids b) (len*aC k) el vals 0 c w g1 (by omega) kG
      have Bv:=G8 (P:=P) (w:=w) (ty:=o.type) (base:=some ⟨ids b,0,none⟩) ht ja hk vc (hf w rfl) fA (λb' rW =>by
       simp at rW; subst rW;rw[p6,jf];exact ff) (λh=>by simp at h)
      rw[<-hv]at Bv;obtain⟨p1,p2⟩:=ue (vals:=vals) (new:=cs) (off:=len*aC k) hg bH dP (mA (u:=0) hb) g1 BA pI jZ;obtain⟨pl,_⟩:=q8 B.cells cs (len*aC k) BA;have eQ:=oG (ids:=ids) (I:=I) (id' :=ids b) (B' :=⟨B.k,putAt B.cells (len*aC k) cs,B.st⟩) hb jh;have j7:(λq=>if q=b then ids b else ids q)=ids:=by funext q;split<;>simp_all
      rw[j7]at eQ;obtain⟨f1,f2⟩:=Good.shrink (C2:=af (ay σ b ⟨B.k,putAt B.cells (len*aC k) cs,B.st⟩) ids I) p1 rfl (λb1 u1 e1 h1=>by
       have:=eQ b1 u1 e1 h1;simp only[pl]at this;exact this) (λb1 u1 h1=>oH (ids:=ids) (I:=I) hb (by show _<=(putAt B.cells (len*aC k) cs).length;omega) b1 u1 h1)
      refine jX ho hc ha eX Bv ⟨ids,I,f1,p2.trans f2,?_⟩;have aK:b<σ.length:=by rw[dh]at hb;exact(cT.1 hb).1
      unfold VR;refine⟨⟨_,_,rfl,fA,λ_=>⟨_,rfl⟩⟩,⟨_,by rw[yh aK,ab rfl],by show _<=(putAt B.cells (len*aC k) cs).length;omega⟩,λB2 AD h2=>?_⟩
      have r5 :=eQ b _ _ h2;rw[ab ⟨rfl,pl.symm⟩]at r5;simp at r5;obtain⟨rfl,rfl⟩:=r5;simp only[dP];refine⟨_,el,0,cap,setRow_heap w (ids b) c _ el (0,0) g1,rfl,λ_=>rfl,fA,?_⟩;rw[(Md (by omega)).1,vf]
      exact g5
end
end Ab
set_option linter.all false
namespace Ab
open Go
variable{P:Program}
theorem yk (n:Nat):∀l:List AV,kM n l=l.map (jx n)
 | []=>rfl
 |x::r=>by simp only[kM,yk n r,db]
structure sC (n:Nat) (C1 C' : Ctx):Prop where
 aE:∀k,C1.I k->C'.I k
 lim:∀b u,C1.lim b u->C'.lim (b+n) u
 own:∀b u B' id,C1.lim b u->C'.own (b+n) u=some (B', id)->∃B,C1.own b u=some (B,id)/\B'.st=pJ n B.st/\B.k=B'.k
theorem XY{n:Nat}{B:ag}{es:List (AV×AV)}(h:(gM n B).st = .map es):∃KO,B.st = .map KO/\es=Mn n KO:=by
 have h:pJ n B.st = .map es:=h;cases hs:B.st with
 |map KO=>rw[hs]at h;simp[pJ]at h;exact⟨KO,rfl,h.symm⟩
 |jN=>rw[hs]at h;simp[pJ]at h
 |live=>rw[hs]at h;simp[pJ]at h
 |dead=>rw[hs]at h;simp[pJ]at h
theorem XZ{n:Nat}{s:eo}:(pJ n s).iz=s.iz:=by cases s<;>rfl
theorem yl{n:Nat}{s:eo}:(pJ n s).jE=s.jE:=by cases s<;>rfl
theorem Mp{n:Nat}{s:eo}(h:pJ n s = .live):s = .live:=by cases s<;>simp_all [pJ]
theorem X0{n:Nat}{s:eo}(h:pJ n s = .jN):s = .jN:=by cases s<;>simp_all [pJ]
theorem X1{n:Nat}{s:eo}(h:pJ n s = .dead):s = .dead:=by cases s<;>simp_all [pJ]
section
variable{n:Nat}{C1 C' : Ctx}{H:Array Obj}
mutual
theorem VR.shift (h:sC n C1 C'):∀(x:AV) (v:Value),VR C1 H x v->VR C' H (jx n x) v
 |.int _,_,hv=>hv
 |.ik _ _,_,hv=>hv
 |.bool _,_,hv=>hv
 |.str _,_,hv=>hv
 |.agg l,_,⟨vs,e,hl,hc⟩=>⟨vs,e,cd.shift h l vs hl,hc⟩
 |.bQ l,_,⟨vs,e,hl⟩=>⟨vs,e,cd.shift h l vs hl⟩
 |.ah,_,hv=>hv
 |.emp,_,hv=>hv
 |.aE nn l,v,hv=>VR.free (show ow C1 H C' H from⟨h.aE,λ_ _=>rfl⟩) (.aE nn l) v rfl hv
 |.arr l,v,hv=>by
  unfold VR at hv;unfold jx VR;obtain⟨b,off,st,c,el,fz,e,hI,hH,hl⟩:=hv;refine⟨b,off,st,c,el,fz,?_,h.aE b hI,hH,je.shift h c st l off hl⟩;rw[yk];simpa using e
 |.sl b u off len,v,hv=>by
  unfold VR at hv;unfold jx VR;obtain⟨h0,h1,h3⟩:=hv;refine⟨h0,h.lim b u h1,λB' id ho=>?_⟩;obtain⟨B,g1,g2,g3⟩:=h.own b u B' id h1 ho;have:=h3 B id g1;rw[g3]at this;rw[g2];cases hs:B.st<;>rw[hs]at this<;>simpa[pJ]using this
 |.ig,_,hv=>hv
 |.bd x,v,hv=>VR.free (show ow C1 H C' H from⟨h.aE,λ_ _=>rfl⟩) (.bd x) v rfl hv
 |.ptr b u off,v,hv=>by
  unfold VR at hv;unfold jx VR;obtain⟨h0,h1,h3⟩:=hv;refine⟨h0,h.lim b u h1,λB' id ho hl=>?_⟩;obtain⟨B,g1,g2,g3⟩:=h.own b u B' id h1 ho;exact h3 B id g1 (Mp (g2.symm.trans hl))
 |.kH,_,hv=>hv
 |.func _ l,_,⟨vs,e,hl⟩=>⟨vs,e,cd.shift h l vs hl⟩
 |.gQ,_,hv=>hv
 |.iface _ x,_,⟨y,e,hx⟩=>⟨y,e,VR.shift h x y hx⟩
 |.cM b,v,hv=>by
  unfold VR at hv;unfold jx VR;obtain⟨h0,h1,h3⟩:=hv;refine⟨h0,h.lim b 0 h1,λB' id ho hl=>?_⟩;obtain⟨B,g1,g2,g3⟩:=h.own b 0 B' id h1 ho;exact h3 B id g1 (by rw[g2,XZ]at hl;exact hl)
 |.p7,_,hv=>hv
 |.aM,_,_=>trivial
theorem cd.shift (h:sC n C1 C'):∀(l:List AV) (vs:List Value),cd C1 H l vs->cd C' H (kM n l) vs
 | [],_,hv=>hv
 |x::r,_,⟨v,s,e,hx,hr⟩=>⟨v,s,e,VR.shift h x v hx,cd.shift h r s hr⟩
theorem je.shift (h:sC n C1 C') (c:Array Value) (st:Nat):∀(l:List AV) (off:Nat),je C1 H c st l off->je C' H c st (kM n l) off
 | [],_,_=>trivial
 |x::r,off,⟨⟨v,hx,e,hj⟩,hr⟩=>⟨⟨v,VR.shift h x v hx,e,hj⟩,je.shift h c st r (off+st) hr⟩
end
theorem MR.shift (h:sC n C1 C'):∀{es:List (AV×AV)}{l:List MapEntry},MR C1 H es l->MR C' H (Mn n es) l
 | [],_,e=>e
 |(k,x)::r,_,⟨e,s,q,⟨k1,k2⟩,x2,hr⟩=>⟨e,s,q,⟨k1,VR.free ⟨h.aE,λ_ _=>rfl⟩ _ _ k1 k2⟩,VR.shift h _ _ x2,MR.shift h hr⟩
end
section
variable{a:Act}{ρ:Operand->Value}{r:Rf->AV}{w:World}{C:Ctx}{R:Operand->Rf->Bool}{ce:CE}{σ:List ag}{nl:Nat}{ps:List aX}
theorem X2{ids:Nat->Nat}{I:Nat->Prop}{o:Oper}{ca:Call}{f:Nat}{ys:List Rf}{z:AV}{bp : List ag}(dM:cx P ce) (ho:o.op = .call ca) (hc:ca.callee = .value (.func f)) (hb:cJ P f=true) (hg:Good (af σ ids I) w)
  (hx:cd (af σ ids I) w.heap (ys.map r) (ca.args.toList.map a.eval)) (he:fC ce σ r (.fF f ys)=some (z,bp)):bA P o a w (iT σ ids I w z bp):=by
 simp only[fC]at he;refine bA.call (Be ho hc hb w) ((dM f _ σ z bp he ids I w _ hg hx).mono ?_);rintro e w' ⟨v,aJ, I', rfl,h1,h2,h3⟩;exact⟨v,rfl,aJ, I', h1,h3,h2⟩
theorem X3{ids:Nat->Nat}{I:Nat->Prop}{o:Oper}{ca:Call}{x0:Operand}{y:Rf}{ys:List Rf}{z:AV}{bp : List ag}(dM:cx P ce) (jw:dY P ce) (ho:o.op = .call ca) (hc:ca.callee = .value x0) (hg:Good (af σ ids I) w)
  (h0:VR (af σ ids I) w.heap (r y) (a.eval x0)) (hx:cd (af σ ids I) w.heap (ys.map r) (ca.args.toList.map a.eval)) (he:fC ce σ r (.kT y ys)=some (z,bp)):bA P o a w (iT σ ids I w z bp):=by
 simp only[fC]at he;cases hy:r y<;>simp only[hy]at he<;>try(simp at he;done)
 rename_i f aI;rw[hy]at h0;unfold VR at h0;obtain⟨vs,e,hl⟩:=h0;refine bA.call (LH ho hc e (jw _ _ _ _ he) w) ((dM f _ σ z bp he ids I w _ hg (hx.append hl)).mono ?_);rintro e w' ⟨v,aJ, I', rfl,h1,h2,h3⟩;exact⟨v,rfl,aJ, I', h1,h3,h2⟩
theorem X4{ids:Nat->Nat}{I:Nat->Prop}{o:Oper}{ca:Call}{x0:Operand}{m:String}{gB:List (Nat×Nat)}{y:Rf}{ys:List Rf}{z:AV}{bp : List ag}(dM:cx P ce) (jw:dY P ce) (ho:o.op = .call ca) (hc:ca.callee = .invoke x0 m) (ht:mW P m gB=true) (hg:Good (af σ ids I) w)
  (h0:VR (af σ ids I) w.heap (r y) (a.eval x0)) (hx:cd (af σ ids I) w.heap (ys.map r) (ca.args.toList.map a.eval)) (he:fC ce σ r (.p8 y gB ys)=some (z,bp)):bA P o a w (iT σ ids I w z bp):=by
 simp only[fC]at he;cases hy:r y<;>simp only[hy]at he<;>try(simp at he;done)
 rename_i t q;cases hl:eK gB t with
 |none=>simp[hl]at he
 |some f=>
  simp only[hl]at he;rw[hy]at h0;unfold VR at h0;obtain⟨v,e,hq⟩:=h0;refine bA.call (LJ ho hc e ht hl (jw _ _ _ _ he) w) ((dM f _ σ z bp he ids I w _ hg ⟨v,_,rfl,hq,hx⟩).mono ?_);rintro e w' ⟨v,aJ, I', rfl,h1,h2,h3⟩;exact⟨v,rfl,aJ, I', h1,h3,h2⟩
theorem Mq{bp : List ag}{b:Nat}:ak (bp.map (gM nl)) b=(ak bp b).map (gM nl):=by
 rw[dh,dh];simp
theorem ym (B:ag):(gM nl B).cells.length=B.cells.length:=by simp[gM,yk]
theorem Mr{bp : List ag}{ids:Nat->Nat}{I I' : Nat->Prop}{b u:Nat}{B' : ag}{id:Nat}(h:(af (bp.map (gM nl)) ids I).own b u=some (B', id)):∃B,(af bp ids I').own b u=some (B,id)/\B' = gM nl B:=by
 simp only[af,Mq]at h ⊢;cases hb:ak bp b with
 |none=>simp[hb]at h
 |some B=>
  simp only[hb,lH]at h ⊢;have e1:(gM nl B).st=pJ nl B.st:=rfl;rw[e1,ym]at h;cases hs:B.st<;>simp only[hs,pJ]at h ⊢<;>first
   |(simp at h;done)
   |(by_cases hu:B.cells.length=u
     ·simp only[hu,dC]at h ⊢
      simp at h;exact⟨B,by rw[h.2],h.1.symm⟩
     ·simp[hu]at h)
theorem X5{o:Oper}{ca:Call}{f:Nat}{ys:List Rf}{x:AV}{p:Option aX}(dM:cx P ce) (ho:o.op = .call ca) (hc:ca.callee = .value (.func f)) (hb:cJ P f=true) (hg:Good C w)
  (BB:∀l,p=some (.news l)->∀b u,nl<=b->b<nl+l.length->¬C.lim b u)
  (hx:cd C w.heap (ys.map r) (ca.args.toList.map a.eval)) (he:ev ce σ nl ps r (.can f ys)=some (x,p)):bA P o a w (iQ nl C w x p):=by
 simp only[ev]at he;split at he
 case isFalse=>simp at he
 rename_i hn;cases KP:ce f (ys.map r) []with
 |none=>simp[KP]at he
 |some q=>
  obtain⟨v0,bp⟩:=q;simp only[KP,bF,Prod.mk.injEq]at he;obtain⟨rfl,rfl⟩:=he;have BB:=BB _ rfl;have qC:cd (af [] (λ_=>0) C.I) w.heap (ys.map r) (ca.args.toList.map a.eval):=cd.free (show ow C w.heap (af [] (λ_=>0) C.I) w.heap from⟨λ_ h=>h,λ_ _=>rfl⟩) _ _ hn hx;refine bA.call (Be ho hc hb w) ((dM f _ [] v0 bp KP (λ_=>0) C.I w _ (LC hg _) qC).mono ?_);rintro e w' ⟨v,aJ, I', rfl,xo,hr,hs⟩;refine⟨v,rfl,?_⟩;have hlen:(bp.map (gM nl)).length=bp.length:=by simp
  let C' : Ctx:={I:=I', own:=λb u=>if nl<=b/\b<nl+(bp.map (gM nl)).length then(af (bp.map (gM nl)) aJ C.I).own (b-nl) u else C.own b u,lim:=λb u=>(nl<=b/\(af (bp.map (gM nl)) aJ C.I).lim (b-nl) u)\/C.lim b u}
  have dt:∀k,k<w.heap.size->w'.heap[k]? = w.heap[k]?:=λk hk=>hs.frame k hk nm;have Ms:∀b u,(af bp aJ I').lim b u->b<bp.length:=λb u ⟨B,h1,_⟩=>by rw[dh]at h1;exact(cT.1 h1).1
  have FM:∀b u,(af (bp.map (gM nl)) aJ C.I).lim b u↔(af bp aJ I').lim b u:=λb u=>by
   simp only[af,Mq];constructor
   ·rintro⟨B,h1,h2⟩
    obtain⟨B0,h3,h4⟩:=nu.1 h1;subst h4;exact⟨B0,h3,by rwa [ym]at h2⟩
   ·rintro⟨B,h1,h2⟩
    exact⟨gM nl B,by rw[h1];rfl,by rw[ym];exact h2⟩
  have vg:sC nl (af bp aJ I') C' :=by
   refine⟨λ_ h=>h,λb u h=>.inl ⟨by omega,?_⟩,λb u B' id hl aW =>?_⟩
   ·rw[show b+nl-nl=b by omega];exact(FM b u).2 h
   ·have aK:=Ms b u hl
    have fc:nl<=b+nl/\b+nl<nl+(bp.map (gM nl)).length:=by rw[hlen];omega
    simp only[C', ab fc]at aW;rw[show b+nl-nl=b by omega]at aW
    obtain⟨B,h1,h2⟩:=Mr (I' :=I') aW;exact⟨B,h1,by rw[h2];rfl,by rw[h2];rfl⟩
  have G7 : fO C w.heap C' w'.heap:=by
   refine⟨λk hk=>hs.ev.aE k hk,λk hk=>dt k (hg.I k hk),λ_ _ h=>.inr h,λb u B' id hl aW =>?_⟩;have oB:¬(nl<=b/\b<nl+(bp.map (gM nl)).length):=λ⟨h1,h2⟩=>BB b u h1 h2 hl;simp only[C', aa oB]at aW;refine⟨B', aW, rfl,rfl,λc el fW =>⟨c,?_,rfl⟩⟩;rw[dt id (jd.1 fW).1];exact fW
  have nq:∀id,owned (af bp aJ I') id->w.heap.size<=id:=λid h=>(hs.fX id h).elim (λh=>absurd h nm) (λh=>h);have qD:∀b u B' id,C'.own b u=some (B', id)->(nl<=b/\b<nl+(bp.map (gM nl)).length/\∃B,(af bp aJ I').own (b-nl) u=some (B,id)/\B' = gM nl B)\/C.own b u=some (B', id):=λb u B' id h=>by
   by_cases fc:nl<=b/\b<nl+(bp.map (gM nl)).length
   ·simp only[C', ab fc]at h
    obtain⟨B,h1,h2⟩:=Mr (I' :=I') h;exact .inl ⟨fc.1,fc.2,B,h1,h2⟩
   ·simp only[C', aa fc]at h
    exact .inr h
  refine⟨C', ⟨xo.I,λb u B' id h=>?_,λb u B' id h hl=>?_,λb1 u1 B1 i1 b2 u2 B2 i2 k1 l1 k2 l2 bY=>?_,λb u B' id es h hl=>?_⟩,⟨G7, hs.size,λk hk _=>dt k hk,λk hk=>?_,λk hk=>?_,hs.os,hs.tape,hs.output⟩,VR.shift vg _ _ hr,aJ, rfl,rfl⟩
  ·rcases qD b u B' id h with⟨q1,q2,B,q3,rfl⟩|h'
   ·obtain⟨j1,j2,j3,j4⟩:=xo.kR _ _ _ _ q3
    exact⟨.inl ⟨q1,(FM _ _).2 j1⟩,by rw[ym];exact j2,λh0=>by
     have:B.cells=[]:=j3 (X0 h0);simp[gM,this,kM],λh0=>j4 (X1 h0)⟩
   ·obtain⟨j1,j2,j3,j4⟩:=hg.kR _ _ _ _ h'
    exact⟨.inr j1,j2,j3,j4⟩
  ·rcases qD b u B' id h with⟨q1,q2,B,q3,rfl⟩|h'
   ·obtain⟨j1,c,el,j2,j3,j4⟩:=xo.live _ _ _ _ q3 (Mp hl)
    refine⟨j1,c,el,j2,by rw[ym];exact j3,λi y hi=>?_⟩
    have dw : (kM nl B.cells)[i]? = some y:=hi;rw[yk,ie]at dw;obtain⟨y0,e1,rfl⟩:=nu.1 dw;obtain⟨v', m1,m2,m3⟩:=j4 i y0 e1;exact⟨v', m1,VR.shift vg _ _ m2,m3⟩
   ·obtain⟨j1,c,el,j2,j3,j4⟩:=hg.live _ _ _ _ h' hl
    have aK:=(jd.1 j2).1;refine⟨λhi=>?_,c,el,by rw[dt id aK];exact j2,j3,λi y hi=>?_⟩
    ·rcases hs.gA id hi with h1|h1|h1
     ·exact j1 h1
     ·exact nm h1
     ·omega
    ·obtain⟨v', m1,m2,m3⟩:=j4 i y hi
     exact⟨v', m1,VR.mono G7 _ _ m2,m3⟩
  ·rcases qD _ _ _ _ k1 with⟨q1,q2,B,q3,rfl⟩|h1<;>rcases qD _ _ _ _ k2 with⟨q4,q5,B', q6,rfl⟩|h2
   ·exact xo.apart _ _ _ _ _ _ _ _ q3 (yl.symm.trans l1) q6 (yl.symm.trans l2) (by omega)
   ·have:=nq i1 ⟨_,_,B,q3,yl.symm.trans l1⟩
    have:=hg.lt ⟨b2,u2,B2,h2,l2⟩;omega
   ·have:=nq i2 ⟨_,_,B', q6,yl.symm.trans l2⟩
    have:=hg.lt ⟨b1,u1,B1,h1,l1⟩;omega
   ·exact hg.apart _ _ _ _ _ _ _ _ h1 l1 h2 l2 bY
  ·rcases qD b u B' id h with⟨q1,q2,B,q3,rfl⟩|h'
   ·obtain⟨KO,He,rfl⟩:=XY hl
    obtain⟨j1,l,c,j2,j3⟩:=xo.maps _ _ _ _ KO q3 He;exact⟨j1,l,c,j2,MR.shift vg j3⟩
   ·have aK:=hg.lt ⟨_,_,_,h', lB hl⟩
    refine hg.cZ (C' :=C') G7 h' hl (dt id aK) λhi=>?_;rcases hs.gA id hi with h1|h1|h1
    ·exact(hg.maps _ _ _ _ _ h' hl).1 h1
    ·exact nm h1
    ·omega
  ·obtain⟨b,u,B', h1,h2⟩:=hk
   rcases qD _ _ _ _ h1 with⟨q1,q2,B,q3,rfl⟩|h'
   ·exact .inr (nq k ⟨_,_,B,q3,yl.symm.trans h2⟩)
   ·exact .inl ⟨b,u,B', h', h2⟩
  ·rcases hs.gA k hk with h1|h1|h1
   ·exact .inl h1
   ·exact absurd h1 nm
   ·exact .inr (.inr h1)
end
end Ab
namespace Ab
open Go
variable{P:Program}
section
variable{a:Act}{ρ:Operand->Value}{r:Rf->AV}{w:World}{C:Ctx}{R:Operand->Rf->Bool}{ce:CE}{σ:List ag}{nl:Nat}{ps:List aX}
theorem X6{o:Oper}{ca:Call}{x:Operand}{t:TypeId}{y:Rf}{z:AV}{p:Option aX}(ho:o.op = .call ca) (hc:ca.callee = .builtin .cap) (ha:ca.args.toList=[x]) (eX:ca.argTypes.toList=[t])
  (ht:(aF P t).isSome=true) (hx:VR C w.heap (r y) (ρ x)) (he:ev ce σ nl ps r (.Hf y)=some (z,p)):Plain P ρ o w C w.heap z/\p=none:=by
 obtain⟨e,xp⟩:=ss.1 ht;have hu:=jS xp w;simp only[ev]at he;cases bJ : r y<;>simp only[bJ]at he<;>try(simp at he;done)
 simp at he;obtain⟨rfl,rfl⟩:=he;rw[bJ]at hx;have hv:ρ x = .slice none 0 0:=hx;have ny : ca.args = #[x]:=by rw[<-Array.toList_inj];simpa using ha
 have nA : ca.argTypes = #[t]:=by rw[<-Array.toList_inj];simpa using eX
 refine⟨⟨.int .i64 0,?_,by unfold VR;rfl⟩,rfl⟩
 simp only[execOp,ho,resolve,hc,ny, nA, aL,bh,aR,invoke,builtin,Builtin.cap_];simp[hv,aL,hu,goInt]
theorem X7{ids:Nat->Nat}{I:Nat->Prop}{o:Oper}{ca:Call}{t e:TypeId}{x:Operand}{x' : Rf}{zc:List AV}{k:Option Nat}{z:AV}{bp : List ag}(ho:o.op = .call ca) (hc:ca.callee = .builtin .clear) (ha:ca.args.toList=[x]) (eX:ca.argTypes.toList=[t]) (ht:aF P t=some e) (hk:bt P e k=true) (hz:iE P e zc=true) (hg:Good (af σ ids I) w)
  (hx:VR (af σ ids I) w.heap (r x') (a.eval x)) (he:fC ce σ r (.vi x' zc k)=some (z,bp)):bA P o a w (iT σ ids I w z bp):=by
 simp only[fC]at he;cases bJ : r x' <;>simp only[bJ]at he<;>try(simp at he;done)
 rename_i b u off len;cases hu:upto σ b u with
 |none=>simp[hu]at he
 |some B=>
  simp only[hu]at he;split at he
  case isFalse=>simp at he
  rename_i lI;obtain⟨c0,c1,c2,c3,c4⟩:=lI;simp only[bF,Prod.mk.injEq]at he;obtain⟨rfl,rfl⟩:=he;obtain⟨hb,oE,jh⟩:=q9 hu;have hs:B.st = .live:=by revert c4;cases B.st<;>simp[eo.isLive]
  have bH:=lC ids I hu;subst oE;rw[bJ]at hx;unfold VR at hx;have AE:=hx.2.2 B _ bH;rw[hs]at AE;obtain⟨c', mg, o', cap,rZ, e,mB,Mb,jM⟩:=AE;rw[mB (by omega)]at e
  obtain⟨_,c,el,hH,hle,j6⟩:=hg.live b _ B _ bH hs;obtain⟨zv,z1,z2,z3⟩:=Bn (C:=af σ ids I) hz w;have G4:zv.cells.size=aC k:=by have:=cd.length z2;simp at this;omega
  obtain⟨d1,d2⟩:=G3 zc len;rw[c3]at d1 d2;have pI:(Builtin.zeroCells zv.cells len).toList.length=len*aC k:=by simp[Builtin.zeroCells,G4]
  obtain⟨g1,g2⟩:=ue (vals:=(Builtin.zeroCells zv.cells len).toList) (new:=eH len zc) (off:=off) hg bH hs (mA (u:=0) hb) hH (by omega) (by omega) (λj q hj=>by
   have aK:=(cT.1 hj).1;rw[d1]at aK;rw[d2 j aK]at hj;have G5:0<aC k:=Nat.pos_of_ne_zero λh=>by rw[h]at aK;simp at aK
   obtain⟨y,k1,k2⟩:=z2.get (j%aC k) q hj;rw[iR]at k1;refine⟨y,?_,k2,z3 y (by rw[ub];exact Array.mem_of_getElem? k1)⟩
   have hm:=Nat.mod_lt j G5;rw[jg (by omega:j%aC k<zv.cells.size)]at k1
   simp at k1;rw[iR];simp[Builtin.zeroCells,G4,aK,getElem!_def,jg (by omega:j%aC k<zv.cells.size),k1])
  obtain⟨pl,_⟩:=q8 B.cells (eH len zc) off (by omega)
  have eQ:=oG (ids:=ids) (I:=I) (id' :=ids b) (B' :=⟨B.k,putAt B.cells off (eH len zc),B.st⟩) hb jh;have j7:(λq=>if q=b then ids b else ids q)=ids:=by funext q;split<;>simp_all
  rw[j7]at eQ;obtain⟨f1,f2⟩:=Good.shrink (C2:=af (ay σ b ⟨B.k,putAt B.cells off (eH len zc),B.st⟩) ids I) g1 rfl (λb1 u1 e1 h1=>by
   have:=eQ b1 u1 e1 h1;simp only[pl]at this;exact this) (λb1 u1 h1=>oH (ids:=ids) (I:=I) hb (by show _<=(putAt B.cells off (eH len zc)).length;omega) b1 u1 h1)
  have kG:∀v∈(Builtin.zeroCells zv.cells len).toList,v.oneCell' = true:=λv hv=>by
   obtain⟨j,hj⟩:=sD.1 hv;have aK:=(cT.1 hj).1;rw[pI]at aK;have G5:0<aC k:=Nat.pos_of_ne_zero λh=>by rw[h]at aK;simp at aK
   have hm:=Nat.mod_lt j G5;rw[iR]at hj;simp[Builtin.zeroCells,G4,aK,getElem!_def,jg (by omega:j%aC k<zv.cells.size)]at hj
   subst hj;exact z3 _ (by rw[ub];exact Array.getElem_mem _)
  have ff:=run_storeCells_at P (ids b) off el (Builtin.zeroCells zv.cells len).toList 0 c w hH (by omega) kG
  simp only[Nat.add_zero]at ff;have ny : ca.args = #[x]:=by rw[<-Array.toList_inj];simpa using ha
  have nA : ca.argTypes = #[t]:=by rw[<-Array.toList_inj];simpa using eX
  obtain⟨n', rfl⟩:∃n', len=n' + 1:=⟨len-1,by omega⟩
  refine bA.val (v:=.tuple #[]) (w' :=w.setRow (ids b) (c.toList.take off++(Builtin.zeroCells zv.cells (n' + 1)).toList++c.toList.drop (off+(Builtin.zeroCells zv.cells (n' + 1)).toList.length)).toArray) ?_ ⟨ids,I,f1,g2.trans f2,by unfold VR;trivial⟩
  simp only[execOp,ho,resolve,hc,ny, nA, aL,bh,aR,invoke,builtin,Builtin.clear_];simp[e,aL,jS ht,z1,ff]
theorem X8{ids:Nat->Nat}{I:Nat->Prop}{o:Oper}{ca:Call}{t t' e:TypeId}{x y:Operand}{x' y' : Rf}{k:Option Nat}{z:AV}{bp : List ag}(ho:o.op = .call ca) (hc:ca.callee = .builtin .copy) (ha:ca.args.toList=[x,y]) (eX:ca.argTypes.toList=[t,t']) (ht:aF P t=some e) (hk:bt P e k=true) (hg:Good (af σ ids I) w)
  (hx:VR (af σ ids I) w.heap (r x') (a.eval x)) (hy:VR (af σ ids I) w.heap (r y') (a.eval y)) (he:fC ce σ r (.FN x' y' k)=some (z,bp)):bA P o a w (iT σ ids I w z bp):=by
 simp only[fC]at he;cases gP : aG σ k (r y')with
 |none=>simp[gP]at he
 |some Mc=>
 obtain⟨n,cs⟩:=Mc;simp only[gP]at he;cases bJ : r x' <;>simp only[bJ]at he<;>try(simp at he;done)
 rename_i b u off len;cases hu:upto σ b u with
 |none=>simp[hu]at he
 |some B=>
  simp only[hu]at he;split at he
  case isFalse=>simp at he
  rename_i lI;obtain⟨c1,c2,c4⟩:=lI;obtain⟨hb,oE,jh⟩:=q9 hu;have hs:B.st = .live:=by revert c4;cases B.st<;>simp[eo.isLive]
  have bH:=lC ids I hu;subst oE;rw[bJ]at hx;unfold VR at hx;have AE:=hx.2.2 B _ bH;rw[hs]at AE;obtain⟨c', mg, o', cap,rZ, e1,mB,Mb,jM⟩:=AE;obtain⟨vals,⟨q,mm,e2⟩,Mt,gD,pI,jZ⟩:=XA (P:=P) gP (show min n len<=n by omega) hg (λb u B _ h=>⟨_,lC ids I h⟩) hy
  have ny : ca.args = #[x,y]:=by rw[<-Array.toList_inj];simpa using ha
  have nA : ca.argTypes = #[t,t']:=by rw[<-Array.toList_inj];simpa using eX
  have mh:=iP (kD hk) w
  by_cases h0:min n len=0
  ·rw[ab h0]at he
   simp only[bF,Prod.mk.injEq]at he;obtain⟨rfl,rfl⟩:=he;rw[h0]at Mt pI;obtain rfl:vals=[]:=dW (by simpa using pI)
   refine bA.val (v:=.int .i64 0) (w' :=w) ?_ ⟨ids,I,hg,Step.refl _ _,by unfold VR;rfl⟩
   simp only[execOp,ho,resolve,hc,ny, nA, aL,bh,aR,invoke,builtin,Builtin.copy_];rw[e2]at Mt;simp[e1,e2,aL,jS ht,Builtin.lenOf,mh,Mt,h0,goInt,storeCells]
  ·rw[aa h0]at he
   simp only[bF,Prod.mk.injEq]at he;obtain⟨rfl,rfl⟩:=he;rw[mB (by omega)]at e1
   obtain⟨_,c,el,hH,hle,j6⟩:=hg.live b _ B _ bH hs;have aok:min n len*aC k<=n*aC k:=jR _ (by omega)
   have aol:min n len*aC k<=len*aC k:=jR _ (by omega)
   have sh:(cs.take (min n len*aC k)).length=min n len*aC k:=by rw[my,gD];omega
   obtain⟨g1,g2⟩:=ue (vals:=vals) (new:=cs.take (min n len*aC k)) (off:=off) hg bH hs (mA (u:=0) hb) hH (by omega) (by omega) jZ
   obtain⟨pl,_⟩:=q8 B.cells (cs.take (min n len*aC k)) off (by omega)
   have eQ:=oG (ids:=ids) (I:=I) (id' :=ids b) (B' :=⟨B.k,putAt B.cells off (cs.take (min n len*aC k)),B.st⟩) hb jh;have j7:(λq=>if q=b then ids b else ids q)=ids:=by funext q;split<;>simp_all
   rw[j7]at eQ;obtain⟨f1,f2⟩:=Good.shrink (C2:=af (ay σ b ⟨B.k,putAt B.cells off (cs.take (min n len*aC k)),B.st⟩) ids I) g1 rfl (λb1 u1 e1 h1=>by
    have:=eQ b1 u1 e1 h1;simp only[pl]at this;exact this) (λb1 u1 h1=>oH (ids:=ids) (I:=I) hb (by show _<=(putAt B.cells off (cs.take (min n len*aC k))).length;omega) b1 u1 h1)
   have kG:∀v∈vals,v.oneCell' = true:=λv hv=>by
    obtain⟨j,hj⟩:=sD.1 hv;have aK:=(cT.1 hj).1;obtain⟨y', m1,_,m3⟩:=jZ j _ (dc (by omega))
    rw[hj]at m1;cases m1;exact m3
   have ff:=run_storeCells_at P (ids b) off el vals 0 c w hH (by omega) kG
   simp only[Nat.add_zero]at ff;refine bA.val (v:=.int .i64 (min n len:Nat)) (w' :=w.setRow (ids b) (c.toList.take off++vals++c.toList.drop (off+vals.length)).toArray) ?_ ⟨ids,I,f1,g2.trans f2,by unfold VR;rfl⟩
   simp only[execOp,ho,resolve,hc,ny, nA, aL,bh,aR,invoke,builtin,Builtin.copy_];rw[e2]at Mt;simp[e1,e2,aL,jS ht,Builtin.lenOf,mh,Mt,goInt,ff]
end
end Ab
namespace Ab
open Go
variable{P:Program}
section
variable{a:Act}{r:Rf->AV}{w:World}{C:Ctx}{R:Operand->Rf->Bool}{ce:CE}{σ:List ag}{nl:Nat}{ps:List aX}
theorem FO{o:Oper}{x0:Operand}{y:Rf}{x:AV}{p:Option aX}(ho:o.op = .move x0\/o.op = .assign x0) (hg:Good C w) (h0:VR C w.heap (r y) (a.eval x0)) (he:ev ce σ nl ps r (.mv y)=some (x,p)) :
  bA P o a w (da C w x)/\p=none:=by
 simp[ev]at he;obtain⟨rfl,rfl⟩:=he;refine⟨bA.val (v:=a.eval x0) (w' :=w) ?_ (da.same hg h0),rfl⟩;rcases ho with ho|ho<;>simp only[execOp,ho,bh]
def cU.mY:cU->Bool
 |.gn _ | .ku ..=>true
 |_=>false
theorem X9{x:Rf}{lo hi:Option Rf}{st:Nat}{z:AV×Option aX}(h:ev ce σ nl ps r (.Ya x lo hi st)=some z):ev ce [] nl ps r (.pK x lo hi st)=some z:=by
 simp only[ev]at h ⊢;cases h1:tR r lo with
 |none=>simp[h1]at h
 |some a=>
  cases h2:tS r hi with
  |none=>simp[h1,h2]at h
  |some b=>
   simp only[h1,h2]at h ⊢;cases h3:r x<;>simp only[h3]at h ⊢<;>first|exact h|simp at h
theorem opP{o:Oper}{oJ:cU}{x:AV}{p:Option aX}(au:lJ P R o.op oJ=true) (hP:oJ.jG=true) (yn:oJ.mY=false) (dM:cx P ce) (jw:dY P ce) (hg:Good C w)
  (hR:∀x y,R x y=true->VR C w.heap (r y) (a.eval x)) (AF:r (.c (.int 0)) = .int 0) (he:ev ce σ nl ps r oJ=some (x,p)):bA P o a w (da C w x)/\p=none:=by
 obtain⟨dst,op,type,pos,after,guard⟩:=o;have pl:∀{x' : AV} {p' : Option aX},Plain P a.eval ⟨dst,op,type,pos,after,guard⟩ w C w.heap x' /\p' = none->bA P ⟨dst,op,type,pos,after,guard⟩ a w (da C w x')/\p' = none:=λh=>⟨h.1.does hg,h.2⟩;simp only[lJ]at au;split at au
 ·exact FO (.inl rfl) hg (hR _ _ au) he
 ·exact FO (.inr rfl) hg (hR _ _ au) he
 ·simp[cU.jG]at hP
 ·simp only[aD]at au
  exact pl (Yb rfl au.1.1 (hR _ _ au.1.2) (hR _ _ au.2) he)
 ·simp only[aD]at au
  exact pl (Yc rfl au.1.1.1 au.1.1.2 (hR _ _ au.1.2) (hR _ _ au.2) he)
 ·simp only[aD]at au
  exact pl (Yd rfl au.1.1.1 au.1.1.2 (hR _ _ au.1.2) (hR _ _ au.2) he)
 ·simp[cU.jG]at hP
 ·exact pl (Ye rfl (hR _ _ au) he)
 ·exact pl (Yf rfl (hR _ _ au) AF he)
 ·simp only[aD]at au
  exact pl (Yg rfl (hR _ _ au.1.1) (hR _ _ au.1.2) (hR _ _ au.2) he)
 ·split at au
  ·rename_i ha eX
   simp only[aD]at au;exact pl (Yh rfl rfl ha eX au.1 (hR _ _ au.2) he)
  ·simp at au
 ·split at au
  ·rename_i ha
   simp only[aD]at au;exact pl (FP (m:=true) rfl rfl ha (hR _ _ au.1) (hR _ _ au.2) he)
  ·simp at au
 ·split at au
  ·rename_i ha
   simp only[aD]at au;exact pl (FP (m:=false) rfl rfl ha (hR _ _ au.1) (hR _ _ au.2) he)
  ·simp at au
 ·simp only[aD]at au
  obtain⟨h1,h2⟩:=au;split at h1
  ·rename_i fs hs
   split at h1
   ·rename_i fl hf
    simp only[aD,cL,Bool.not_eq_true']at h1;exact pl (Yi rfl hs hf h1.1.1 h1.1.2 h1.2 (hR _ _ h2) he)
   ·simp at h1
  ·simp at h1
 ·simp only[aD]at au
  obtain⟨h1,h2⟩:=au;split at h1
  ·rename_i fs hs
   split at h1
   ·rename_i fl hf
    simp only[aD,cL]at h1;exact pl (Yj rfl hs hf h1.1 h1.2 (hR _ _ h2) he)
   ·simp at h1
  ·simp at h1
 ·simp only[aD]at au
  obtain⟨⟨h1,h2⟩,h3⟩:=au;split at h1
  ·rename_i e ht
   exact pl (Yk rfl ht h1 (hR _ _ h2) (hR _ _ h3) he)
  ·simp at h1
 ·simp only[aD]at au
  obtain⟨⟨h1,h2⟩,h3⟩:=au;split at h1
  ·rename_i m e ht
   simp only[aD,cL,eP]at h1;obtain⟨⟨rfl,hk⟩,_⟩:=h1;exact pl (Yl rfl ht hk (hR _ _ h2) (hR _ _ h3) he)
  ·simp at h1
 ·exact pl (Ym rfl (hR _ _ au) he)
 ·exact Xm rfl hg (hR _ _ au) he
 ·simp[cU.jG]at hP
 ·simp[cU.jG]at hP
 ·simp[cU.mY]at yn
 ·simp[cU.mY]at yn
 ·simp[cU.jG]at hP
 ·simp[cU.jG]at hP
 ·simp only[aD]at au
  exact pl (Mu rfl au.1 (hR _ _ au.2) he)
 ·simp only[aD]at au
  exact pl (Yn rfl au.1 au.2 hR he)
 ·simp only[aD]at au
  obtain⟨⟨h1,h2⟩,h3⟩:=au;split at h1
  ·rename_i m e ht
   simp only[aD,cL]at h1;obtain⟨rfl,hk⟩:=h1;exact pl (Yo rfl ht hk (hR _ _ h2) (hR _ _ h3) he)
  ·simp at h1
 ·simp only[aD,cL]at au
  obtain⟨rfl,h2⟩:=au;exact pl (Yp rfl (hR _ _ h2) he)
 ·simp only[aD,cL]at au
  obtain⟨⟨h1,rfl⟩,h2⟩:=au;exact pl (Yq rfl h1 (lK hR h2) he)
 ·simp only[aD,cL]at au
  obtain⟨⟨rfl,h1⟩,h2⟩:=au;exact pl (Yr rfl h1 (hR _ _ h2) he)
 ·simp only[aD]at au
  obtain⟨⟨⟨h1,h2⟩,h3⟩,h4⟩:=au;split at h1
  ·rename_i e ht
   simp only[aD,eP]at h1;exact Xp rfl ht h1.1.1 h1.1.2 h1.2 h2 h3 hg (lK hR h4) he
  ·simp at h1
 ·simp only[aD]at au
  obtain⟨⟨⟨h1,h2⟩,h3⟩,h4⟩:=au;split at h1
  ·rename_i e ht
   simp only[aD,eP]at h1;exact LP rfl ht h1.1.1 h1.1.2 h1.2 h2 h3 hg (lK hR h4) he
  ·simp at h1
 ·simp[cU.jG]at hP
 ·simp[cU.jG]at hP
 ·simp only[aD]at au
  obtain⟨⟨⟨h1,h2⟩,h3⟩,h4⟩:=au;split at h1
  ·rename_i e ht
   exact pl (Yt rfl ht h1 (hR _ _ h2) (hR _ _ h3) (hR _ _ h4) he)
  ·simp at h1
 ·simp only[aD]at au
  exact pl (Yu rfl au.1 (hR _ _ au.2) he)
 ·simp[cU.jG]at hP
 ·simp[cU.jG]at hP
 ·simp[cU.jG]at hP
 ·simp only[aD,cL]at au
  obtain⟨⟨rfl,h1⟩,h2⟩:=au;exact Xi dM rfl rfl h1 hg (lK hR h2) he
 ·simp[cU.jG]at hP
 ·simp[cU.jG]at hP
 ·simp[cU.jG]at hP
 ·simp only[aD]at au
  exact Xj dM jw rfl rfl hg (hR _ _ au.1) (lK hR au.2) he
 ·simp[cU.jG]at hP
 ·simp only[aD]at au
  exact Xk dM jw rfl rfl au.2 hg (hR _ _ au.1.1) (lK hR au.1.2) he
 ·simp[cU.jG]at hP
 ·split at au
  ·rename_i ha eX
   simp only[aD]at au;exact pl (X6 rfl rfl ha eX au.1 (hR _ _ au.2) he)
  ·simp at au
 ·simp[cU.jG]at hP
 ·simp[cU.jG]at hP
 ·simp[cU.jG]at hP
 ·simp[cU.jG]at hP
 ·simp[cU.jG]at hP
 ·simp[cU.jG]at hP
 ·simp only[aD]at au
  exact pl (Yv rfl au.1 (hR _ _ au.2) he)
 ·simp only[aD]at au
  exact pl (Yw rfl (hR _ _ au.1) (hR _ _ au.2) he)
 ·simp only[aD]at au
  exact pl (Yx rfl (hR _ _ au.1) (hR _ _ au.2) he)
 ·simp only[aD]at au
  exact pl (Yy rfl au.1 (hR _ _ au.2) he)
 ·simp[cU.jG]at hP
 ·simp[cU.jG]at hP
 ·simp[cU.jG]at hP
 ·simp[cU.jG]at hP
 ·simp only[aD]at au
  exact Xn rfl au.1 hg (hR _ _ au.2) he
 ·simp only[aD]at au
  exact pl (Yz rfl au.1.1 (hR _ _ au.1.2) (hR _ _ au.2) he)
 ·simp only[aD]at au
  exact pl (YA rfl au.1 (hR _ _ au.2) he)
 ·simp only[aD]at au
  exact pl (YB rfl (hR _ _ au.1) (hR _ _ au.2) he)
 ·simp only[aD]at au
  exact pl (YC rfl au.1.1.1 au.1.1.2 (hR _ _ au.1.2) (hR _ _ au.2) he)
 ·simp only[aD]at au
  obtain⟨⟨⟨h1,h2⟩,h3⟩,h4⟩:=au;split at h1
  ·rename_i e ht
   have xp : ev ce [] nl ps r (.pK _ _ _ _)=some (x,p):=X9 he;exact pl (Hg (σ:=[]) rfl ht h1 (λb u B _ hu=>by simp[upto,ak]at hu) (hR _ _ h2) h3 h4 hR xp)
  ·simp at h1
 ·simp only[aD,cL]at au
  obtain⟨⟨h1,h2⟩,h3⟩:=au;split at h1
  ·rename_i e ht
   simp only[aD]at h1;exact Xr rfl ht h1.1 h1.2 h2 h3 hg he
  ·simp at h1
 ·simp only[aD]at au
  obtain⟨⟨⟨h1,h2⟩,h3⟩,h4⟩:=au;split at h1
  ·rename_i e ht
   exact pl (YD (a:=a) rfl ht h1 h2 h3 rfl (hR _ _ h4) he)
  ·simp at h1
 ·simp only[aD]at au
  exact pl (YE rfl au.1.1.1 au.1.1.2 (hR _ _ au.1.2) (hR _ _ au.2) he)
 ·simp at au
theorem YF{o:Oper}{x:AV}{p:Option aX}(h:bA P o a w (da C w x)/\p=none):bA P o a w (iQ nl C w x p):=by
 obtain⟨h1,rfl⟩:=h;exact h1.mono λv w' h=>h.e
theorem opE{o:Oper}{oJ:cU}{x:AV}{p:Option aX}(au:lJ P R o.op oJ=true) (hW:oJ.kN=false) (yn:oJ.mY=false) (dM:cx P ce) (jw:dY P ce) (hg:Good C w)
  (uf:∀b u B,C.lim b u->fL σ b u=some B->∃id,C.own b u=some (B,id)) (hb:oJ.jG=false->(∀f as,oJ ≠ .can f as)->∀u,¬C.lim nl u) (BB:∀l,p=some (.news l)->∀b u,nl<=b->b<nl+l.length->¬C.lim b u)
  (ve:∀b u B cs,upto σ b u=some B->p=some (.grow b cs)->oC b ps=false->(∀n,u<n->¬C.lim b n)/\∀u' B' id', C.own b u' = some (B', id')->u' = u)
  (hR:∀x y,R x y=true->VR C w.heap (r y) (a.eval x)) (AF:r (.c (.int 0)) = .int 0) (he:ev ce σ nl ps r oJ=some (x,p)):bA P o a w (iQ nl C w x p):=by
 by_cases hP:oJ.jG=true
 ·obtain⟨h1,rfl⟩:=opP au hP yn dM jw hg hR AF he
  exact h1.mono λv w' h=>h.e
 have V8 : oJ.jG=false:=by simpa using hP
 have dg:∀b u B,C.lim b u->upto σ b u=some B->∃id,C.own b u=some (B,id):=λb u B hl h=>uf b u B hl (Mv h);have mZ:=hb V8;clear hb;obtain⟨dst,op,type,pos,after,guard⟩:=o;have pl:∀{x' : AV} {p' : Option aX},Plain P a.eval ⟨dst,op,type,pos,after,guard⟩ w C w.heap x' /\p' = none->bA P ⟨dst,op,type,pos,after,guard⟩ a w (iQ nl C w x' p'):=λh=>by
  obtain⟨h1,rfl⟩:=h;exact(h1.does hg).mono λv w' h=>h.e
 simp only[lJ]at au;split at au
 all_goals first
  |(exfalso;exact hP rfl)
  |(exfalso;simp[cU.kN]at hW;done)
  |skip
 ·exact LY rfl au hg (mZ (by simp)) he
 ·simp only[aD,Bool.or_eq_true]at au
  exact pl (Mw (a:=a) rfl rfl au.1.1 au.1.2 dg (au.2.imp (λh=>⟨h.1,hR _ _ h.2⟩) (λh=>⟨h.1,hR _ _ h.2⟩)) he)
 ·simp only[aD]at au
  exact Xt rfl hg (mZ (by simp)) (hR _ _ au.2) he
 ·simp only[aD]at au
  exact Xu rfl au.1 hg (mZ (by simp)) he
 ·simp only[aD]at au
  exact pl (yo rfl au.1 hg dg (hR _ _ au.2) he)
 ·simp only[aD]at au
  obtain⟨⟨⟨h1,h2⟩,h3⟩,h4⟩:=au;split at h1
  ·rename_i e ht
   simp only[aD,eP]at h1;exact Xv rfl ht h1.1.1 h1.1.2 h1.2 h2 h3 hg (mZ (by simp)) (lK hR h4) he
  ·simp at h1
 ·simp only[aD]at au
  obtain⟨⟨⟨h1,h2⟩,h3⟩,h4⟩:=au;split at h1
  ·rename_i e ht
   exact pl (Hg rfl ht h1 dg (hR _ _ h2) h3 h4 hR he)
  ·simp at h1
 ·simp only[aD]at au
  obtain⟨⟨h1,h2⟩,h3⟩:=au;split at h1
  ·rename_i e ht
   simp only[aD]at h1;exact Xw rfl ht h1.1.1 h1.1.2 h1.2 hg (mZ (by simp)) (hR _ _ h2) (hR _ _ h3) he
  ·simp at h1
 ·split at au
  ·rename_i ha eX
   simp only[aD]at au;obtain⟨⟨⟨h1,h2⟩,h3⟩,h4⟩:=au;split at h1
   ·rename_i e ht
    simp only[aD]at h1;exact XO rfl rfl ha eX ht h2 h1.1.1 h1.1.2 h1.2 hg dg (mZ (by simp)) ve (hR _ _ h3) (hR _ _ h4) he
   ·simp at h1
  ·simp at au
 ·simp only[aD,cL]at au
  obtain⟨⟨rfl,h1⟩,h2⟩:=au;exact YF (LG dM rfl rfl h1 hg dg (lK hR h2) he)
 ·simp only[aD,cL]at au
  obtain⟨⟨rfl,h1⟩,h2⟩:=au;exact X5 dM rfl rfl h1 hg BB (lK hR h2) he
 ·exact Xy rfl hg (mZ (by simp)) he
 ·simp only[aD,cL]at au
  obtain⟨⟨⟨h1,rfl⟩,h2⟩,h3⟩:=au;split at h1
  ·rename_i ht
   simp only[aD]at h1;exact pl (Mx rfl ht h1.1 h1.2 hg uf (hR _ _ h2) (hR _ _ h3) he)
  ·simp at h1
 ·split at au
  ·rename_i ha eX
   simp only[aD]at au;obtain⟨h1,h2⟩:=au;split at h1
   ·rename_i ht
    exact pl (My rfl rfl ha eX ht hg uf (hR _ _ h2) he)
   ·simp at h1
  ·simp at au
 ·simp only[aD]at au
  exact pl (L3 rfl au.1 hg dg (hR _ _ au.2) he)
 ·simp at au
end
end Ab
