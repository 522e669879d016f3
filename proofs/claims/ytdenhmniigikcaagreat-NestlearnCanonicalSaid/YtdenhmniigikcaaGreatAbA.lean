/- What an abstract value stands for in a world of the model, and that it goes on to do so. What an owned value reads as, once nobody writes it any more. The check that a line of the small language is an operation of the program. What the model's operations do, in the form that the soundness of the small language wants. The operations that yield a value and turn nothing. Building a struct and taking a part of a slice. Condition: none. -/
import Derived.Calls
import Derived.Laws.Sem
import Derived.Test.YtdenhmniigikcaaGreatAbCore
import Derived.Orders
import Derived.ChangeKeysEq
import Derived.Laws.Cells
import Derived.Laws.NewBlocks
import Derived.IntWalk
import Derived.Laws.StructEq
set_option linter.all false
namespace Ab
open Go
def aS:type_of% @Sem.run_bind:=@Sem.run_bind
def aU:type_of% @Result.andThen_ok:=@Result.andThen_ok
def bh:type_of% @Sem.run_pure:=@Sem.run_pure
def kv:type_of% @Obj.cells.injEq:=@Obj.cells.injEq
def uO:type_of% @Go.MapKept.run_getObj_map:=@Go.MapKept.run_getObj_map
def jx:Nat->Option IntKind
 |0=>some .i8|1=>some .i16|2=>some .i32|4=>some .u8|5=>some .u16|6=>some .u32|7=>some .u64
 |_=>none
structure Ctx where
 I:Nat->Prop
 own:Nat->Nat->Option (ah×Nat)
 lim:Nat->Nat->Prop
mutual
def VR (C:Ctx) (H:Array Obj):AV->Value->Prop
 |.int n,v=>v = .int .i64 n
 |.ik k n,v=>∃K,jx k=some K/\v = .int K n
 |.bool b,v=>v = .bool b
 |.str s,v=>v = .string ⟨s.toArray⟩
 |.agg l,v=>∃vs:List Value,v = .agg vs.toArray/\bW C H l vs/\∀y,y∈vs->y.oneCell' = true
 |.bF l,v=>∃vs:List Value,v = .tuple vs.toArray/\bW C H l vs
 |.ae,v=>v = .slice none 0 0
 |.emp,v=>∃a:Option Addr,v = .slice a 0 0
 |.au e l,v=>ax l=true/\((l=[]/\∃a:Option Addr,v = .slice a 0 0/\(e=true->a.isSome=true))\/
   ∃ak off cap st c el d,v = .slice (some ⟨ak,off,none⟩) l.length cap/\l.length<=cap/\C.I ak/\H[ak]? = some (.cells c el d)/\jc C H c st l off)
 |.arr l,v=>∃ak off st c el d,v = .slice (some ⟨ak,off,none⟩) l.length l.length/\C.I ak/\H[ak]? = some (.cells c el d)/\jc C H c st l off
 |.sl b u off len,v=>(∃a c,v = .slice a len c/\len<=c/\(0<len->∃ak,a=some ⟨ak,off,none⟩))/\C.lim b u/\∀B id,C.own b u=some (B,id)->
   match B.st with
   |.dead=>True
   |.map _=>True
   |.jq=>off=0/\len=0/\v = .slice none 0 0
   |.live=>∃c el o cap,H[id]? = some (.cells c el (0,0))/\v = .slice (some ⟨id,o,none⟩) len cap/\(0<cap->o=off)/\len<=cap/\off+cap*aE B.k=c.size
 |.gI,v=>v = .pointer none
 |.aV x,v=>aI x=true/\∃ak off c el d y,v = .pointer (some ⟨ak,off,none⟩)/\C.I ak/\H[ak]? = some (.cells c el d)/\VR C H x y/\∀j,j<y.cells.size->c[off+j]? = y.cells[j]?
 |.ptr b u off,v=>(∃ak,v = .pointer (some ⟨ak,off,none⟩))/\C.lim b u/\∀B id,C.own b u=some (B,id)->B.st = .live->v = .pointer (some ⟨id,off,none⟩)
 |.j9,v=>v = .nilFunc
 |.func f l,v=>∃vs:List Value,v = .func (.func f) #[] vs.toArray/\bW C H l vs
 |.gu,v=>v = .nilIface
 |.iface t x,v=>∃y,v = .iface t y/\VR C H x y
 |.cC b,v=>(∃a,v = .map (some a))/\C.lim b 0/\∀B id,C.own b 0=some (B,id)->B.st.iv=true->v = .map (some id)
 |.oT,v=>v.oneCell' = true
 |.aF,_=>True
def bW (C:Ctx) (H:Array Obj):List AV->List Value->Prop
 | [],vs=>vs=[]
 |x::r,vs=>∃v s,vs=v::s/\VR C H x v/\bW C H r s
def jc (C:Ctx) (H:Array Obj) (c:Array Value) (st:Nat):List AV->Nat->Prop
 | [],_=>True
 |x::r,off=>(∃v,VR C H x v/\v.cells.size=st/\∀j,j<st->c[off+j]? = v.cells[j]?)/\jc C H c st r (off+st)
end
variable{s t:eM}
theorem XK(h:s.shape=t.shape) (k:t = .live):s = .live:=by
 subst k;cases s<;>simp_all [eM.shape]
theorem XL(h:s.shape=t.shape):s.iv=t.iv:=by
 cases s<;>cases t<;>simp_all [eM.shape,eM.iv]
structure fF (C:Ctx) (H:Array Obj) (C' : Ctx) (H' : Array Obj):Prop where
 au:∀k,C.I k->C'.I k
 same:∀k,C.I k->H'[k]? = H[k]?
 lim:∀b u,C.lim b u->C'.lim b u
 own:∀b u B' id,C.lim b u->C'.own b u=some (B', id)->∃B,C.own b u=some (B,id)/\B.st.shape=B'.st.shape/\B.k=B'.k/\
  ∀c el,H[id]? = some (.cells c el (0,0))->∃c', H'[id]? = some (.cells c' el (0,0))/\c'.size=c.size
theorem fF.refl (C:Ctx) (H:Array Obj):fF C H C H:=
 ⟨λ_ h=>h,λ_ _=>rfl,λ_ _ h=>h,λ_ _ B' _ _ h=>⟨B', h,rfl,rfl,λc _ U=>⟨c,U,rfl⟩⟩⟩
theorem fF.trans{C C' U : Ctx}{H H' V : Array Obj}(h:fF C H C' H') (k:fF C' H' U V):fF C H U V :=by
 refine⟨λx hx=>k.au x (h.au x hx),λx hx=>(k.same x (h.au x hx)).trans (h.same x hx),λb u hl=>k.lim b u (h.lim b u hl),λb u B'' id hl ho=>?_⟩;obtain⟨B', h1,h2,h3,h4⟩:=k.own b u B'' id (h.lim b u hl) ho;obtain⟨B,g1,g2,g3,g4⟩:=h.own b u B' id hl h1;refine⟨B,g1,g2.trans h2,g3.trans h3,λc el hc=>?_⟩;obtain⟨c', e1,e2⟩:=g4 c el hc;obtain⟨c'', f1,f2⟩:=h4 c' el e1;exact⟨c'', f1,f2.trans e2⟩
section
variable{C C' : Ctx}{H H' : Array Obj}
mutual
theorem VR.mono (h:fF C H C' H'):∀(x:AV) (v:Value),VR C H x v->VR C' H' x v
 |.int _,_,hv=>hv
 |.ik _ _,_,hv=>hv
 |.bool _,_,hv=>hv
 |.str _,_,hv=>hv
 |.agg l,_,⟨vs,e,hl,hc⟩=>⟨vs,e,bW.mono h l vs hl,hc⟩
 |.bF l,_,⟨vs,e,hl⟩=>⟨vs,e,bW.mono h l vs hl⟩
 |.ae,_,hv=>hv
 |.emp,_,hv=>hv
 |.au nn l,v,hv=>by
  unfold VR at hv ⊢;obtain⟨hn,hv⟩:=hv;refine⟨hn,?_⟩;rcases hv with hv|⟨b,off,cap,st,c,el,fz,e,hc,hI,hH,hl⟩
  .exact .inl hv
  .exact .inr ⟨b,off,cap,st,c,el,fz,e,hc,h.au b hI,(h.same b hI).trans hH,jc.mono h c st l off hl⟩
 |.arr l,v,hv=>by
  unfold VR at hv ⊢;obtain⟨b,off,st,c,el,fz,e,hI,hH,hl⟩:=hv;exact⟨b,off,st,c,el,fz,e,h.au b hI,(h.same b hI).trans hH,jc.mono h c st l off hl⟩
 |.sl b u off len,v,hv=>by
  unfold VR at hv ⊢;obtain⟨h0,h1,h3⟩:=hv;refine⟨h0,h.lim b u h1,λB' id ho=>?_⟩;obtain⟨B,g1,g2,g3,g4⟩:=h.own b u B' id h1 ho;have:=h3 B id g1;rw[g3]at this
  revert this g2
  cases hB:B.st<;>cases wi : B'.st<;>intro g2<;>simp only[eM.shape,reduceCtorEq]at g2
  case dead.dead=>exact λ_=>trivial
  case map.map=>exact λ_=>trivial
  case jq.jq=>exact λx=>x
  case live.live=>
   rintro⟨c,el,o,cap,e1,e2,e3,e4,e5⟩;obtain⟨c', f1,f2⟩:=g4 c el e1;exact⟨c', el,o,cap,f1,e2,e3,e4,e5.trans f2.symm⟩
 |.gI,_,hv=>hv
 |.aV x,v,hv=>by
  unfold VR at hv ⊢;obtain⟨hn,b,off,c,el,fz,y,e,hI,hH,hx,hj⟩:=hv;exact⟨hn,b,off,c,el,fz,y,e,h.au b hI,(h.same b hI).trans hH,VR.mono h x y hx,hj⟩
 |.ptr b u off,v,hv=>by
  unfold VR at hv ⊢;obtain⟨h0,h1,h3⟩:=hv;refine⟨h0,h.lim b u h1,λB' id ho hl=>?_⟩;obtain⟨B,g1,g2,g3,g4⟩:=h.own b u B' id h1 ho;exact h3 B id g1 (XK g2 hl)
 |.j9,_,hv=>hv
 |.func _ l,_,⟨vs,e,hl⟩=>⟨vs,e,bW.mono h l vs hl⟩
 |.gu,_,hv=>hv
 |.iface _ x,_,⟨y,e,hx⟩=>⟨y,e,VR.mono h x y hx⟩
 |.cC b,v,hv=>by
  unfold VR at hv ⊢;obtain⟨h0,h1,h3⟩:=hv;refine⟨h0,h.lim b 0 h1,λB' id ho hl=>?_⟩;obtain⟨B,g1,g2,g3,g4⟩:=h.own b 0 B' id h1 ho;exact h3 B id g1 (by rw[XL g2];exact hl)
 |.oT,_,hv=>hv
 |.aF,_,_=>trivial
theorem bW.mono (h:fF C H C' H'):∀(l:List AV) (vs:List Value),bW C H l vs->bW C' H' l vs
 | [],_,U=>U
 |x::r,_,⟨v,s,e,hx,V⟩=>⟨v,s,e,VR.mono h x v hx,bW.mono h r s V⟩
theorem jc.mono (h:fF C H C' H') (c:Array Value) (st:Nat):∀(l:List AV) (off:Nat),jc C H c st l off->jc C' H' c st l off
 | [],_,_=>trivial
 |x::r,off,⟨⟨v,hx,e,U⟩,V⟩=>⟨⟨v,VR.mono h x v hx,e,U⟩,jc.mono h c st r (off+st) V⟩
end
structure nu (C:Ctx) (H:Array Obj) (C' : Ctx) (H' : Array Obj):Prop where
 au:∀k,C.I k->C'.I k
 same:∀k,C.I k->H'[k]? = H[k]?
mutual
theorem VR.free (h:nu C H C' H'):∀(x:AV) (v:Value),aI x=true->VR C H x v->VR C' H' x v
 |.int _,_,_,U=>U
 |.ik _ _,_,_,U=>U
 |.bool _,_,_,U=>U
 |.str _,_,_,U=>U
 |.agg l,_,V,⟨vs,e,hl,hc⟩=>⟨vs,e,bW.free h l vs (by simpa[aI]using V) hl,hc⟩
 |.bF l,_,V,_=>by simp[aI]at V
 |.ae,_,_,U=>U
 |.emp,_,_,U=>U
 |.au nn l,v,_,U=>by
  unfold VR at U ⊢;obtain⟨V,U⟩:=U;refine⟨V,?_⟩;rcases U with U|⟨b,off,cap,st,c,el,fz,e,hc,hI,hH,hl⟩
  .exact .inl U
  .exact .inr ⟨b,off,cap,st,c,el,fz,e,hc,h.au b hI,(h.same b hI).trans hH,jc.free h c st l off V hl⟩
 |.arr l,_,V,_=>by simp[aI]at V
 |.sl ..,_,V,_=>by simp[aI]at V
 |.gI,_,_,U=>U
 |.aV x,v,_,U=>by
  unfold VR at U ⊢;obtain⟨V,b,off,c,el,fz,y,e,hI,hH,hx,hj⟩:=U;exact⟨V,b,off,c,el,fz,y,e,h.au b hI,(h.same b hI).trans hH,VR.free h x y V hx,hj⟩
 |.ptr ..,_,V,_=>by simp[aI]at V
 |.j9,_,_,U=>U
 |.func _ l,_,V,⟨vs,e,hl⟩=>⟨vs,e,bW.free h l vs (by simpa[aI]using V) hl⟩
 |.gu,_,_,U=>U
 |.iface _ x,_,V,⟨y,e,hx⟩=>⟨y,e,VR.free h x y (by simpa[aI]using V) hx⟩
 |.cC _,_,V,_=>by simp[aI]at V
 |.oT,_,_,U=>U
 |.aF,_,V,_=>by simp[aI]at V
theorem bW.free (h:nu C H C' H'):∀(l:List AV) (vs:List Value),ax l=true->bW C H l vs->bW C' H' l vs
 | [],_,_,V=>V
 |x::r,_,U,⟨v,s,e,hx,hr⟩=>by
  simp only[ax,aA]at U;exact⟨v,s,e,VR.free h x v U.1 hx,bW.free h r s U.2 hr⟩
theorem jc.free (h:nu C H C' H') (c:Array Value) (st:Nat):∀(l:List AV) (off:Nat),ax l=true->jc C H c st l off->jc C' H' c st l off
 | [],_,_,_=>trivial
 |x::r,off,U,⟨⟨v,hx,e,V⟩,hr⟩=>by
  simp only[ax,aA]at U;exact⟨⟨v,VR.free h x v U.1 hx,e,V⟩,jc.free h c st r (off+st) U.2 hr⟩
end
end
section
variable{C:Ctx}{H:Array Obj}
theorem bW.length:∀{l:List AV}{vs:List Value},bW C H l vs->vs.length=l.length
 | [],_,h=>by rw[show _=[]from h];rfl
 |_::_,_,⟨_,_,e,_,U⟩=>by rw[e];simp[bW.length U]
theorem bW.get:∀{l:List AV}{vs:List Value},bW C H l vs->∀(i:Nat) (x:AV),l[i]? = some x->∃v,vs[i]? = some v/\VR C H x v
 | [],_,_,i,x,hi=>by simp at hi
 |y::r,_,⟨v,s,e,hx,U⟩,0,x,hi=>by
  simp at hi;subst hi;rw[e];exact⟨v,rfl,hx⟩
 |y::r,_,⟨v,s,e,hx,U⟩,i+1,x,hi=>by
  rw[e];exact bW.get U i x (by simpa using hi)
theorem bW.append:∀{l m:List AV}{vs ws:List Value},bW C H l vs->bW C H m ws->bW C H (l++m) (vs++ws)
 | [],_,_,_,h,k=>by rw[show _=[]from h];exact k
 |_::_,_,_,_,⟨v,s,e,hx,U⟩,k=>by rw[e];exact⟨v,s++_,rfl,hx,bW.append U k⟩
theorem bW.drop:∀(n:Nat){l:List AV}{vs:List Value},bW C H l vs->bW C H (l.drop n) (vs.drop n)
 |0,_,_,h=>by simpa using h
 |n+1,[],_,h=>by rw[show _=[]from h];simp[bW]
 |n+1,_::_,_,⟨v,s,e,hx,U⟩=>by rw[e];simpa using bW.drop n U
theorem bW.take:∀(n:Nat){l:List AV}{vs:List Value},bW C H l vs->bW C H (l.take n) (vs.take n)
 |0,_,_,h=>by simp[bW]
 |n+1,[],_,h=>by rw[show _=[]from h];simp[bW]
 |n+1,_::_,_,⟨v,s,e,hx,U⟩=>by rw[e];exact⟨v,s.take n,rfl,hx,bW.take n U⟩
variable{b u off:Nat}{v:Value}
theorem zJ{len:Nat}(h:VR C H (.sl b u off len) v):C.lim b u:=by unfold VR at h;exact h.2.1
theorem XN(h:VR C H (.ptr b u off) v):C.lim b u:=by unfold VR at h;exact h.2.1
theorem Wu(h:VR C H (.cC b) v):C.lim b 0:=by unfold VR at h;exact h.2.1
def il (x:AV):Prop:=x ≠ .aF/\∀l,x ≠ .bF l
theorem xk(h:v.oneCell' = true):v.cells = #[v]:=by
 cases v<;>first|rfl|simp[Value.oneCell']at h
variable{x:AV}
theorem VR.leaf(hx:∀l,x ≠ .agg l) (U:il x) (h:VR C H x v):v.oneCell' = true:=by
 cases x with
 |agg l=>exact absurd rfl (hx l)
 |aF=>exact absurd rfl U.1
 |bF l=>exact absurd rfl (U.2 l)
 |oT=>exact h
 |emp=>
  unfold VR at h;obtain⟨_,h⟩:=h;rw[h];rfl
 |_=>
  unfold VR at h
  first
   |(rw[h];rfl)
   |(obtain⟨⟨_,h⟩,_⟩:=h;rw[h];rfl)
   |(obtain⟨_,_,h⟩:=h;rw[h];rfl)
   |(obtain⟨_,h,_⟩:=h;rw[h];rfl)
   |(obtain⟨⟨_,_,h,_⟩,_⟩:=h;rw[h];rfl)
   |(obtain⟨⟨_,h⟩,_⟩:=h;rw[h];rfl)
   |(obtain⟨_,h|h⟩:=h
     .obtain⟨_,_,h,_⟩:=h;rw[h];rfl
     .obtain⟨_,_,_,_,_,_,_,h,_⟩:=h;rw[h];rfl)
   |(obtain⟨_,_,_,_,_,_,h,_⟩:=h;rw[h];rfl)
   |(obtain⟨_,_,_,_,_,_,_,h,_⟩:=h;rw[h];rfl)
theorem VR.cells(hu:il x) (h:VR C H x v):bW C H x.cells v.cells.toList/\∀y,y∈v.cells.toList->y.oneCell' = true:=by
 by_cases hx:∃l,x = .agg l
 .obtain⟨l,rfl⟩:=hx
  unfold VR at h;obtain⟨vs,rfl,hl,hc⟩:=h;exact⟨by simpa[AV.cells,Value.cells]using hl,by simpa[Value.cells]using hc⟩
 .have U : ∀l,x ≠ .agg l:=λl e=>hx ⟨l,e⟩
  have V:=VR.leaf U hu h;rw[xk V];have:x.cells=[x]:=by
   cases x<;>first|rfl|exact absurd rfl (U _)
  rw[this];exact⟨⟨v,[],rfl,h,rfl⟩,by simp[V]⟩
theorem VR.size(U:il x) (h:VR C H x v):v.cells.size=x.cells.length:=by
 have:=bW.length (VR.cells U h).1;simpa using this
end
def owned (C:Ctx) (k:Nat):Prop:=∃b u B,C.own b u=some (B,k)/\B.st.jf=true
def MR (C:Ctx) (H:Array Obj):List (AV×AV)->List MapEntry->Prop
 | [],l=>l=[]
 |(k,x)::r,l=>∃e s,l=e::s/\(aI k=true/\VR C H k e.key)/\VR C H x e.val/\MR C H r s
structure Good (C:Ctx) (w:World):Prop where
 I:∀k,C.I k->k<w.heap.size
 kN:∀b u B id,C.own b u=some (B,id)->C.lim b u/\u=B.cells.length/\(B.st = .jq->B.cells=[])/\B.st ≠ .dead
 live:∀b u B id,C.own b u=some (B,id)->B.st = .live->¬C.I id/\∃(c:Array Value) (el:TypeId),w.heap[id]? = some (.cells c el (0,0))/\B.cells.length<=c.size/\
  ∀(i:Nat) (x:AV),B.cells[i]? = some x->∃y,c[i]? = some y/\VR C w.heap x y/\y.oneCell' = true
 apart:∀b u B id b' u' B' id', C.own b u=some (B,id)->B.st.jf=true->C.own b' u' = some (B', id')->B'.st.jf=true->b ≠ b' ->id ≠ id'
 maps:∀b u B id es,C.own b u=some (B,id)->B.st = .map es->¬C.I id/\∃(l:Array MapEntry) (clock:Nat),w.heap[id]? = some (.map l clock)/\MR C w.heap es l.toList
variable{s:eM}
theorem L2(h:s.jf=true):s = .live\/∃es,s = .map es:=by
 cases s<;>simp_all [eM.jf]
theorem kT(h:s = .live):s.jf=true:=by subst h;rfl
variable{k:Nat}
theorem Good.lt{C:Ctx}{w:World}(h:Good C w)(hk:owned C k):k<w.heap.size:=by
 obtain⟨b,u,B,V,hl⟩:=hk;rcases L2 hl with hl|⟨es,hl⟩
 .obtain⟨_,c,el,U,_⟩:=h.live b u B k V hl
  exact(ju.1 U).1
 .obtain⟨_,c,el,U,_⟩:=h.maps b u B k es V hl
  exact(ju.1 U).1
theorem MR.mono{C C' : Ctx}{H H' : Array Obj}(h:fF C H C' H'):∀{es:List (AV×AV)}{l:List MapEntry},MR C H es l->MR C' H' es l
 | [],_,e=>e
 |(k,x)::r,_,⟨e,s,q,⟨U,V⟩,x2,hr⟩=>⟨e,s,q,⟨U,VR.mono h _ _ V⟩,VR.mono h _ _ x2,MR.mono h hr⟩
variable{w': World}{b u id:Nat}{B:ah}{es:List (AV×AV)}
theorem Good.cQ{C:Ctx}{w:World}(hg:Good C w){C' : Ctx}(ev:fF C w.heap C' w'.heap)(ho:C.own b u=some (B,id)) (hl:B.st = .map es)
  (U:w'.heap[id]? = w.heap[id]?) (V:¬C'.I id):¬C'.I id/\∃(l:Array MapEntry) (clock:Nat),w'.heap[id]? = some (.map l clock)/\MR C' w'.heap es l.toList:=by
 obtain⟨_,l,c,h1,h2⟩:=hg.maps b u B id es ho hl;exact⟨V,l,c,U.trans h1,h2.mono ev⟩
theorem kQ(h:s = .map es):s.jf=true:=by subst h;rfl
theorem Good.Vt{C:Ctx}{w:World}(h:Good C w)(V:owned C k):¬C.I k:=by
 obtain⟨b,u,B,U,hl⟩:=V;rcases L2 hl with hl|⟨es,hl⟩
 .exact(h.live b u B k U hl).1
 .exact(h.maps b u B k es U hl).1
structure Step (C:Ctx) (w:World) (C' : Ctx) (w' : World):Prop where
 ev:fF C w.heap C' w'.heap
 size:w.heap.size<=w'.heap.size
 frame:∀k,k<w.heap.size->¬owned C k->w'.heap[k]? = w.heap[k]?
 fN:∀k,owned C' k->owned C k\/w.heap.size<=k
 ga:∀k,C'.I k->C.I k\/owned C k\/w.heap.size<=k
 os:w'.os=w.os
 tape:w'.tape=w.tape/\w.drawn<=w'.drawn
 output:w'.output=w.output
theorem Step.refl (C:Ctx) (w:World):Step C w C w:=
 ⟨fF.refl _ _,aT _,λ_ _ _=>rfl,λ_ h=>.inl h,λ_ h=>.inl h,rfl,⟨rfl,aT _⟩,rfl⟩
theorem Step.trans{C C' V : Ctx}{w w'': World}(h:Step C w C' w') (k:Step C' w' V w''):Step C w V w'' :=by
 refine⟨h.ev.trans k.ev,Nat.le_trans h.size k.size,λx hx ho=>?_,λx hx=>?_,λx hx=>?_,k.os.trans h.os,⟨k.tape.1.trans h.tape.1,Nat.le_trans h.tape.2 k.tape.2⟩,k.output.trans h.output⟩
 .rw[k.frame x (sH hx h.size) (λU =>(h.fN x U).elim ho (λh'' =>absurd hx (Nat.not_lt.2 h'')))]
  exact h.frame x hx ho
 .rcases k.fN x hx with U | U
  .exact h.fN x U
  .exact .inr (Nat.le_trans h.size U)
 .rcases k.ga x hx with U | U | U
  .exact h.ga x U
  .exact .inr (h.fN x U)
  .exact .inr (.inr (Nat.le_trans h.size U))
def ad (σ:List ah) (ids:Nat->Nat) (I:Nat->Prop):Ctx where
 I:=I
 own:=λb u=>match ak σ b with
  |some B=>match B.st with
   |.dead=>none
   |_=>if B.cells.length=u then some (B,ids b)else none
  |none=>none
 lim:=λb u=>∃B,ak σ b=some B/\u<=B.cells.length
theorem cX (σ:List ah):∀b,ak σ b=σ[b]?:=by
 induction σ with
 |nil=>intro b;rfl
 |cons x r a=>intro b;cases b<;>simp[ak,a]
theorem jM (l:List AV):∀b,lQ l b=l[b]?:=by
 induction l with
 |nil=>intro b;rfl
 |cons x r a=>intro b;cases b<;>simp[lQ,a]
theorem VE (σ:List ah):∀b y,ar σ b y=σ.set b y:=by
 induction σ with
 |nil=>intro b y;rfl
 |cons x r a=>intro b y;cases b<;>simp[ar,a]
theorem Xh (l:List AV):∀b y,eu l b y=l.set b y:=by
 induction l with
 |nil=>intro b y;rfl
 |cons x r a=>intro b y;cases b<;>simp[eu,a]
theorem rB (l:List AV):∀b,nth l b=l[b]?.getD .aF:=by
 induction l with
 |nil=>intro b;rfl
 |cons x r a=>intro b;cases b<;>simp[nth,a]
theorem mG{σ:List ah}(ids:Nat->Nat) (I:Nat->Prop) (h:upto σ b u=some B):(ad σ ids I).own b u=some (B,ids b):=by
 unfold upto at h;simp only[ad];cases d:ak σ b with
 |none=>simp[d]at h
 |some B' =>
  simp only[d]at h ⊢;cases e:B'.st<;>simp only[e]at h ⊢<;>first
   |(by_cases a:B'.cells.length=u
     .simp[a]at h;subst h;simp[a]
     .simp[a]at h)
   |simp at h
theorem qX{σ:List ah}(ids:Nat->Nat) (I:Nat->Prop) (h:fC σ b u=some B):(ad σ ids I).own b u=some (B,ids b):=by
 unfold fC at h;simp only[ad];cases d:ak σ b with
 |none=>simp[d]at h
 |some B' =>
  simp only[d]at h ⊢;cases e:B'.st<;>simp only[e]at h ⊢<;>first
   |(by_cases a:B'.cells.length=u
     .simp[a]at h;subst h;simp[a]
     .simp[a]at h)
   |simp at h
theorem K0{σ:List ah}(h:upto σ b u=some B):fC σ b u=some B:=by
 unfold upto at h;unfold fC;cases a:ak σ b with
 |none=>simp[a]at h
 |some B' =>
  simp only[a]at h ⊢;cases d:B'.st<;>simp only[d]at h ⊢<;>first
   |exact h
   |simp at h
theorem wO{σ:List ah}(h:upto σ b u=some B):B.st.iv=false:=by
 unfold upto at h;cases a:ak σ b with
 |none=>simp[a]at h
 |some B' =>
  simp only[a]at h;cases d:B'.st<;>simp only[d]at h<;>first
   |(split at h<;>simp at h;subst h;simp[d,eM.iv])
   |simp at h
theorem wQ{σ:List ah}{ids:Nat->Nat}{I:Nat->Prop}(h:(ad σ ids I).own b u=some (B,id)):ak σ b=some B/\id=ids b:=by
 simp only[ad]at h;cases a:ak σ b with
 |none=>simp[a]at h
 |some B' =>
  simp only[a]at h;cases e:B'.st<;>simp only[e]at h<;>first
   |(by_cases d:B'.cells.length=u
     .simp[d]at h;obtain⟨rfl,rfl⟩:=h;exact⟨rfl,rfl⟩
     .simp[d]at h)
   |simp at h
variable{x:AV}{v:Value}
theorem VR.fD{C:Ctx}{H:Array Obj}(h:VR C H x v):VR C H (Ab.fD x) v:=by
 cases x with
 |ae=>unfold VR at h;unfold Ab.fD VR;exact⟨rfl,.inl ⟨rfl,none,h,by simp⟩⟩
 |emp=>
  unfold VR at h;unfold Ab.fD VR;obtain⟨a,h⟩:=h;exact⟨rfl,.inl ⟨rfl,a,h,by simp⟩⟩
 |au nn l=>
  unfold VR at h;unfold Ab.fD VR;refine⟨h.1,?_⟩;rcases h.2 with U | U
  .obtain⟨h1,a,h2,_⟩:=U; exact .inl ⟨h1,a,h2,by simp⟩
  .exact .inr U
 |_=>exact h
theorem bW.fD{C:Ctx}{H:Array Obj}:∀{l:List AV}{vs:List Value},bW C H l vs->bW C H (l.map Ab.fD) vs
 | [],_,h=>h
 |_::_,_,⟨v,s,e,hx,U⟩=>⟨v,s,e,hx.fD,bW.fD U⟩
theorem VR.wk{C:Ctx}{H:Array Obj}(h:VR C H x v):VR C H (Ab.wk x) v:=by
 cases x with
 |agg l=>unfold VR at h;obtain⟨vs,e,hl,U⟩:=h;unfold Ab.wk VR;exact⟨vs,e,hl.fD,U⟩
 |_=>exact VR.fD h
theorem bW.wk{C:Ctx}{H:Array Obj}:∀{l:List AV}{vs:List Value},bW C H l vs->bW C H (l.map Ab.wk) vs
 | [],_,h=>h
 |_::_,_,⟨v,s,e,hx,U⟩=>⟨v,s,e,hx.wk,bW.wk U⟩
theorem XO(h:aI x=true):aI (fD x)=true:=by cases x<;>simp_all [fD,aI]
theorem L3:∀{l:List AV},ax l=true->ax (l.map fD)=true
 | [],_=>rfl
 |_::_,h=>by
  simp only[ax,aA,cJ]at h ⊢;exact⟨XO h.1,L3 h.2⟩
end Ab
namespace Ab
open Go
theorem L4{b g:Type}{f:b->Option g}:∀{l:List b}{m:List g},bI f l=some m->m.length=l.length/\∀(i:Nat) (x:b),l[i]? = some x->∃y,m[i]? = some y/\f x=some y
 | [],m,h=>by
  simp[bI]at h;subst h;simp
 |x::r,m,h=>by
  unfold bI at h;cases a:f x with
  |none=>simp[a]at h
  |some y=>
   cases d:bI f r with
   |none=>simp[a,d]at h
   |some s=>
    simp[a,d]at h;subst h;obtain⟨j,n⟩:=L4 d;refine⟨by simp[j],λi z e=>?_⟩
    cases i with
    |zero=>simp at e;subst e;exact⟨y,rfl,a⟩
    |succ i=>exact n i z (by simpa using e)
theorem XP (k:Option Nat) (cs:List AV):∀(n:Nat),n*aE k<=cs.length->(∀m,k=some m->True)->(chunk k n cs).length=n:=by
 intro n
 induction n generalizing cs with
 |zero=>intros;simp[chunk]
 |succ n a=>
  intro h _;cases k with
  |none=>
   cases cs with
   |nil=>simp[aE]at h
   |cons x r=>simp only[chunk,bX];rw[a r (by simp[aE]at h ⊢;omega) (λ_ _=>trivial)]
  |some m=>
   simp only[chunk,bX];rw[a (cs.drop m) (by simp[aE]at h ⊢;rw[eX]at h;omega) (λ_ _=>trivial)]
theorem Eh (k:Option Nat):∀(n:Nat) (cs:List AV),n*aE k<=cs.length->∀i,i<n->∃x,(chunk k n cs)[i]? = some x/\part cs (i*aE k) k=some x
 |0,_,_,i,d=>absurd d (Nat.not_lt_zero i)
 |n+1,cs,h,i,d=>by
  cases k with
  |none=>
   cases cs with
   |nil=>simp[aE]at h
   |cons x r=>
    cases i with
    |zero=>exact⟨x,by simp[chunk],by simp[part,aE,lQ]⟩
    |succ i=>
     obtain⟨y,b,a⟩:=Eh none n r (by simp[aE]at h ⊢;omega) i (by omega)
     exact⟨y,by simpa[chunk]using b,by simpa[part,aE,lQ]using a⟩
  |some m=>
   simp only[aE]at h;rw[eX]at h;cases i with
   |zero=>exact⟨.agg (cs.take m),by simp[chunk],by simp[part,aE];omega⟩
   |succ i=>
    obtain⟨y,b,a⟩:=Eh (some m) n (cs.drop m) (by simp[aE];omega) i (by omega)
    refine⟨y,by simpa[chunk]using b,?_⟩
    simp only[part,aE,List.length_drop,List.drop_drop]at a ⊢;split at a
    .have e:(i+1)*m=m+i*m:=by rw[eX];omega
     have:m+i*m+m<=cs.length:=by omega
     rw[<-a];simp only[e,this,dt]
    .simp at a
variable{off:Nat}{k:Option Nat}{x:AV}
theorem Ac{C:Ctx}{H:Array Obj}{cs:List AV}{c:Array Value}
  (hc:∀(i:Nat) (x:AV),cs[i]? = some x->∃y,c[i]? = some y/\VR C H x y/\y.oneCell' = true) (h:part cs off k=some x) :
  ∃v,VR C H x v/\v.cells.size=aE k/\(∀j,j<aE k->c[off+j]? = v.cells[j]?)/\(k=none->v.cells = #[v])/\(k ≠ none->∃vs,v = .agg vs):=by
 cases k with
 |none=>
  simp only[part,jM]at h;obtain⟨y,h1,h2,h3⟩:=hc off x h;have h3:=xk h3;refine⟨y,h2,by simp[h3,aE],λj hj=>?_,λ_=>h3,λh=>absurd rfl h⟩
  simp only[aE]at hj;obtain rfl:j=0:=by omega
  simp[h1,h3]
 |some n=>
  simp only[part]at h;split at h
  case isFalse=>simp at h
  rename_i hn;simp at h;subst h;have key:∀m,m<=n->∃vs:List Value,bW C H ((cs.drop off).take m) vs/\vs.length=m/\(∀y,y∈vs->y.oneCell' = true)/\∀j,j<m->c[off+j]? = vs[j]?:=by
   intro m
   induction m with
   |zero=>intro _;exact⟨[],by simp[bW],rfl,by simp,λj hj=>absurd hj (Nat.not_lt_zero j)⟩
   |succ m ih=>
    intro hm;obtain⟨vs,h1,h2,h4,h3⟩:=ih (by omega)
    have hx:∃x,cs[off+m]? = some x:=⟨cs[off+m],by rw[cO (by omega)]⟩
    obtain⟨x,hx⟩:=hx;obtain⟨y,g1,g2,g3⟩:=hc (off+m) x hx;have ht:(cs.drop off).take (m+1)=(cs.drop off).take m ++ [x]:=by
     rw[k8];simp[hx]
    rw[ht];refine⟨vs ++ [y],h1.append ⟨y,[],rfl,g2,rfl⟩,by simp[h2],λz hz=>(dQ.1 hz).elim (h4 z) (λhz=>by simp at hz;subst hz;exact g3),λj hj=>?_⟩
    rcases Nat.lt_or_ge j m with cL|Uj
    .rw[h3 j cL,eC (by omega)]
    .obtain rfl:j=m:=by omega
     rw[g1,<-h2];simp
  obtain⟨vs,h1,h2,h4,h3⟩:=key n (aT n);refine⟨.agg vs.toArray,by unfold VR;exact⟨vs,rfl,h1,h4⟩,by simp[Value.cells,h2,aE],λj hj=>?_,λh=>by simp at h,λ_=>⟨_,rfl⟩⟩
  simp only[aE]at hj;rw[h3 j hj];simp[Value.cells]
theorem jc.of{C:Ctx}{H:Array Obj}{c:Array Value}{st:Nat}:∀{l:List AV}{off:Nat},
  (∀i x,l[i]? = some x->∃v,VR C H x v/\v.cells.size=st/\∀j,j<st->c[off+i*st+j]? = v.cells[j]?)->jc C H c st l off
 | [],_,_=>trivial
 |x::r,off,h=>by
  refine⟨by simpa using h 0 x rfl,jc.of λi y hi=>?_⟩
  obtain⟨v,h1,h2,h3⟩:=h (i+1) y (by simpa using hi)
  refine⟨v,h1,h2,λj U=>?_⟩;rw[<-h3 j U]
  congr 1
  rw[eX];omega
theorem jc.get{C:Ctx}{H:Array Obj}{c:Array Value}{st:Nat}:∀{l:List AV}{off:Nat},jc C H c st l off->
  ∀i x,l[i]? = some x->∃v,VR C H x v/\v.cells.size=st/\∀j,j<st->c[off+i*st+j]? = v.cells[j]?
 | [],_,_,i,x,hi=>by simp at hi
 |y::r,off,⟨hx,U⟩,0,x,hi=>by simp at hi;subst hi;simpa using hx
 |y::r,off,⟨hx,U⟩,i+1,x,hi=>by
  obtain⟨v,h1,h2,h3⟩:=jc.get U i x (by simpa using hi)
  refine⟨v,h1,h2,λj V=>?_⟩;rw[<-h3 j V]
  congr 1
  rw[eX];omega
theorem zC{l:List AV}(h:∀x∈l,aI x=true):ax l=true:=by
 induction l with
 |nil=>rfl
 |cons x r a=>
  simp only[ax,aA];exact⟨h x (by simp),a λy b=>h y (by simp[b])⟩
structure L5 (fr:Bool) (C:Ctx) (C2:Ctx):Prop where
 au:fr=false->∀k,C.I k->C2.I k
 own:∀k,owned C k->C2.I k
theorem wJ{σ:List ah}{fr:Bool}{f:Nat}{C C2:Ctx}{H:Array Obj}
  (d:∀x y v,view σ fr f x=some y->VR C H x v->aI y=true/\VR C2 H y v) :
  ∀{l m:List AV} {vs:List Value},bI (view σ fr f) l=some m->bW C H l vs->ax m=true/\bW C2 H m vs
 | [],m,vs,h,g=>by simp[bI]at h;subst h;exact⟨rfl,g⟩
 |x::r,m,vs,h,⟨v,s,e,i,j⟩=>by
  unfold bI at h;cases a:view σ fr f x with
  |none=>simp[a]at h
  |some y=>
   cases b:bI (view σ fr f) r with
   |none=>simp[a,b]at h
   |some t=>
    simp[a,b]at h;subst h;obtain⟨n,o⟩:=d x y v a i;obtain⟨p,q⟩:=wJ d b j;exact⟨by simp[ax,n,p],⟨v,s,e,o,q⟩⟩
variable{fr:Bool}{C2:Ctx}
theorem zA{σ:List ah}{C:Ctx}{w:World}(jg:∀b u B,C.lim b u->upto σ b u=some B->∃id,C.own b u=some (B,id)) (hg:Good C w) (hf:L5 fr C C2) :
  ∀(f:Nat) (x y:AV) (v:Value),view σ fr f x=some y->VR C w.heap x v->aI y=true/\VR C2 w.heap y v:=by
 intro f
 induction f with
 |zero=>intro x y v h;simp[view]at h
 |succ f ih=>
  intro x y v h hv;cases x with
  |sl b u off len=>
   simp only[view]at h;cases hu:upto σ b u with
   |none=>simp[hu]at h
   |some B=>
    simp only[hu]at h;split at h
    case isFalse=>simp at h
    rename_i hle;cases hm:bI (view σ fr f) (chunk B.k len (B.cells.drop off))with
    |none=>simp[hm]at h
    |some l=>
     simp[hm]at h;subst h;unfold VR at hv;obtain⟨_,gH,hv⟩:=hv;obtain⟨id,ho⟩:=jg b u B gH hu;obtain⟨L6,CH⟩:=L4 hm;obtain⟨_,e1,e3,e4⟩:=hg.kN b u B _ ho;have hv:=hv B _ ho;have hlen:(chunk B.k len (B.cells.drop off)).length=len:=XP _ _ _ (by simp;omega) (λ_ _=>trivial)
     cases hs:B.st with
     |dead=>exact absurd hs e4
     |map es=>have:=wO hu;rw[hs]at this;simp[eM.iv]at this
     |jq=>
      simp only[hs]at hv;obtain⟨rfl,rfl,rfl⟩:=hv;have:l=[]:=by
       have:l.length=0:=by rw[L6,hlen]
       exact dM this
      subst this;exact⟨rfl,by unfold VR;exact⟨rfl,.inl ⟨rfl,none,rfl,by simp⟩⟩⟩
     |live=>
      simp only[hs]at hv;obtain⟨c,el,o,cap,g1,rfl,g3,g4,g5⟩:=hv;obtain⟨n1,c', zb, n2,n3,n4⟩:=hg.live b u B _ ho hs;rw[g1]at n2;simp only[bJ,kv]at n2;obtain⟨rfl,rfl,_⟩:=n2;have Dw:∀i x,(B.cells.drop off)[i]? = some x->∃y,c[off+i]? = some y/\VR C w.heap x y/\y.oneCell' = true:=λi x hi=>by
       rw[kz]at hi;exact n4 (off+i) x hi
      have Ei:∀i y,l[i]? = some y->aI y=true/\∃v,VR C2 w.heap y v/\v.cells.size=aE B.k/\∀j,j<aE B.k->c[off+i*aE B.k+j]? = v.cells[j]?:=λi y hi=>by
       have XQ:i<len:=by
        have:=(dq.1 hi).1;omega
       obtain⟨z,z1,z2⟩:=Eh B.k len (B.cells.drop off) (by simp;omega) i XQ
       obtain⟨y', y1,y2⟩:=CH i z z1;rw[hi]at y1;simp at y1;subst y1;have hp:part B.cells (off+i*aE B.k) B.k=some z:=by
        cases hk:B.k with
        |none=>simp only[hk,part,jM,kz]at z2 ⊢;exact z2
        |some n=>
         simp only[hk,part,List.length_drop,List.drop_drop]at z2 ⊢;split at z2
         .rw[ab (by omega)];exact z2
         .simp at z2
       obtain⟨val,p1,p2,p3,_⟩:=Ac n4 hp;obtain⟨q1,q2⟩:=ih z y val y2 p1;exact⟨q1,val,q2,p2,p3⟩
      refine⟨rfl,?_⟩;unfold VR;refine⟨zC λx hx=>?_,.inr ⟨id,o,cap,aE B.k,c,el,(0,0),?_,by omega,hf.own _ ⟨b,u,B,ho,kT hs⟩,g1,jc.of λi x hi=>?_⟩⟩
      .obtain⟨i,hi⟩:=List.getElem?_of_mem hx
       exact(Ei i x hi).1
      .rw[L6,hlen]
      .have lP :=(dq.1 hi).1
       obtain rfl:=g3 (by omega)
       exact(Ei i x hi).2
  |ptr b u off=>
   simp only[view]at h;cases hu:upto σ b u with
   |none=>simp[hu]at h
   |some B=>
    simp only[hu]at h;split at h
    case isFalse=>simp at h
    rename_i hle;simp only[aA,cF]at hle;cases hp:part B.cells 0 B.k with
    |none=>simp[hp]at h
    |some z=>
     cases hz:view σ fr f z with
     |none=>simp[hp,hz]at h
     |some z' =>
      simp[hp,hz]at h;subst h;unfold VR at hv;obtain⟨_,gH,hv⟩:=hv;obtain⟨id,ho⟩:=jg b u B gH hu;obtain⟨_,e1,e3,e4⟩:=hg.kN b u B _ ho;have hv:=hv B _ ho;have hs:B.st = .live:=by
       have:=hle.2
       revert this
       cases B.st<;>simp[eM.isLive]
      have hv:=hv hs;subst hv;obtain⟨n1,c,el,n2,n3,n4⟩:=hg.live b u B _ ho hs;obtain⟨val,p1,p2,p3,_⟩:=Ac n4 hp;obtain⟨q1,q2⟩:=ih z z' val hz p1;obtain⟨⟨rfl,_⟩,_⟩:=hle;exact⟨rfl,by unfold VR;exact⟨q1,id,0,c,el,(0,0),val,rfl,hf.own _ ⟨b,u,B,ho,kT hs⟩,n2,q2,λj hj=>p3 j (by omega)⟩⟩
  |agg l=>
   simp only[view]at h;cases hm:bI (view σ fr f) l with
   |none=>simp[hm]at h
   |some m=>
    simp[hm]at h;subst h;unfold VR at hv;obtain⟨vs,e,hl,hc⟩:=hv;obtain⟨h1,h2⟩:=wJ ih hm hl;exact⟨by simpa[aI]using h1,by unfold VR;exact⟨vs,e,h2,hc⟩⟩
  |bF l=>simp[view]at h
  |func g l=>
   simp only[view]at h;cases hm:bI (view σ fr f) l with
   |none=>simp[hm]at h
   |some m=>
    simp[hm]at h;subst h;unfold VR at hv;obtain⟨vs,e,hl⟩:=hv;obtain⟨h1,h2⟩:=wJ ih hm hl;exact⟨by simpa[aI]using h1,by unfold VR;exact⟨vs,e,h2⟩⟩
  |iface t z=>
   simp only[view]at h;cases hm:view σ fr f z with
   |none=>simp[hm]at h
   |some m=>
    simp[hm]at h;subst h;unfold VR at hv;obtain⟨val,e,hl⟩:=hv;obtain⟨h1,h2⟩:=ih z m val hm hl;exact⟨by simpa[aI]using h1,by unfold VR;exact⟨val,e,h2⟩⟩
  |au nn l=>
   simp only[view]at h;cases fr with
   |true=>simp at h
   |false=>
    simp at h;subst h;refine⟨rfl,?_⟩;exact VR.fD (x:=.au nn l) (VR.free ⟨hf.au rfl,λ_ _=>rfl⟩ _ _ rfl hv)
  |aV z=>
   simp only[view]at h;cases fr with
   |true=>simp at h
   |false=>
    simp at h;subst h;exact⟨rfl,VR.free ⟨hf.au rfl,λ_ _=>rfl⟩ _ _ rfl hv⟩
  |ae=>simp[view]at h;subst h;exact⟨rfl,VR.fD (x:=.ae) hv⟩
  |emp=>simp[view]at h;subst h;exact⟨rfl,VR.fD (x:=.emp) hv⟩
  |arr l=>simp[view]at h
  |aF=>simp[view]at h
  |cC b=>
   simp[view]at h;subst h;unfold VR at hv;obtain⟨⟨a,rfl⟩,_⟩:=hv;exact⟨rfl,rfl⟩
  |_=>simp[view]at h;subst h;exact⟨rfl,hv⟩
theorem Ki{σ:List ah}{C:Ctx}{w:World}(a:∀b u B,C.lim b u->upto σ b u=some B->∃id,C.own b u=some (B,id)) (i:Good C w) (j:L5 fr C C2)
  {y:AV} {v:Value} (h:bV σ fr x=some y) (d:VR C w.heap x v):VR C2 w.heap y v:=by
 by_cases n:∃l,x = .bF l
 .obtain⟨l,rfl⟩:=n
  simp only[bV]at h;cases g:bI (view σ fr vd) l with
  |none=>simp[g]at h
  |some m=>
   simp[g]at h;subst h;unfold VR at d;obtain⟨vs,e,o⟩:=d;unfold VR;exact⟨vs,e,(wJ (λx y v=>zA a i j vd x y v) g o).2⟩
 .have:bV σ fr x=view σ fr vd x:=by
   cases x<;>first|rfl|exact absurd ⟨_,rfl⟩ n
  rw[this]at h;exact(zA a i j vd x y v h d).2
theorem XR{C:Ctx}{H:Array Obj}{z:AV}{y:Value}(b:il x) (h:VR C H x y) (d:part x.cells off k=some z) :
  ∃v,VR C H z v/\v.cells.size=aE k/\(∀j,j<aE k->y.cells[off+j]? = v.cells[j]?)/\(k=none->v.cells = #[v])/\(k ≠ none->∃vs,v = .agg vs):=by
 obtain⟨e,g⟩:=VR.cells b h;refine Ac (λi l m=>?_) d;obtain⟨v,a,n⟩:=e.get i l m;refine⟨v,by simpa using a,n,g v (qO a)⟩
end Ab
namespace Ab
open Go
def bu (P:Program) (t:TypeId) (k:Option Nat):Bool:=
 match P.underlying t,P.info? t with
 |some d,some i=>match d,k with
  |.struct _,some n=>i.size==n
  |.array _ _,some n=>i.size==n
  |.struct _,none=>false
  |.array _ _,none=>false
  |_,none=>i.size==1
  |_,_=>false
 |_,_=>false
def cm (P:Program) (t:TypeId) (n:Nat):Bool:=
 match P.info? t with
 |some i=>i.size==n
 |none=>false
def aN (P:Program) (t:TypeId):Option TypeId:=
 match P.underlying t with
 |some (.slice e)=>some e
 |_=>none
def jZ:Value->AV->Bool
 |.int .i64 n,.int m=>n==m
 |.int k n,.ik j m=>(match jx j with|some K=>decide (k=K)|none=>false)&&n==m
 |.bool a,.bool b=>a==b
 |.slice none 0 0,.ae=>true
 |.pointer none,.gI=>true
 |.map none,.oT=>true
 |.nilFunc,.j9=>true
 |.nilIface,.gu=>true
 |.string s,.str l=>s.data.toList==l
 |_,_=>false
def dZ:List Value->List AV->Bool
 | [],[]=>true
 |v::vs,x::xs=>jZ v x&&dZ vs xs
 |_,_=>false
def gW (P:Program) (t:TypeId) (z:List AV):Bool:=
 match P.info? t with
 |some i=>match i.zero with
  |some v=>dZ v.cells.toList z
  |none=>false
 |none=>false
def cH (P:Program) (t:TypeId):Bool:=
 match P.info? t with
 |some i=>match i.zero with
  |some v=>v.cells.size==i.size
  |none=>false
 |none=>false
def fe (P:Program) (t:TypeId):Bool:=
 match P.info? t with
 |some i=>decide (i.bytes<=4096)
 |none=>false
def kf (f:Operand->Rf->Bool):List Operand->List Rf->Bool
 | [],[]=>true
 |x::xs,y::ys=>f x y&&kf f xs ys
 |_,_=>false
def ui:BinOp->zf->Bool
 |.add,.add | .add,.sV | .sub,.sub | .mul,.mul | .quo,.quo | .rem,.rem | .lss,.lss | .leq,.leq | .gtr,.gtr | .geq,.geq | .eql,.eql | .neq,.neq=>true
 |_,_=>false
def mR (f:Operand->Rf->Bool):Option Operand->Option Rf->Bool
 |none,none=>true
 |some x,some y=>f x y
 |_,_=>false
def gi (f:Operand->Rf->Bool) (place:Nat->Option (Nat×Nat)):List (Nat×Operand)->List (Nat×Nat×Rf)->Bool
 | [],[]=>true
 |(i,x)::xs,(o,n,y)::ys=>(match place i with|some (a,b)=>a==o&&b==n|none=>false)&&f x y&&gi f place xs ys
 |_,_=>false
def placesOf (P:Program):List Field->Option (List (Nat×Nat))
 | []=>some []
 |f::r=>match P.info? f.type,placesOf P r with
  |some i,some l=>some ((f.offset,i.size)::l)
  |_,_=>none
def fO:Nat->List (Nat×Operand)->Bool
 |_,[]=>true
 |k,(i,_)::r=>i==k&&fO (k+1) r
def jw:Operand->Bool
 |.const (.slice none 0 0)=>true
 |_=>false
def pB (P:Program) (m:String):List (Nat×Nat)->Bool
 | []=>true
 |(t,f)::r=>(match P.info? t with
  |some i=>(match i.methods.find? (·.name==m)with
   |some x=>x.path.isEmpty&&(match x.func with
    |some (g,ptr)=>g==f&&(match P.underlying t with
     |some (.pointer _)=>ptr
     |some _=>!ptr
     |none=>false)
    |none=>false)
   |none=>false)
  |none=>false)&&pB P m r
def cz (P:Program) (f:Nat):Bool:=
 match P.funcs[f]? with
 |some fn=>fn.body.isSome && !(fn.name == "runtime.NumGoroutine")
 |none=>false
def kC (o:BinOp) (neg:Bool):Bool:=
 match o with
 |.eql=>!neg
 |.neq=>neg
 |_=>false
def fJ (P:Program):List Field->Nat->Bool
 | [],_=>true
 |f::r,o=>f.name != "_" && (match P.underlying f.type with|some (.int .i64)=>true|_=>false)&&bu P f.type none&&f.offset==o&&fJ P r (o+1)
def xm (P:Program) (t:TypeId) (n:Nat):Bool:=(match P.underlying t with
 |some (.struct fs)=>fs.size==n&&fJ P fs.toList 0
 |_=>false) && !P.stoodInHeld t && !P.eqGuardType P.depth t
def j5 (P:Program):List Field->Nat->Bool
 | [],_=>true
 |f::r,o=>f.name != "_" && (match P.underlying f.type with|some .string=>true|_=>false)&&bu P f.type none&&f.offset==o&&j5 P r (o+1)
def xn (P:Program) (t:TypeId) (n:Nat):Bool:=(match P.underlying t with
 |some (.struct fs)=>fs.size==n&&j5 P fs.toList 0
 |_=>false) && !P.stoodInHeld t && !P.eqGuardType P.depth t
def dA (P:Program) (t:TypeId) (a:Nat):Bool:=match a,P.underlying t with
 |0,some (.int .i64)=>true
 |1,some .string=>true
 |n+2,some (.struct fs)=>fs.size==n&&fJ P fs.toList 0 && !P.stoodInHeld t
 |n+2,some (.array m e)=>m==n&&(match P.underlying e with|some (.int .i64)=>true|_=>false)&&bu P e none
 |_,_=>false
def mZ (P:Program) (t:TypeId) (z:AV):Bool:=match P.info? t with
 |some i=>match i.zero with
  |some v=>jZ v z&&aI z
  |none=>false
 |none=>false
def kX (P:Program) (R:Operand->Rf->Bool):Op->cS->Bool
 |.move x,.mv y=>R x y
 |.assign x,.mv y=>R x y
 |.assign x,.nl _=>jw x
 |.binOp o _ x y _,.bin o' h q =>ui o o' && R x h && R y q
 |.binOp o t x y _,.seq neg n h q =>kC o neg&&xm P t n&&R x h && R y q
 |.binOp o t x y _,.beq neg h q =>kC o neg&&(match P.underlying t with|some .bool=>true|_=>false)&&R x h && R y q
 |.binOp o t x y _,.mP neg z=>kC o neg&&(aN P t).isSome&&((jw y&&R x z)||(jw x&&R y z))
 |.unOp .not _ x,.not y=>R x y
 |.unOp .neg _ x,.bin .sub (.c (.int 0)) y=>R x y
 |.pick c a b,.pick c' L M =>R c c' && R a L && R b M
 |.call {callee:=.builtin .len,args,argTypes},.len y=>(match args.toList,argTypes.toList with
  | [x],[t]=>(aN P t).isSome&&R x y
  |_,_=>false)
 |.call {callee:=.builtin .max,args,..},.mx true h q =>(match args.toList with
  | [x,y]=>R x h && R y q
  |_=>false)
 |.call {callee:=.builtin .min,args,..},.mx false h q =>(match args.toList with
  | [x,y]=>R x h && R y q
  |_=>false)
 |.fieldAddr s x f,.dB y off k=>(match P.underlying s with
  |some (.struct fs)=>(match fs[f]? with
   |some E=>E.offset==off&&bu P E.type k && !cm P E.type 0
   |none=>false)
  |_=>false)&&R x y
 |.indexAddr t x i,.bd h C st=>(match aN P t with
  |some e=>cm P e st
  |none=>false)&&R x h && R i C
 |.indexAddr t x i,.fg h C n k=>(match P.underlying t with
  |some (.array m e)=>m==n&&bu P e k&&decide (2<=m)
  |_=>false)&&R x h && R i C
 |.nilCheck x,.nM y=>R x y
 |.box _ x,.eR y=>R x y
 |.box t x,.sJ y k=>bu P t k&&R x y
 |.alloc t,.ks z k=>gW P t z&&bu P t k
 |.alloc t,.ff n=>cm P t n&&(match P.info? t with|some i=>(match i.zero with|some v=>v.cells.size==n|none=>false)|none=>false)
 |.store t p x,.iF p' h n=>cm P t n&&R p p' && R x h
 |.store t p x,.st p' h n=>cm P t n&&R p p' && R x h
 |.load t x,.ld y k=>bu P t k&&R x y
 |.load t x,.cK y k=>bu P t k&&R x y
 |.build t ps,.ie z K=>gW P t z&&(match P.underlying t with
  |some (.struct fs)=>(match placesOf P fs.toList with|some l=>gi R (λi=>l[i]?) ps.toList K|none=>false)
  |some (.array _ e)=>(match P.info? e with|some i=>gi R (λj=>some (j*i.size,i.size)) ps.toList K|none=>false)
  |_=>false)
 |.extract x i,.ext y j=>i==j&&R x y
 |.makeFunc (.func f) fst D,.zU g ys=>fst.isEmpty&&f==g&&kf R D.toList ys
 |.makeInterface t x,.JQ u y=>t==u&&(match P.underlying t with|some (.interface _)=>false|some _=>true|none=>false)&&R x y
 |.buildSlice t n ps,.bD ys st=>(match aN P t with|some e=>cm P e st&&cH P e&&decide (n*st<=2^24)|none=>false)&&n==ps.size&&fO 0 ps.toList&&kf R (ps.toList.map (·.2)) ys
 |.buildSlice t n ps,.cp ys st=>(match aN P t with|some e=>cm P e st&&cH P e&&decide (n*st<=2^24)|none=>false)&&n==ps.size&&fO 0 ps.toList&&kf R (ps.toList.map (·.2)) ys
 |.buildSlice t n ps,.lZ ys k=>(match aN P t with|some e=>bu P e k&&cH P e&&decide (n*aE k<=2^24)|none=>false)&&n==ps.size&&fO 0 ps.toList&&kf R (ps.toList.map (·.2)) ys
 |.slice t x N O none,.pI y F G st=>(match aN P t with|some e=>cm P e st|none=>false)&&R x y&&mR R N F && mR R O G
 |.convert s d x,.CC y=>(match P.underlying s,P.underlying d with|some (.int _),some (.int .i64)=>true|_,_=>false)&&R x y
 |.makeSlice t l c,.iH l' c' z k=>(match aN P t with|some e=>bu P e k&&gW P e z&&fe P e|none=>false)&&R l l' && R c c'
 |.call {callee:=.builtin .append,args,argTypes},.app s' h k=>(match args.toList,argTypes.toList with
  | [s,x],[t,H]=>(match aN P t with|some e=>bu P e k&&fe P e&&cH P e|none=>false)&&(aN P H).isSome&&R s s' && R x h
  |_,_=>false)
 |.call {callee:=.builtin .append,args,argTypes},.cu s' h k=>(match args.toList,argTypes.toList with
  | [s,x],[t,H]=>(match aN P t with|some e=>bu P e k&&fe P e&&cH P e|none=>false)&&(aN P H).isSome&&R s s' && R x h
  |_,_=>false)
 |.call {callee:=.value (.func f),args,..},.kl g ys=>f==g&&cz P f&&kf R args.toList ys
 |.call {callee:=.value (.func f),args,..},.qN g ys=>f==g&&cz P f&&kf R args.toList ys
 |.call {callee:=.value (.func f),args,..},.can g ys=>f==g&&cz P f&&kf R args.toList ys
 |.call {callee:=.value (.func f),args,..},.eZ g ys=>f==g&&cz P f&&kf R args.toList ys
 |.call {callee:=.value x,args,..},.kR y ys=>R x y&&kf R args.toList ys
 |.call {callee:=.value x,args,..},.kB y ys=>R x y&&kf R args.toList ys
 |.call {callee:=.invoke x m,args,..},.inv y I ys=>R x y&&kf R args.toList ys&&pB P m I
 |.call {callee:=.builtin .clear,args,argTypes},.tY y z k=>(match args.toList,argTypes.toList with
  | [x],[t]=>(match aN P t with|some e=>bu P e k&&gW P e z|none=>false)&&R x y
  |_,_=>false)
 |.makeMap _ none,.wM=>true
 |.lookup t x k ok,.tZ h r w z J =>(match P.underlying t with
  |some (.map A e)=>dA P A r&&mZ P e z
  |_=>false)&&ok==J && R x h && R k w
 |.call {callee:=.builtin .len,args,argTypes},.ze h =>(match args.toList,argTypes.toList with
  | [x],[t]=>(match P.underlying t with|some (.map _ _)=>true|_=>false)&&R x h
  |_,_=>false)
 |.mapUpdate t m k x,.tX B r w h =>(match P.underlying t with
  |some (.map A _)=>dA P A r
  |_=>false)&&R m B && R k w && R x h
 |.insert t m k x,.tX B r w h =>(match P.underlying t with
  |some (.map A _)=>dA P A r
  |_=>false)&&R m B && R k w && R x h
 |.convert s d x,.JN y=>(match P.underlying s,P.underlying d with|some (.int _),some (.int .u8)=>true|_,_=>false)&&R x y
 |.convert s d x,.zK y=>(match P.underlying s,P.underlying d with|some (.slice e),some .string=>(match P.underlying e with|some (.int .u8)=>true|_=>false)|_,_=>false)&&R x y
 |.mapUpdate t m k x,.wg B r w h =>(match P.underlying t with
  |some (.map A _)=>dA P A r&&decide (r<2)
  |_=>false)&&R m B && R k w && R x h
 |.insert t m k x,.wg B r w h =>(match P.underlying t with
  |some (.map A _)=>dA P A r&&decide (r<2)
  |_=>false)&&R m B && R k w && R x h
 |.convert s d x,.JE y=>(match P.underlying s,P.underlying d with|some .string,some (.slice e)=>(match P.underlying e with|some (.int .u8)=>true|_=>false)|_,_=>false)&&R x y
 |.index t x i,.JO h C =>(match P.underlying t with|some .string=>true|_=>false)&&R x h && R i C
 |.convert s d x,.zR y=>(match P.underlying s,P.underlying d with|some (.int _),some (.int .u8)=>true|_,_=>false)&&R x y
 |.binOp .shr _ x y _,.DQ h q =>R x h && R y q
 |.binOp o t x y _,.JP neg h q =>kC o neg&&(match P.underlying t with|some (.int _)=>true|_=>false)&&R x h && R y q
 |.buildSlice t n ps,.qP st=>(match aN P t with|some e=>cm P e st&&cH P e|none=>false)&&n==0&&ps.size==0
 |.binOp o t x y _,.JS neg n h q =>kC o neg&&xn P t n&&R x h && R y q
 |_,_=>false
def cS.jC:cS->Bool
 |.mP .. | .ld .. | .pI .. | .can .. | .qN .. | .sJ .. | .ks .. | .iH .. | .lZ .. | .nl .. | .app .. | .st .. | .cu .. | .eZ .. | .kB .. | .rm .. | .tY .. | .wM | .tZ .. | .ze .. | .tX .. | .JR .. | .zK .. | .wg ..=>false
 |_=>true
end Ab
namespace Ab
open Go
variable{P:Program}
variable{t:TypeId}
theorem kr{n:Nat}(h:cm P t n=true) (w:World):(Go.sizeOf t).run P w = .ok n w:=by
 unfold cm at h;cases a:P.info? t with
 |none=>simp[a]at h
 |some i=>
  simp[a]at h;rw[run_sizeOf w a];simp[Program.cellsOf,a,h]
variable{k:Option Nat}
theorem mI(h:bu P t k=true):cm P t (aE k)=true:=by
 unfold bu at h;unfold cm;cases a:P.underlying t with
 |none=>simp[a]at h
 |some d=>
  cases b:P.info? t with
  |none=>simp[a,b]at h
  |some i=>
   simp only[a,b]at h ⊢;cases d<;>cases k<;>simp_all [aE]
theorem sP(h:bu P t k=true) (w:World):(isAgg t).run P w = .ok k.isSome w:=by
 unfold bu at h;cases a:P.underlying t with
 |none=>simp[a]at h
 |some d=>
  cases b:P.info? t with
  |none=>simp[a,b]at h
  |some i=>
   simp only[a,b]at h;simp only[isAgg,aS,run_underlying a,aU];cases d<;>cases k<;>simp_all
theorem lY{e:TypeId}(h:aN P t=some e) (w:World):(underlying t).run P w = .ok (.slice e) w:=by
 unfold aN at h;cases a:P.underlying t with
 |none=>simp[a]at h
 |some d=>cases d<;>simp[a]at h;subst h;exact run_underlying a w
theorem L7{w:World}(e:bu P t k=true){ak off:Nat}{c:Array Value}{el:TypeId}{h:Nat×Nat}{v:Value}
  (l:w.heap[ak]? = some (.cells c el h)) (g:v.cells.size=aE k) (m:∀j,j<aE k->c[off+j]? = v.cells[j]?) (o:k=none->v.cells = #[v]) (p:k ≠ none->∃vs,v = .agg vs) :
  (loadVar t ⟨ak,off,none⟩).run P w = .ok v w:=by
 have a:∀j,j<aE k->w.cell? ((⟨ak,off,none⟩:Addr).add j)=some (v.cells.getD j undef):=λj b=>by
  have:((⟨ak,off,none⟩:Addr).add j)=⟨ak,off+j,none⟩:=by
   unfold Addr.add;split
   .rename_i d;subst d;rfl
   .rfl
  rw[this];simp only[World.cell?,l];simp only[sQ,eo,eJ];rw[m j b];have:j<v.cells.size:=by omega
  simp[this]
 unfold loadVar;simp only[aS,sP e,aU];cases k with
 |none=>
  simp only[sQ,eo,eJ];have d:=a 0 (by simp[aE])
  simp only[Addr.add,dt]at d;have q:=o rfl;rw[q]at d;simp at d;simp[load,Sem.run,d]
 |some n=>
  obtain⟨vs,rfl⟩:=p (by simp)
  simp only[Option.isSome_some,dt,aS,kr (mI e),aU,aE];have r:=run_loadCells (P:=P) (w:=w) ⟨ak,off,none⟩ n (λj=>vs.getD j undef) (λj b=>a j b);rw[r];simp only[aU,bh];simp only[Value.cells,aE]at g
  congr 2
  apply Array.ext
  .simp[g]
  .intro i x s
   have u:i<vs.size:=by simpa using s
   simp[u]
end Ab
namespace Ab
open Go
variable{P:Program}
variable{v:Value}
theorem XS{P:Program}{s:Sem Value}{w:World}(h:s.run P w = .ok v w):(do pure (Next.value (<-s)):Sem Next).run P w = .ok (.value v) w:=by
 simp only[aS,h,aU,bh]
theorem DO{C:Ctx}{H:Array Obj}{x:AV}(h:jZ v x=true):VR C H x v:=by
 unfold jZ at h;split at h<;>first
  |(simp at h;done)
  |skip
 .simp at h;subst h;unfold VR;rfl
 .rename_i k n j m
  cases a:jx j with
  |none=>simp[a]at h
  |some K=>
   simp[a]at h;obtain⟨rfl,rfl⟩:=h;unfold VR;exact⟨_,a,rfl⟩
 .simp at h;subst h;unfold VR;rfl
 .unfold VR;rfl
 .unfold VR;rfl
 .unfold VR;rfl
 .unfold VR;rfl
 .unfold VR;rfl
 .simp at h
  unfold VR;rw[<-h]
theorem L8{C:Ctx}{H:Array Obj}:∀{vs:List Value}{xs:List AV},dZ vs xs=true->bW C H xs vs
 | [],[],_=>rfl
 |v::vs,x::xs,h=>by
  simp only[dZ,aA]at h;exact⟨v,vs,rfl,DO h.1,L8 h.2⟩
 | [],_::_,h=>by simp[dZ]at h
 |_::_,[],h=>by simp[dZ]at h
theorem l7{C:Ctx}{H:Array Obj}{R:Operand->Rf->Bool}{ρ:Operand->Value}{r:Rf->AV}(a:∀x y,R x y=true->VR C H (r y) (ρ x)) :
  ∀{xs:List Operand} {ys:List Rf},kf R xs ys=true->bW C H (ys.map r) (xs.map ρ)
 | [],[],_=>rfl
 |x::xs,y::ys,h=>by
  simp only[kf,aA]at h;exact⟨ρ x,xs.map ρ,rfl,a _ _ h.1,l7 a h.2⟩
 | [],_::_,h=>by simp[kf]at h
 |_::_,[],h=>by simp[kf]at h
theorem u6{n:Int}(h:ka n=true):IntKind.i64.wrap n=n:=by
 simp only[ka,aA,dY]at h;exact IntWalk.i64_in n ⟨by omega,by omega⟩
end Ab
namespace Ab
open Go
variable{P:Program}
section plain
variable{ρ:Operand->Value}{r:Rf->AV}{w:World}{C:Ctx}{H:Array Obj}{R:Operand->Rf->Bool}
def Plain (P:Program) (ρ:Operand->Value) (o:Oper) (w:World) (C:Ctx) (H:Array Obj) (x:AV):Prop:=
 ∃v,(execOp ρ o).run P w = .ok (.value v) w/\VR C H x v
variable{x:AV}
theorem eY{o:Oper}{s:Sem Value}{v:Value}(a:execOp ρ o=(do pure (Next.value (<-s)))) (h:s.run P w = .ok v w) (b:VR C H x v):Plain P ρ o w C H x:=
 ⟨v,by rw[a];exact XS h,b⟩
theorem XT (n:Int):IntKind.i64.wrap n=wr n:=by
 unfold wr;simp only[IntKind.wrap,IntKind.bits,IntKind.signed,Bool.true_and,dY,show(2:Int)^64=18446744073709551616 by decide,show(2:Int)^(64-1)=9223372036854775808 by decide]
 split<;>omega
theorem XU{op:BinOp}{b:zf}{n m:Int}(hb:ui op b=true) (hx:bin b n m=some x) (t:TypeId) :
  ∃v,(binOp op t (.int .i64 n) (.int .i64 m)).run P w = .ok v w/\VR C H x v:=by
 unfold ui at hb;split at hb<;>simp only[bin]at hx
 case h_13=>simp at hb
 all_goals simp only[binOp,ne_eq,not_true_eq_false,eJ,Op.intArith,Op.intCmp,Op.intDiv]
 case h_1=>split at hx<;>simp at hx;rename_i h;subst hx;exact⟨_,rfl,by unfold VR;rw[u6 h]⟩
 case h_2=>simp at hx;subst hx;exact⟨_,rfl,by unfold VR;rw[XT]⟩
 case h_3=>split at hx<;>simp at hx;rename_i h;subst hx;exact⟨_,rfl,by unfold VR;rw[u6 h]⟩
 case h_4=>split at hx<;>simp at hx;rename_i h;subst hx;exact⟨_,rfl,by unfold VR;rw[u6 h]⟩
 case h_5=>
  by_cases h0:m=0
  .simp[h0]at hx
  .simp[h0]at hx;obtain⟨h,rfl⟩:=hx
   simp only[h0,eJ];exact⟨_,rfl,by unfold VR;rw[u6 h]⟩
 case h_6=>
  by_cases h0:m=0
  .simp[h0]at hx
  .simp[h0]at hx;subst hx
   simp only[h0,eJ];exact⟨_,rfl,by unfold VR;rfl⟩
 all_goals
  simp at hx;subst hx;refine⟨_,rfl,?_⟩;unfold VR
  first|rfl|(simp[bne])
end plain
end Ab
namespace Ab
open Go
variable{P:Program}
theorem xo{x:AV}(h:aI x=true):il x:=by
 refine⟨?_,λl=>?_⟩<;>(intro e;subst e;simp[aI]at h)
section
variable{ρ:Operand->Value}{r:Rf->AV}{w:World}{C:Ctx}{R:Operand->Rf->Bool}{ce:CE}{σ:List ah}{nl:Nat}{ps:List cD}
theorem p6 (b o n:Nat):(⟨b,o,none⟩:Addr).add n=⟨b,o+n,none⟩:=by
 unfold Addr.add;split
 .rename_i h;subst h;rfl
 .rfl
variable{v:Value}
theorem VR.ba{H:Array Obj}{n:Int}(h:VR C H (.int n) v):v = .int .i64 n:=h
theorem VR.lD{H:Array Obj}{n:Bool}(h:VR C H (.bool n) v):v = .bool n:=h
variable{o:Oper}{op:BinOp}{t': TypeId}{x:Operand}{x' y': Rf}{z:AV}{p:Option cD}
theorem V1{t: TypeId}{y:Operand}{b:zf}(j:o.op = .binOp op t x y t') (l:ui op b=true)
  (g:VR C w.heap (r x') (ρ x)) (h:VR C w.heap (r y') (ρ y)) (a:ev ce σ nl ps r (.bin b x' y')=some (z,p)):Plain P ρ o w C w.heap z/\p=none:=by
 simp only[ev]at a;cases d : r x' <;>simp only[d]at a<;>try(simp at a;done)
 cases e : r y' <;>simp only[e]at a<;>try(simp at a;done)
 rename_i n m;rw[d]at g;rw[e]at h;have g:=g.ba;have h:=h.ba;cases i:Ab.bin b n m with
 |none=>simp[i]at a
 |some B =>
  simp[i]at a;obtain⟨rfl,rfl⟩:=a;obtain⟨v,q,u⟩:=XU (P:=P) (w:=w) (C:=C) (H:=w.heap) l i t;refine⟨eY (s:=do eqGuard op t x y (ρ x) (ρ y);binOp op t (ρ x) (ρ y)) (by simp only[execOp,j]) ?_ u,rfl⟩
  rw[g,h];have A:(eqGuard op t x y (.int .i64 n) (.int .i64 m)).run P w = .ok () w:=by
   unfold eqGuard;split<;>simp
  simp only[aS,A,aU,q]
theorem V3{t: TypeId}{y:Operand}{neg:Bool}(q:o.op = .binOp op t x y t')
  (d:kC op neg=true) (l:(match P.underlying t with|some .bool=>true|_=>false)=true)
  (i:VR C w.heap (r x') (ρ x)) (j:VR C w.heap (r y') (ρ y)) (e:ev ce σ nl ps r (.beq neg x' y')=some (z,p)):Plain P ρ o w C w.heap z/\p=none:=by
 have u:P.underlying t=some .bool:=by
  split at l
  .assumption
  .simp at l
 simp only[ev]at e;cases g : r x' <;>simp only[g]at e<;>try(simp at e;done)
 cases h : r y' <;>simp only[h]at e<;>try(simp at e;done)
 rename_i a b;rw[g]at i;rw[h]at j;have i:=i.lD;have j:=j.lD;simp at e;obtain⟨rfl,rfl⟩:=e;refine⟨eY (s:=do eqGuard op t x y (ρ x) (ρ y);binOp op t (ρ x) (ρ y)) (v:=.bool ((a==b) != neg)) (by simp only[execOp,q]) ?_ (by unfold VR;rfl),rfl⟩
 rw[i,j];have m:(eqGuard op t x y (.bool a) (.bool b)).run P w = .ok () w:=by
  unfold eqGuard;split<;>simp
 have n:(Op.equal t (.bool a) (.bool b)).run P w = .ok (a==b) w:=by
  unfold Op.equal Op.maxDepth Op.equalIn;simp only[aS,run_underlying u,aU,bh]
 unfold kC at d;split at d
 .simp only[aS,m,aU,binOp,n,bh]
  simp at d;subst d;simp
 .simp only[aS,m,aU,binOp,n,bh]
  subst d;simp
 .simp at d
theorem wZ:∀{xs ys:List AV}{b:Bool},eN xs ys=some b->∃e g:List Int,xs=e.map .int/\ys=g.map .int/\e.length=g.length/\b=decide (e=g)
 | [],[],b,h=>by simp[eN]at h;subst h;exact⟨[],[],rfl,rfl,rfl,by simp⟩
 |.int a::xs,.int c::ys,b,h=>by
  simp only[eN]at h;cases i:eN xs ys with
  |none=>rw[i]at h;simp at h
  |some d=>
   rw[i]at h;simp at h;obtain⟨e,g,j,l,m,n⟩:=wZ i;refine⟨a::e,c::g,by rw[j];rfl,by rw[l];rfl,by simp[m],?_⟩
   rw[<-h,n,kY];simp
theorem uR{H:Array Obj}:∀{a:List Int}{vs:List Value},bW C H (a.map .int) vs->vs=a.map (Value.int .i64)
 | [],vs,h=>h
 |x::a,vs,h=>by
  obtain⟨v,s,rfl,b,d⟩:=h;rw[uR d,b.ba];rfl
theorem DL{d:Nat}{a b:List Int}{w:World}(q:a.length=b.length):∀{fs:List Field}{o:Nat},fJ P fs o=true->o+fs.length=a.length->
  (Op.eqFields (d+1) (a.map (Value.int .i64)).toArray (b.map (Value.int .i64)).toArray fs).run P w = .ok (decide (a.drop o=b.drop o)) w
 | [],o,_,i=>by
  simp only[Op.eqFields,bh];rw[ji (by simp at i;omega),ji (by simp at i;omega)]
  simp
 |f::fs,o,j,i=>by
  simp only[fJ,aA,cF,bne_iff_ne]at j;obtain⟨⟨⟨⟨r,l⟩,s⟩,u⟩,x⟩:=j;have y:P.underlying f.type=some (.int .i64):=by
   split at l
   .assumption
   .simp at l
  simp only[bX]at i;have m:o<a.length:=by omega
  have n:o<b.length:=by omega
  have p:∀(Z:List Int) (h:o<Z.length),(Go.part f.type (Z.map (Value.int .i64)).toArray f.offset).run P w = .ok (.int .i64 Z[o]) w:=λZ h=>by
   have z:(Z.map (Value.int .i64)).toArray[o]? = some (.int .i64 Z[o]):=by simp[h]
   simp only[Go.part,aS,sP s,sQ,aU,eo,eJ,u,z,bh]
  simp only[Op.eqFields,ab r,aS,p a m,p b n,aU,run_equalIn_int w d f.type .i64 .i64 _ _ y];have A:=DL (d:=d) (w:=w) q x (by omega)
  have g:(a.drop o=b.drop o)↔(a[o]=b[o]/\a.drop (o+1)=b.drop (o+1)):=by
   rw[p9 m,p9 n,List.cons.injEq]
  by_cases e:a[o]=b[o]
  .have hd:decide (a.drop (o+1)=b.drop (o+1))=decide (a.drop o=b.drop o):=by
    rw[kY,decide_eq_true_iff,decide_eq_true_iff,g];exact⟨λh=>⟨e,h⟩,λh=>h.2⟩
   have B:(a[o]==b[o])=true:=by simpa using e
   simp only[B,Bool.not_true,eo,eJ,A,hd]
  .have C : (a[o]==b[o])=false:=by simpa using e
   have hd:decide (a.drop o=b.drop o)=false:=oV λh=>e (g.1 h).1;simp only[C, Bool.not_false,dt,bh,hd]
variable{n:Nat}
theorem V2{t: TypeId}{y:Operand}{neg:Bool}(ho:o.op = .binOp op t x y t')
  (eS:kC op neg=true) (ht:xm P t n=true)
  (hx:VR C w.heap (r x') (ρ x)) (hy:VR C w.heap (r y') (ρ y)) (he:ev ce σ nl ps r (.seq neg n x' y')=some (z,p)):Plain P ρ o w C w.heap z/\p=none:=by
 unfold xm at ht;simp only[aA,Bool.not_eq_true']at ht;obtain⟨⟨Ad,XV⟩,XW⟩:=ht;split at Ad
 case h_2=>simp at Ad
 rename_i fs hu;simp only[aA,cF]at Ad;obtain⟨hn,hi⟩:=Ad;simp only[ev]at he;cases pF : r x' <;>simp only[pF]at he<;>try(simp at he;done)
 cases Ej : r y' <;>simp only[Ej]at he<;>try(simp at he;done)
 rename_i xs ys;rw[pF]at hx;rw[Ej]at hy;split at he
 case isFalse=>simp at he
 rename_i L9;cases hb:eN xs ys with
 |none=>rw[hb]at he;simp at he
 |some b=>
  rw[hb]at he;simp at he;obtain⟨rfl,rfl⟩:=he;obtain⟨Xs,Ys,rfl,rfl,hl,rfl⟩:=wZ hb;obtain⟨vs,ex,pG,_⟩:=hx;obtain⟨us,ey,zi,_⟩:=hy;rw[uR pG]at ex;rw[uR zi]at ey;have Ma:P.fieldsOf t=fs:=by unfold Program.fieldsOf;rw[hu]
  have JL:Xs.length=n:=by simpa using L9
  refine⟨eY (s:=do eqGuard op t x y (ρ x) (ρ y);binOp op t (ρ x) (ρ y)) (v:=.bool ((decide (Xs=Ys)) != neg)) (by simp only[execOp,ho]) ?_ (by unfold VR;rfl),rfl⟩
  rw[ex,ey];have hg:=run_eqGuard_agg w op t x y (Xs.map (Value.int .i64)).toArray (Ys.map (Value.int .i64)).toArray XW;have hq:(Op.equalIn 10000 t (.agg (Xs.map (Value.int .i64)).toArray) (.agg (Ys.map (Value.int .i64)).toArray)).run P w = .ok (decide (Xs=Ys)) w:=by
   rw[show(10000:Nat)=9999+1 from rfl,run_equalIn_struct w 9999 t _ _ (by rw[Ma];exact hu) XV,Ma]
   have:=DL (P:=P) (d:=9998) (w:=w) hl (fs:=fs.toList) (o:=0) hi (by simp[JL,hn])
   simpa using this
  unfold kC at eS;split at eS
  .simp only[aS,hg,aU,run_eql_struct,hq]
   simp at eS;subst eS;simp
  .simp only[aS,hg,aU,run_neq_struct,hq]
   subst eS;simp
  .simp at eS
def strVal (s:List UInt8):Value:=.string ⟨s.toArray⟩
theorem Mb:∀{xs ys:List AV}{b:Bool},hU xs ys=some b->∃e g:List (List UInt8),xs=e.map .str/\ys=g.map .str/\e.length=g.length/\b=decide (e=g)
 | [],[],b,h=>by simp[hU]at h;subst h;exact⟨[],[],rfl,rfl,rfl,by simp⟩
 |.str a::xs,.str c::ys,b,h=>by
  simp only[hU]at h;cases i:hU xs ys with
  |none=>rw[i]at h;simp at h
  |some d=>
   rw[i]at h;simp at h;obtain⟨e,g,j,l,m,n⟩:=Mb i;refine⟨a::e,c::g,by rw[j];rfl,by rw[l];rfl,by simp[m],?_⟩
   rw[<-h,n,kY];simp
theorem Ek{H:Array Obj}:∀{a:List (List UInt8)}{vs:List Value},bW C H (a.map .str) vs->vs=a.map strVal
 | [],vs,h=>h
 |x::a,vs,h=>by
  obtain⟨v,s,rfl,b,d⟩:=h;unfold VR at b;rw[Ek d,b];rfl
theorem Mc{d:Nat}{a b:List (List UInt8)}{w:World}(r:a.length=b.length):∀{fs:List Field}{o:Nat},j5 P fs o=true->o+fs.length=a.length->
  (Op.eqFields (d+1) (a.map strVal).toArray (b.map strVal).toArray fs).run P w = .ok (decide (a.drop o=b.drop o)) w
 | [],o,_,i=>by
  simp only[Op.eqFields,bh];rw[ji (by simp at i;omega),ji (by simp at i;omega)]
  simp
 |f::fs,o,j,i=>by
  simp only[j5,aA,cF,bne_iff_ne]at j;obtain⟨⟨⟨⟨u,l⟩,x⟩,y⟩,z⟩:=j;have A:P.underlying f.type=some .string:=by
   split at l
   .assumption
   .simp at l
  simp only[bX]at i;have m:o<a.length:=by omega
  have n:o<b.length:=by omega
  have p:∀(Z:List (List UInt8)) (h:o<Z.length),(Go.part f.type (Z.map strVal).toArray f.offset).run P w = .ok (.string ⟨Z[o].toArray⟩) w:=λZ h=>by
   have B:(Z.map strVal).toArray[o]? = some (.string ⟨Z[o].toArray⟩):=by simp[h,strVal]
   simp only[Go.part,aS,sP x,sQ,aU,eo,eJ,y,B,bh]
  simp only[Op.eqFields,ab u,aS,p a m,p b n,aU,run_equalIn_string w d f.type _ _ A];have C:=Mc (d:=d) (w:=w) r z (by omega)
  have g:(a.drop o=b.drop o)↔(a[o]=b[o]/\a.drop (o+1)=b.drop (o+1)):=by
   rw[p9 m,p9 n,List.cons.injEq]
  have q:∀s:List UInt8,ByteArray.toList ⟨s.toArray⟩=s:=λs=>by rw[ByteArray.toList_eq]
  rw[q,q]
  by_cases e:a[o]=b[o]
  .have hd:decide (a.drop (o+1)=b.drop (o+1))=decide (a.drop o=b.drop o):=by
    rw[kY,decide_eq_true_iff,decide_eq_true_iff,g];exact⟨λh=>⟨e,h⟩,λh=>h.2⟩
   have D:(a[o]==b[o])=true:=by simpa using e
   simp only[D,Bool.not_true,eo,eJ,C,hd]
  .have E : (a[o]==b[o])=false:=by simpa using e
   have hd:decide (a.drop o=b.drop o)=false:=oV λh=>e (g.1 h).1;simp only[E, Bool.not_false,dt,bh,hd]
theorem Wn{t: TypeId}{y:Operand}{neg:Bool}(ho:o.op = .binOp op t x y t')
  (eS:kC op neg=true) (ht:xn P t n=true)
  (hx:VR C w.heap (r x') (ρ x)) (hy:VR C w.heap (r y') (ρ y)) (he:ev ce σ nl ps r (.JS neg n x' y')=some (z,p)):Plain P ρ o w C w.heap z/\p=none:=by
 unfold xn at ht;simp only[aA,Bool.not_eq_true']at ht;obtain⟨⟨Ad,XV⟩,XW⟩:=ht;split at Ad
 case h_2=>simp at Ad
 rename_i fs hu;simp only[aA,cF]at Ad;obtain⟨hn,hi⟩:=Ad;simp only[ev]at he;cases pF : r x' <;>simp only[pF]at he<;>try(simp at he;done)
 cases Ej : r y' <;>simp only[Ej]at he<;>try(simp at he;done)
 rename_i xs ys;rw[pF]at hx;rw[Ej]at hy;split at he
 case isFalse=>simp at he
 rename_i L9;cases hb:hU xs ys with
 |none=>rw[hb]at he;simp at he
 |some b=>
  rw[hb]at he;simp at he;obtain⟨rfl,rfl⟩:=he;obtain⟨Xs,Ys,rfl,rfl,hl,rfl⟩:=Mb hb;obtain⟨vs,ex,pG,_⟩:=hx;obtain⟨us,ey,zi,_⟩:=hy;rw[Ek pG]at ex;rw[Ek zi]at ey;have Ma:P.fieldsOf t=fs:=by unfold Program.fieldsOf;rw[hu]
  have JL:Xs.length=n:=by simpa using L9
  refine⟨eY (s:=do eqGuard op t x y (ρ x) (ρ y);binOp op t (ρ x) (ρ y)) (v:=.bool ((decide (Xs=Ys)) != neg)) (by simp only[execOp,ho]) ?_ (by unfold VR;rfl),rfl⟩
  rw[ex,ey];have hg:=run_eqGuard_agg w op t x y (Xs.map strVal).toArray (Ys.map strVal).toArray XW;have hq:(Op.equalIn 10000 t (.agg (Xs.map strVal).toArray) (.agg (Ys.map strVal).toArray)).run P w = .ok (decide (Xs=Ys)) w:=by
   rw[show(10000:Nat)=9999+1 from rfl,run_equalIn_struct w 9999 t _ _ (by rw[Ma];exact hu) XV,Ma]
   have:=Mc (P:=P) (d:=9998) (w:=w) hl (fs:=fs.toList) (o:=0) hi (by simp[JL,hn])
   simpa using this
  unfold kC at eS;split at eS
  .simp only[aS,hg,aU,run_eql_struct,hq]
   simp at eS;subst eS;simp
  .simp only[aS,hg,aU,run_neq_struct,hq]
   subst eS;simp
  .simp at eS
variable{a:Act}
theorem Dz(h:jw x=true) (b:ρ=a.eval):ρ x = .slice none 0 0:=by
 unfold jw at h;split at h
 .subst b;rfl
 .simp at h
theorem Md{neg:Bool}(i:∀b u B,C.lim b u->upto σ b u=some B->∃id,C.own b u=some (B,id))
  (e:VR C w.heap (r x') v) (d:ev ce σ nl ps r (.mP neg x')=some (z,p)):p=none/\∃n:Bool,z = .bool (n != neg)/\((n=true/\v = .slice none 0 0)\/(n=false/\∃a l c,v = .slice (some a) l c)):=by
 simp only[ev]at d;cases g : r x' <;>simp only[g]at d<;>try(simp at d;done)
 .simp at d;obtain⟨rfl,rfl⟩:=d
  rw[g]at e;exact⟨rfl,true,by cases neg<;>rfl,.inl ⟨rfl,e⟩⟩
 .rename_i m l
  have key:(z = .bool neg/\p=none)/\(m=true\/l ≠ []):=by
   cases m
   .cases l with
    |nil=>simp at d
    |cons a b=>simp at d;exact⟨⟨d.1.symm,d.2.symm⟩,.inr (by simp)⟩
   .simp at d;exact⟨⟨d.1.symm,d.2.symm⟩,.inl rfl⟩
  obtain⟨⟨rfl,rfl⟩,x⟩:=key;rw[g]at e;unfold VR at e;refine⟨rfl,false,by cases neg<;>rfl,.inr ⟨rfl,?_⟩⟩
  rcases e.2 with⟨y,a,rfl,A⟩|⟨ak,off,cap,st,c,el,E,rfl,_⟩
  .rcases x with h|h
   .obtain⟨q,rfl⟩:=sM.1 (A h);exact⟨_,_,_,rfl⟩
   .exact absurd y h
  .exact⟨_,_,_,rfl⟩
 .rename_i b u off len
  cases j:upto σ b u with
  |none=>simp[j]at d
  |some B=>
   cases s:B.st<;>simp[j,s]at d;obtain⟨rfl,rfl⟩:=d;rw[g]at e;obtain⟨id,D⟩:=i b u B (zJ e) j;unfold VR at e;have:=e.2.2 B id D;simp only[s]at this;obtain⟨c,el,o,cap,_,rfl,_⟩:=this;exact⟨rfl,false,by cases neg<;>rfl,.inr ⟨rfl,_,_,_,rfl⟩⟩
theorem K4{t: TypeId}{y:Operand}{neg:Bool}{A : Rf}(H:o.op = .binOp op t x y t') (j:ρ=a.eval)
  (d:kC op neg=true) (I:(aN P t).isSome=true) (m:∀b u B,C.lim b u->upto σ b u=some B->∃id,C.own b u=some (B,id))
  (q:(jw y=true/\VR C w.heap (r A) (ρ x))\/(jw x=true/\VR C w.heap (r A) (ρ y))) (G:ev ce σ nl ps r (.mP neg A)=some (z,p)):Plain P ρ o w C w.heap z/\p=none:=by
 obtain⟨e,D⟩:=sM.1 I;have J:=lY D w;have main:∀g i:Value,ρ x=g->ρ y=i->(∃n:Bool,z = .bool (n != neg)/\((g = .slice none 0 0/\((n=true/\i = .slice none 0 0)\/(n=false/\∃a l c,i = .slice (some a) l c)))\/
   (i = .slice none 0 0/\((n=true/\g = .slice none 0 0)\/(n=false/\∃a l c,g = .slice (some a) l c)))))->Plain P ρ o w C w.heap z:=by
  rintro g i K L ⟨n,rfl,h⟩;refine eY (s:=do eqGuard op t x y (ρ x) (ρ y);binOp op t (ρ x) (ρ y)) (v:=.bool (n != neg)) (by simp only[execOp,H]) ?_ (by unfold VR;rfl)
  rw[K,L];have M:(eqGuard op t x y g i).run P w = .ok () w:=by
   unfold eqGuard;rcases h with⟨rfl,⟨_,rfl⟩|⟨_,_,_,_,rfl⟩⟩|⟨rfl,⟨_,rfl⟩|⟨_,_,_,_,rfl⟩⟩<;>split<;>simp
  have N:(Op.equal t g i).run P w = .ok n w:=by
   unfold Op.equal Op.maxDepth Op.equalIn;rcases h with⟨rfl,⟨rfl,rfl⟩|⟨rfl,_,_,_,rfl⟩⟩|⟨rfl,⟨rfl,rfl⟩|⟨rfl,_,_,_,rfl⟩⟩<;>simp[aS,J,aU,bh]
  have O:op = .eql/\neg=false\/op = .neq/\neg=true:=by
   unfold kC at d;split at d
   .simp at d;exact .inl ⟨rfl,d⟩
   .exact .inr ⟨rfl,d⟩
   .simp at d
  rcases O with⟨rfl,rfl⟩|⟨rfl,rfl⟩ <;>
   rcases h with⟨rfl,⟨rfl,rfl⟩|⟨rfl,_,_,_,rfl⟩⟩|⟨rfl,⟨rfl,rfl⟩|⟨rfl,_,_,_,rfl⟩⟩ <;>
   simp[aS,M,aU,binOp,N,bh]
 rcases q with⟨E,q⟩|⟨E,q⟩
 .obtain⟨rfl,n,F,h⟩:=Md m q G
  exact⟨main _ _ rfl rfl ⟨n,F,.inr ⟨Dz E j,h⟩⟩,rfl⟩
 .obtain⟨rfl,n,F,h⟩:=Md m q G
  exact⟨main _ _ rfl rfl ⟨n,F,.inl ⟨Dz E j,h⟩⟩,rfl⟩
variable{t:TypeId}{y:Rf}
theorem V4(g:o.op = .unOp .not t x)
  (e:VR C w.heap (r y) (ρ x)) (a:ev ce σ nl ps r (.not y)=some (z,p)):Plain P ρ o w C w.heap z/\p=none:=by
 simp only[ev]at a;cases d : r y<;>simp only[d]at a<;>try(simp at a;done)
 rename_i b;rw[d]at e;simp at a;obtain⟨rfl,rfl⟩:=a;refine⟨eY (s:=Op.unary .not (ρ x)) (v:=.bool !b) (by simp only[execOp,g]) ?_ (by unfold VR;rfl),rfl⟩
 rw[e.lD];rfl
theorem V5(e:o.op = .unOp .neg t x)
  (d:VR C w.heap (r y) (ρ x)) (g:r (.c (.int 0)) = .int 0) (a:ev ce σ nl ps r (.bin .sub (.c (.int 0)) y)=some (z,p)):Plain P ρ o w C w.heap z/\p=none:=by
 simp only[ev,g]at a;cases b : r y<;>simp only[b]at a<;>try(simp at a;done)
 rename_i n;rw[b]at d;simp only[bin]at a;split at a<;>simp at a
 rename_i h;obtain⟨rfl,rfl⟩:=a;refine⟨eY (s:=Op.unary .neg (ρ x)) (v:=.int .i64 (0-n)) (by simp only[execOp,e]) ?_ (by unfold VR;simp),rfl⟩
 rw[d.ba];simp only[Op.unary,Op.intArith,bh,u6 h]
theorem V6{c a b:Operand}{c' h i : Rf}(j:o.op = .pick c a b)
  (d:VR C w.heap (r c') (ρ c)) (l:VR C w.heap (r h) (ρ a)) (m:VR C w.heap (r i) (ρ b)) (e:ev ce σ nl ps r (.pick c' h i)=some (z,p)):Plain P ρ o w C w.heap z/\p=none:=by
 simp only[ev]at e;cases g : r c' <;>simp only[g]at e<;>try(simp at e;done)
 rename_i q;rw[g]at d;have d:=d.lD;cases q<;>simp at e<;>obtain⟨rfl,rfl⟩:=e
 .exact⟨⟨ρ b,by simp only[execOp,j,d,asBool,aS,aU,bh];simp,m⟩,rfl⟩
 .exact⟨⟨ρ a,by simp only[execOp,j,d,asBool,aS,aU,bh];simp,l⟩,rfl⟩
theorem El{H:Array Obj}{x:AV}(d:VR C H x v) (h:x = .ae/\n=0\/(∃e l,x = .au e l/\n=l.length)\/(∃b u o,x = .sl b u o n)):∃a c,v = .slice a n c:=by
 rcases h with⟨rfl,rfl⟩|⟨e,l,rfl,rfl⟩|⟨b,u,o,rfl⟩
 .exact⟨_,_,d⟩
 .unfold VR at d
  rcases d.2 with⟨rfl,_,h,_⟩|⟨_,_,_,_,_,_,_,h,_⟩
  .exact⟨_,_,h⟩
  .exact⟨_,_,h⟩
 .unfold VR at d
  obtain⟨⟨a,c,h,_⟩,_⟩:=d;exact⟨a,c,h⟩
variable{ca:Call}
theorem V7(A:o.op = .call ca) (B:ca.callee = .builtin .len) (D:ca.args.toList=[x]) (j:ca.argTypes.toList=[t])
  (E:(aN P t).isSome=true) (h:VR C w.heap (r y) (ρ x)) (d:ev ce σ nl ps r (.len y)=some (z,p)):Plain P ρ o w C w.heap z/\p=none:=by
 obtain⟨e,m⟩:=sM.1 E;have F:=lY m w;have key:∃n:Nat,z = .int n/\p=none/\∃a c,ρ x = .slice a n c:=by
  simp only[ev]at d;cases g : r y<;>simp only[g]at d<;>try(simp at d;done)
  .simp at d;obtain⟨rfl,rfl⟩:=d
   exact⟨0,rfl,rfl,El (x:=.ae) (by rw[<-g];exact h) (.inl ⟨rfl,rfl⟩)⟩
  .simp at d;obtain⟨rfl,rfl⟩:=d
   rw[g]at h;unfold VR at h;obtain⟨G,h⟩:=h;exact⟨0,rfl,rfl,G,0,h⟩
  .rename_i s l
   simp at d;obtain⟨rfl,rfl⟩:=d;exact⟨l.length,rfl,rfl,El (x:=.au s l) (by rw[<-g];exact h) (.inr (.inl ⟨s,l,rfl,rfl⟩))⟩
  .rename_i b u off n
   simp at d;obtain⟨rfl,rfl⟩:=d;exact⟨n,rfl,rfl,El (x:=.sl b u off n) (by rw[<-g];exact h) (.inr (.inr ⟨b,u,off,rfl⟩))⟩
 obtain⟨n,rfl,rfl,a,c,H⟩:=key;have q : ca.args = #[x]:=by rw[<-Array.toList_inj];simpa using D
 have i : ca.argTypes = #[t]:=by rw[<-Array.toList_inj];simpa using j
 refine⟨⟨.int .i64 n,?_,by unfold VR;rfl⟩,rfl⟩
 simp only[execOp,A,resolve,B,q, i, aS,bh,aU,invoke,builtin,Builtin.len_];simp[H,aS,F,goInt]
theorem CB{y:Operand}{m:Bool}(l:o.op = .call ca) (n:ca.callee = .builtin (if m then .max else .min)) (q:ca.args.toList=[x,y])
  (e:VR C w.heap (r x') (ρ x)) (g:VR C w.heap (r y') (ρ y)) (d:ev ce σ nl ps r (.mx m x' y')=some (z,p)):Plain P ρ o w C w.heap z/\p=none:=by
 simp only[ev]at d;cases h : r x' <;>simp only[h]at d<;>try(simp at d;done)
 cases i : r y' <;>simp only[i]at d<;>try(simp at d;done)
 rename_i a b;rw[h]at e;rw[i]at g;have e:=e.ba;have g:=g.ba;simp at d;obtain⟨rfl,rfl⟩:=d;have j : ca.args = #[x,y]:=by rw[<-Array.toList_inj];simpa using q
 refine⟨⟨.int .i64 (if m then(if a<b then b else a)else(if b<a then b else a)),?_,by unfold VR;cases m<;>rfl⟩,rfl⟩
 cases m
 .simp only[execOp,l,resolve,n,j, aS,bh,aU,invoke,builtin,Builtin.min_]
  simp[e,g,Builtin.min2]
 .simp only[execOp,l,resolve,n,j, aS,bh,aU,invoke,builtin,Builtin.max_]
  simp[e,g,Builtin.max2]
theorem Ae{H:Array Obj}{x:AV}(h:VR C H (.aV x) v) :
  aI x=true/\∃ak off c el a y,v = .pointer (some ⟨ak,off,none⟩)/\C.I ak/\H[ak]? = some (.cells c el a)/\VR C H x y/\∀j,j<y.cells.size->c[off+j]? = y.cells[j]?:=by
 unfold VR at h;exact h
variable{off:Nat}{k:Option Nat}
theorem XX{cs:List AV}{x:AV}(h:ax cs=true) (d:part cs off k=some x):aI x=true:=by
 have b:∀y∈cs,aI y=true:=by
  clear d
  induction cs with
  |nil=>simp
  |cons a r g=>
   simp only[ax,aA]at h;intro y e;rcases b5.1 e with rfl|e
   .exact h.1
   .exact g h.2 y e
 cases k with
 |none=>simp only[part,jM]at d;exact b x (qO d)
 |some n=>
  simp only[part]at d;split at d<;>simp at d
  subst d;simp only[aI];exact zC λy e=>b y (List.mem_of_mem_drop (List.mem_of_mem_take e))
theorem XY{x:AV}(h:aI x=true):ax x.cells=true:=by
 cases x<;>simp_all [AV.cells,aI,ax]
theorem Me{H:Array Obj}{x y:AV}{ak:Nat}{c:Array Value}{el:TypeId}{e:Nat×Nat}{val:Value}{d:Nat}(b:aI x=true) (h:C.I ak) (i:H[ak]? = some (.cells c el e))
  (g:VR C H x val) (l:∀j,j<val.cells.size->c[off+j]? = val.cells[j]?) (a:part x.cells d k=some y) :
  VR C H (.aV y) (.pointer (some ⟨ak,off+d,none⟩)):=by
 obtain⟨v,m,r,o,_⟩:=XR (xo b) g a;have p:=VR.size (xo b) g;have hle:d+aE k<=val.cells.size:=by
  rw[p];cases k with
  |none=>
   simp only[part,jM]at a;have:=(dq.1 a).1;simp[aE];omega
  |some n=>
   simp only[part]at a;split at a<;>simp at a
   simp[aE];omega
 unfold VR;refine⟨XX (XY b) a,ak,off+d,c,el,e,v,rfl,h,i,m,λj q =>?_⟩;rw[<-o j (by omega),<-l (d+j) (by omega),Nat.add_assoc]
variable{s:TypeId}{f:Nat}
theorem V8{fs:Array Field}{l:Field}(A:o.op = .fieldAddr s x f)
  (F:P.underlying s=some (.struct fs)) (G:fs[f]? = some l) (i:l.offset=off) (D:bu P l.type k=true) (E:cm P l.type 0=false)
  (j:VR C w.heap (r y) (ρ x)) (a:ev ce σ nl ps r (.dB y off k)=some (z,p)):Plain P ρ o w C w.heap z/\p=none:=by
 have m:aE k ≠ 0:=by
  intro h;have:=mI D;rw[h]at this;rw[this]at E;simp at E
 have d:∀ak b,ρ x = .pointer (some ⟨ak,b,none⟩)->(Instr.fieldAt s (ρ x) f).run P w = .ok (.pointer (some ⟨ak,b+off,none⟩)) w:=λak b e=>by
  rw[e];simp only[Instr.fieldAt,aS,run_underlying F,aU,G,Instr.sureAddr,bh,fieldPlace,kr (mI D),aa m,i,p6]
 simp only[ev]at a;cases g : r y<;>simp only[g]at a<;>try(simp at a;done)
 .rename_i q
  rw[g]at j;cases n:part q.cells off k with
  |none=>simp[n]at a
  |some R =>
   simp[n]at a;obtain⟨rfl,rfl⟩:=a;obtain⟨H,ak,b,c,el,S,val,e,I,J,K,L⟩:=Ae j;exact⟨eY (s:=Instr.fieldAt s (ρ x) f) (by simp only[execOp,A]) (d ak b e) (Me H I J K L n),rfl⟩
 .rename_i b u o'
  simp at a;obtain⟨rfl,rfl⟩:=a;rw[g]at j;unfold VR at j;obtain⟨⟨ak,e⟩,M,N⟩:=j;refine⟨eY (s:=Instr.fieldAt s (ρ x) f) (by simp only[execOp,A]) (d ak o' e) ?_,rfl⟩
  unfold VR;refine⟨⟨ak,rfl⟩,M,λB id O Q=>?_⟩;have:=N B id O Q;rw[e]at this;simp at this;rw[this]
variable{i:Nat}
theorem XZ{H:Array Obj}{l:List AV}{n:Bool}(h:VR C H (.au n l) v){x:AV}(b:l[i]? = some x) :
  aI x=true/\∃ak off cap st c el d val,v = .slice (some ⟨ak,off,none⟩) l.length cap/\C.I ak/\H[ak]? = some (.cells c el d)/\VR C H x val/\val.cells.size=st/\∀j,j<st->c[off+i*st+j]? = val.cells[j]?:=by
 unfold VR at h;obtain⟨o,h⟩:=h;have g:aI x=true:=by
  have:∀{l:List AV},ax l=true->∀y∈l,aI y=true:=by
   intro l
   induction l with
   |nil=>simp
   |cons a r p=>
    intro h y m;simp only[ax,aA]at h;rcases b5.1 m with rfl|m
    .exact h.1
    .exact p h.2 y m
  exact this o x (qO b)
 rcases h with⟨rfl,_⟩|⟨ak,off,cap,st,c,el,d,e,_,q,s,u⟩
 .simp at b
 .obtain⟨val,w,z,A⟩:=u.get i x b
  exact⟨g,ak,off,cap,st,c,el,d,val,e,q,s,w,z,A⟩
variable{e:TypeId}{i': Rf}
theorem V9{i:Operand}{st:Nat}(N:o.op = .indexAddr t x i)
  (R:aN P t=some e) (K:cm P e st=true)
  (D:VR C w.heap (r x') (ρ x)) (h:VR C w.heap (r i') (ρ i)) (d:ev ce σ nl ps r (.bd x' i' st)=some (z,p)):Plain P ρ o w C w.heap z/\p=none:=by
 have m:∀ak off len cap (n:Int),ρ x = .slice (some ⟨ak,off,none⟩) len cap->ρ i = .int .i64 n->0<=n->n<len->(Instr.indexAt t (ρ x) (ρ i)).run P w = .ok (.pointer (some ⟨ak,off+n.toNat*st,none⟩)) w:=λak off len cap n A E L S=>by
  rw[A,E];simp only[Instr.indexAt,aS,asIntOf,bh,aU,lY R];simp only[L,S,and_self,dt,aS,kr K,aU,bh,p6]
 simp only[ev]at d;cases q : r x' <;>simp only[q]at d<;>try(simp at d;done)
 .rename_i nn l
  cases g : r i' <;>simp only[g]at d<;>try(simp at d;done)
  rename_i n;rw[g]at h;have h:=h.ba;split at d<;>try(simp at d;done)
  rename_i I;rw[jM]at d;cases J:l[n.toNat]? with
  |none=>simp[J]at d
  |some y=>
   simp[J]at d;obtain⟨M,rfl,rfl⟩:=d;rw[q]at D;obtain⟨F,ak,off,cap,G, c,el,T,val,A,U,V,O,W,X⟩:=XZ D J;have Y:=(dq.1 J).1;have H : G = st:=by rw[<-W,VR.size (xo F) O,M]
   subst H;refine⟨eY (s:=Instr.indexAt t (ρ x) (ρ i)) (by simp only[execOp,N]) (m ak off l.length cap n A h I (by omega)) ?_,rfl⟩
   unfold VR;exact⟨F,ak,off+n.toNat*G, c,el,T,val,rfl,U,V,O,λj Z =>X j (by omega)⟩
 .rename_i b u off len
  cases g : r i' <;>simp only[g]at d<;>try(simp at d;done)
  rename_i n;rw[g]at h;have h:=h.ba;split at d<;>simp at d
  rename_i I;obtain⟨rfl,rfl⟩:=d;rw[q]at D;unfold VR at D;obtain⟨⟨a,cap,A,hc,ha⟩,L,h3⟩:=D;obtain⟨ak,rfl⟩:=ha (by omega)
  refine⟨eY (s:=Instr.indexAt t (ρ x) (ρ i)) (by simp only[execOp,N]) (m ak off len cap n A h I.1 I.2) ?_,rfl⟩
  unfold VR;refine⟨⟨ak,rfl⟩,L,λB id hB hl=>?_⟩;have:=h3 B id hB;simp only[hl]at this;obtain⟨c,el,o', Q, _,E,_⟩:=this;rw[A]at E;simp at E;rw[E.1.1]
theorem Wb(i:o.op = .nilCheck x) (h:VR C w.heap (r y) (ρ x)) (d:ev ce σ nl ps r (.nM y)=some (z,p)):Plain P ρ o w C w.heap z/\p=none:=by
 have key:z=r y/\p=none/\∃a,ρ x = .pointer (some a):=by
  simp only[ev]at d;cases g : r y<;>simp only[g]at d<;>try(simp at d;done)
  .simp at d
   rw[g]at h;obtain⟨_,ak,b,c,el,j,val,e,_⟩:=Ae h;exact⟨d.1.symm,d.2.symm,_,e⟩
  .simp at d
   rw[g]at h;unfold VR at h;obtain⟨⟨ak,e⟩,_⟩:=h;exact⟨d.1.symm,d.2.symm,_,e⟩
 obtain⟨rfl,rfl,a,e⟩:=key;exact⟨⟨ρ x,by simp only[execOp,i,e,bh],h⟩,rfl⟩
theorem We(h:o.op = .extract x i) (d:VR C w.heap (r y) (ρ x)) (a:ev ce σ nl ps r (.ext y i)=some (z,p)):Plain P ρ o w C w.heap z/\p=none:=by
 simp only[ev]at a;cases b : r y<;>simp only[b]at a<;>try(simp at a;done)
 rename_i l;rw[jM]at a;cases g:l[i]? with
 |none=>simp[g]at a
 |some q=>
  simp[g]at a;obtain⟨rfl,rfl⟩:=a;rw[b]at d;unfold VR at d;obtain⟨vs,e,j⟩:=d;obtain⟨v,m,n⟩:=j.get i q g;refine⟨eY (s:=Instr.extract (ρ x) i) (v:=v) (by simp only[execOp,h]) ?_ n,rfl⟩
  rw[e];simp[Instr.extract,m]
theorem Wf{fst a:Array Operand}{ys:List Rf}(d:o.op = .makeFunc (.func f) fst a) (e:fst.isEmpty=true)
  (g:bW C w.heap (ys.map r) (a.toList.map ρ)) (b:ev ce σ nl ps r (.zU f ys)=some (z,p)):Plain P ρ o w C w.heap z/\p=none:=by
 simp[ev]at b;obtain⟨rfl,rfl⟩:=b;have:fst = #[]:=by simpa using e
 refine⟨eY (s:=Instr.makeFunc (.func f) (fst.map ρ) (a.map ρ)) (v:=.func (.func f) #[] (a.toList.map ρ).toArray) (by simp only[execOp,d]) ?_ (by unfold VR;exact⟨_,rfl,g⟩),rfl⟩
 subst this;have:Array.map ρ a=(List.map ρ a.toList).toArray:=by rw[<-Array.toList_inj];simp
 simp[Instr.makeFunc,this]
theorem Wg{t:Nat}(e:o.op = .makeInterface t x)
  (g:(match P.underlying t with|some (.interface _)=>false|some _=>true|none=>false)=true) (h:VR C w.heap (r y) (ρ x)) (a:ev ce σ nl ps r (.JQ t y)=some (z,p)):Plain P ρ o w C w.heap z/\p=none:=by
 simp[ev]at a;obtain⟨rfl,rfl⟩:=a;refine⟨eY (s:=Instr.makeInterface t (ρ x)) (v:=.iface t (ρ x)) (by simp only[execOp,e]) ?_ (by unfold VR;exact⟨_,rfl,h⟩),rfl⟩
 cases b:P.underlying t with
 |none=>simp[b]at g
 |some d=>
  simp only[Instr.makeInterface,aS,run_underlying b,aU];cases d<;>simp_all
theorem Wh{d:TypeId}(m:o.op = .convert s d x)
  (l:(match P.underlying s,P.underlying d with|some (.int _),some (.int .i64)=>true|_,_=>false)=true) (g:VR C w.heap (r y) (ρ x)) (a:ev ce σ nl ps r (.CC y)=some (z,p)):Plain P ρ o w C w.heap z/\p=none:=by
 have q:∃k,P.underlying s=some (.int k)/\P.underlying d=some (.int .i64):=by
  split at l
  .rename_i k u A;exact⟨k,u,A⟩
  .simp at l
 obtain⟨k,i,j⟩:=q;have main:∀K n,ρ x = .int K n->ka n=true->z = .int n->p=none->Plain P ρ o w C w.heap z/\p=none:=by
  intro K n e h B D;subst B D;refine⟨eY (s:=Go.convert s d (ρ x)) (v:=.int .i64 n) (by simp only[execOp,m]) ?_ (by unfold VR;rfl),rfl⟩
  rw[e];simp only[Go.convert,aS,run_underlying i,run_underlying j,aU,Conv.intToInt,bh,u6 h]
 simp only[ev]at a;cases b : r y<;>simp only[b]at a<;>try(simp at a;done)
 .rename_i n
  rw[b]at g;split at a<;>simp at a
  rename_i h;exact main _ n g.ba h a.1.symm a.2.symm
 .rename_i E n
  rw[b]at g;split at a<;>simp at a
  rename_i h;unfold VR at g;obtain⟨K,_,e⟩:=g;exact main K n e h a.1.symm a.2.symm
theorem Wa{i:Operand}(G:o.op = .indexAddr t x i)
  (H:P.underlying t=some (.array n e)) (I:bu P e k=true)
  (y:VR C w.heap (r x') (ρ x)) (g:VR C w.heap (r i') (ρ i)) (a:ev ce σ nl ps r (.fg x' i' n k)=some (z,p)):Plain P ρ o w C w.heap z/\p=none:=by
 have h:∀ak off (j:Int),ρ x = .pointer (some ⟨ak,off,none⟩)->ρ i = .int .i64 j->0<=j->j<n->(Instr.indexAt t (ρ x) (ρ i)).run P w = .ok (.pointer (some ⟨ak,off+j.toNat*aE k,none⟩)) w:=λak off j m J D K=>by
  rw[m,J];simp only[Instr.indexAt,aS,asIntOf,bh,aU,run_underlying H,Instr.sureAddr];simp only[D,K,and_self,dt,aS,kr (mI I),aU,bh,p6]
 simp only[ev]at a;cases l : r x' <;>simp only[l]at a<;>try(simp at a;done)
 .rename_i q
  cases d : r i' <;>simp only[d]at a<;>try(simp at a;done)
  rename_i j;rw[d]at g;have g:=g.ba;split at a<;>try(simp at a;done)
  rename_i A;cases E:part q.cells (j.toNat*aE k) k with
  |none=>simp[E]at a
  |some T =>
   simp[E]at a;obtain⟨rfl,rfl⟩:=a;rw[l]at y;obtain⟨F,ak,b,c,el,U,val,m,L,M,N,O⟩:=Ae y;exact⟨eY (s:=Instr.indexAt t (ρ x) (ρ i)) (by simp only[execOp,G]) (h ak b j m g A.1 A.2) (Me F L M N O E),rfl⟩
 .rename_i b u o'
  cases d : r i' <;>simp only[d]at a<;>try(simp at a;done)
  rename_i j;rw[d]at g;have g:=g.ba;split at a<;>simp at a
  rename_i A;obtain⟨rfl,rfl⟩:=a;rw[l]at y;unfold VR at y;obtain⟨⟨ak,m⟩,D,Q⟩:=y;refine⟨eY (s:=Instr.indexAt t (ρ x) (ρ i)) (by simp only[execOp,G]) (h ak o' j m g A.1 A.2) ?_,rfl⟩
  unfold VR;refine⟨⟨ak,rfl⟩,D,λB id R S=>?_⟩;have:=Q B id R S;rw[m]at this;simp at this;rw[this]
theorem KZ(D:o.op = .load t x) (E:bu P t k=true)
  (A:VR C w.heap (r y) (ρ x)) (a:ev ce σ nl ps r (.cK y k)=some (z,p)):Plain P ρ o w C w.heap z/\p=none:=by
 simp only[ev]at a;cases d : r y<;>simp only[d]at a<;>try(simp at a;done)
 rename_i q;rw[d]at A;obtain⟨F,ak,b,c,el,K,val,e,L,G,g,H⟩:=Ae A;have B:=xo F;have M:=VR.size B g;have key:z=q/\p=none/\q.cells.length=aE k/\(k=none->val.cells = #[val])/\(k ≠ none->∃vs,val = .agg vs):=by
  cases k with
  |none=>
   have i:∀l,q ≠ .agg l:=by intro l e;subst e;simp at a
   refine⟨?_,?_,?_,λ_=>xk (VR.leaf i B g),λh=>absurd rfl h⟩
   .cases q<;>first|exact absurd rfl (i _)|(simp at a;exact a.1.symm)
   .cases q<;>first|exact absurd rfl (i _)|(simp at a;exact a.2.symm)
   .cases q<;>first|exact absurd rfl (i _)|rfl
  |some n=>
   cases q<;>simp at a;obtain⟨I,rfl,rfl⟩:=a;refine⟨rfl,rfl,I,λh=>by simp at h,λ_=>?_⟩
   unfold VR at g;obtain⟨vs,e,_⟩:=g;exact⟨_,e⟩
 obtain⟨rfl,rfl,N,m,u⟩:=key;refine⟨eY (s:=Instr.loadAt t (ρ x)) (v:=val) (by simp only[execOp,D]) ?_ g,rfl⟩
 rw[e];simp only[Instr.loadAt,Instr.sureAddr,aS,bh,aU];exact L7 E G (by omega) (λj J =>H j (by omega)) m u
theorem wY(n:o.op = .load t x) (A:bu P t k=true) (F:Good C w) (l:∀b u B,C.lim b u->upto σ b u=some B->∃id,C.own b u=some (B,id))
  (i:VR C w.heap (r y) (ρ x)) (a:ev ce σ nl ps r (.ld y k)=some (z,p)):Plain P ρ o w C w.heap z/\p=none:=by
 by_cases D:∃q,r y = .aV q
 .obtain⟨q,G⟩:=D
  refine KZ n A i (ce:=ce) (σ:=σ) (nl:=nl) (ps:=ps) ?_;rw[<-a];simp only[ev,G]
 .simp only[ev]at a
  cases d : r y<;>simp only[d]at a<;>try(simp at a;done)
  .exact absurd ⟨_,d⟩ D
  .rename_i b u o'
   cases m:upto σ b u with
   |none=>simp[m]at a
   |some B=>
    simp only[m]at a;split at a<;>try(simp at a;done)
    rename_i g;cases h:part B.cells o' k with
    |none=>simp[h]at a
    |some q=>
     simp[h]at a;obtain⟨rfl,rfl⟩:=a;rw[d]at i;obtain⟨id,j⟩:=l b u B (XN i) m;unfold VR at i;obtain⟨⟨ak,e⟩,_,H⟩:=i;have E:B.st = .live:=by revert g;cases B.st<;>simp[eM.isLive]
     have I:=H B id j E;obtain⟨_,c,el,J,hle,K⟩:=F.live b u B id j E;obtain⟨v,L,M,N,O,Q⟩:=Ac K h;refine⟨eY (s:=Instr.loadAt t (ρ x)) (v:=v) (by simp only[execOp,n]) ?_ L,rfl⟩
     rw[I];simp only[Instr.loadAt,Instr.sureAddr,aS,bh,aU];exact L7 A J M N O Q
theorem qU (cs new:List AV) (off:Nat) (h:off+new.length<=cs.length):(putAt cs off new).length=cs.length/\
  ∀j,(putAt cs off new)[j]? = if off<=j/\j<off+new.length then new[j-off]? else cs[j]?:=by
 unfold putAt;refine⟨by simp;omega,λj=>?_⟩
 by_cases a:j<off
 .rw[aa (by omega),iw,eC (by simp;omega),List.getElem?_take_of_lt a]
 .by_cases b:j<off+new.length
  .rw[ab ⟨by omega,b⟩,eC (by simp;omega),eK (by simp;omega)]
   simp[Nat.min_eq_left (by omega:off<=cs.length)]
  .rw[aa (by omega),eK (by simp;omega)]
   simp[Nat.min_eq_left (by omega:off<=cs.length)]
   congr 1;omega
theorem bW.of{H:Array Obj}:∀{l:List AV}{vs:List Value},l.length=vs.length->(∀(i:Nat) x v,l[i]? = some x->vs[i]? = some v->VR C H x v)->bW C H l vs
 | [],[],_,_=>rfl
 | [],_::_,h,_=>by simp at h
 |_::_,[],h,_=>by simp at h
 |x::l,v::vs,h,U=>⟨v,vs,rfl,U 0 x v rfl rfl,bW.of (by simpa using h) λi y u h1 h2=>U (i+1) y u (by simpa using h1) (by simpa using h2)⟩
theorem Ds (off:Nat):∀(l:List Value) (k:Nat) (cs:Array Value) (i:Nat),off+k+l.length<=cs.size->
  ((l.zipIdx k).foldl (λcs (c,j)=>cs.setIfInBounds (off+j) c) cs).size=cs.size/\
  ((l.zipIdx k).foldl (λcs (c,j)=>cs.setIfInBounds (off+j) c) cs)[i]? = if off+k<=i/\i<off+k+l.length then l[i-(off+k)]? else cs[i]?
 | [],k,cs,i,_=>by simp;omega
 |c::l,k,cs,i,h=>by
  simp only[List.zipIdx_cons,l0];simp only[bX]at h;obtain⟨b,d⟩:=Ds off l (k+1) (cs.setIfInBounds (off+k) c) i (by simp;omega)
  refine⟨by rw[b];simp,?_⟩
  rw[d];simp only[bX]
  by_cases e:i=off+k
  .subst e
   rw[aa (by omega),ab (by omega)]
   simp[Array.getElem?_setIfInBounds];omega
  .by_cases a:off+(k+1)<=i/\i<off+(k+1)+l.length
   .rw[ab a,ab (by omega)]
    have:i-(off+k)=(i-(off+(k+1)))+1:=by omega
    rw[this];simp
   .rw[aa a,aa (by omega)]
    rw[Array.getElem?_setIfInBounds];rw[aa (by omega)]
end
end Ab
namespace Ab
open Go
variable{P:Program}
section
variable{ρ:Operand->Value}{r:Rf->AV}{w:World}{C:Ctx}{R:Operand->Rf->Bool}{ce:CE}{σ:List ah}{nl:Nat}{ps:List cD}
variable{x:AV}
theorem zE(h:bg x=true):il x:=by
 refine⟨?_,λl=>?_⟩<;>(intro e;subst e;simp[bg]at h)
def gz (C:Ctx) (H:Array Obj) (cs:List AV) (c:Array Value):Prop:=
 cs.length=c.size/\∀(i:Nat) x v,cs[i]? = some x->c[i]? = some v->VR C H x v/\v.oneCell' = true
variable{v:Value}
theorem gz.put{H:Array Obj}{cs:List AV}{c:Array Value}{off:Nat}(h:gz C H cs c) (hu:il x) (hv:VR C H x v) (hb:off+x.cells.length<=cs.length) :
  gz C H (putAt cs off x.cells) ((v.cells.zipIdx.foldl (λcs (c,j)=>cs.setIfInBounds (off+j) c) c)):=by
 obtain⟨h1,h2⟩:=qU cs x.cells off hb;obtain⟨g1,g2⟩:=VR.cells hu hv;have hs:=VR.size hu hv;have hf:∀i,(v.cells.zipIdx.foldl (λcs (c,j)=>cs.setIfInBounds (off+j) c) c).size=c.size/\(v.cells.zipIdx.foldl (λcs (c,j)=>cs.setIfInBounds (off+j) c) c)[i]? = if off<=i/\i<off+v.cells.size then v.cells[i-off]? else c[i]?:=λi=>by
  have:=Ds off v.cells.toList 0 c i (by rw[<-h.1];simp;omega)
  rw[<-Array.foldl_toList];simp only[Array.toList_zipIdx];simpa using this
 refine⟨by rw[h1,(hf 0).1];exact h.1,λi y u hi U =>?_⟩
 rw[h2]at hi;rw[(hf i).2]at U
 by_cases V:off<=i/\i<off+x.cells.length
 .rw[ab V]at hi
  rw[ab (by omega)]at U
  obtain⟨u', k1,k2⟩:=g1.get (i-off) y hi;rw[iu]at k1;rw[k1]at U;simp at U; subst U;exact⟨k2,g2 _ (by rw[sI];exact Array.mem_of_getElem? k1)⟩
 .rw[aa V]at hi
  rw[aa (by omega)]at U
  exact h.2 i y u hi U
theorem Em{H:Array Obj}{place:Nat->Option (Nat×Nat)}(w:∀x y,R x y=true->VR C H (r y) (ρ x)):∀(xs:List (Nat×Operand)) (ys:List (Nat×Nat×Rf)) (cs d : List AV) (c:Array Value),
  gi R place xs ys=true->gz C H cs c->gx cs (ys.map λp=>(p.1,p.2.1,r p.2.2))=some d ->
  ∃c', Instr.fill place c (xs.map λ(i,x)=>(i,ρ x))=some c' /\gz C H d c'
 | [],[],cs,d, c,_,m,h=>by simp[gx]at h;subst h;exact⟨c,rfl,m⟩
 |(i,x)::xs,(o,n,y)::ys,cs,d, c,l,m,h=>by
  simp only[gi,aA]at l;obtain⟨⟨g,q⟩,s⟩:=l;have u:place i=some (o,n):=by
   split at g
   .rename_i a b e;simp at g;rw[e,g.1,g.2]
   .simp at g
  simp only[cJ,gx]at h;split at h<;>try(simp at h;done)
  rename_i j;simp only[aA,cF,dY]at j;obtain⟨⟨B,F⟩,D⟩:=j;have z:=zE D;have A:=w _ _ q;have E:=VR.size z A;simp only[cJ,Instr.fill,u];rw[aa (by rw[E,B,<-m.1];simp;omega)]
  exact Em w xs ys _ d _ s (m.put z A (by omega)) h
 | [],_::_,_,_,_,l,_,_=>by simp[gi]at l
 |(_,_)::_,[],_,_,_,l,_,_=>by simp[gi]at l
variable{t:TypeId}
theorem zG{z:List AV}(h:gW P t z=true) (w:World):∃v,(zeroValue t).run P w = .ok v w/\bW C w.heap z v.cells.toList/\(∀y,y∈v.cells.toList->y.oneCell' = true):=by
 unfold gW at h;cases a:P.info? t with
 |none=>simp[a]at h
 |some i=>
  simp only[a]at h;cases b:i.zero with
  |none=>simp[b]at h
  |some v=>
   simp only[b]at h;refine⟨v,?_,L8 h,?_⟩
   .simp only[zeroValue,aS,run_typeInfo w a,aU,b,bh]
   .have:∀{vs:List Value} {xs:List AV},dZ vs xs=true->∀y∈vs,y.oneCell' = true:=by
     intro vs
     induction vs with
     |nil=>simp
     |cons v vs e=>
      intro xs h y d;cases xs with
      |nil=>simp[dZ]at h
      |cons x xs=>
       simp only[dZ,aA]at h;rcases b5.1 d with rfl|d
       .have:=h.1
        unfold jZ at this;split at this<;>first|rfl|(simp at this;done)
       .exact e h.2 y d
    exact this h
theorem Mf{w:World}:∀{fs:List Field}{l:List (Nat×Nat)},placesOf P fs=some l->(fs.mapM λf=>do pure (f.offset,<-Go.sizeOf f.type):Sem (List (Nat×Nat))).run P w = .ok l w
 | [],l,h=>by simp[placesOf]at h;subst h;simp
 |f::r,l,h=>by
  simp only[placesOf]at h;cases a:P.info? f.type with
  |none=>simp[a]at h
  |some i=>
   cases b:placesOf P r with
   |none=>simp[a,b]at h
   |some l' =>
    simp[a,b]at h;subst h;have d:(Go.sizeOf f.type).run P w = .ok i.size w:=kr (by simp[cm,a]) w
    simp only[List.mapM_cons,aS,d,aU,bh,Mf b]
variable{o:Oper}{z:AV}{p:Option cD}
theorem Wc{xs:Array (Nat×Operand)}{A:List AV}{B:List (Nat×Nat×Rf)}(O:o.op = .build t xs) (T:gW P t A=true)
  (b:(match P.underlying t with
  |some (.struct fs)=>(match placesOf P fs.toList with|some l=>gi R (λi=>l[i]?) xs.toList B|none=>false)
  |some (.array _ e)=>(match P.info? e with|some i=>gi R (λj=>some (j*i.size,i.size)) xs.toList B|none=>false)
  |_=>false)=true)
  (Q:∀x y,R x y=true->VR C w.heap (r y) (ρ x)) (E:ev ce σ nl ps r (.ie A B)=some (z,p)):Plain P ρ o w C w.heap z/\p=none:=by
 simp only[ev]at E;cases F:gx A (B.map λp=>(p.1,p.2.1,r p.2.2))with
 |none=>simp[F]at E
 |some l=>
  simp[F]at E;obtain⟨rfl,rfl⟩:=E;obtain⟨v,G,H,U⟩:=zG (C:=C) T w;have D:gz C w.heap A v.cells:=⟨by have:=bW.length H;simpa using this.symm,λi x u g h=>by
   obtain⟨u', J,V⟩:=H.get i x g;rw[iu,h]at J;simp at J;subst J;exact⟨V,U _ (by rw[sI];exact Array.mem_of_getElem? h)⟩⟩
  have fin:∀c' : Array Value,gz C w.heap l c' ->VR C w.heap (.agg l) (.agg c'):=λc' I=>by
   unfold VR;refine⟨c'.toList,by simp,bW.of (by simp[I.1]) (λi x u G H=>(I.2 i x u G (by simpa using H)).1),λy W=>?_⟩
   obtain⟨i,g⟩:=List.getElem?_of_mem W;have K:i<l.length:=by
    rw[I.1];have:=(dq.1 g).1;simpa using this
   exact(I.2 i l[i] y (by simp[K]) (by simpa using g)).2
  have S:(xs.map λ(i,x)=>(i,ρ x)).toList=xs.toList.map λ(i,x)=>(i,ρ x):=by simp
  cases h:P.underlying t with
  |none=>simp[h]at b
  |some d=>
   cases d<;>simp only[h]at b<;>try(simp at b;done)
   .rename_i n e
    cases g:P.info? e with
    |none=>simp[g]at b
    |some i=>
     simp only[g]at b;obtain⟨c', L,M⟩:=Em Q xs.toList B A l v.cells b D F;refine⟨eY (s:=Instr.build t (xs.map λ(i,x)=>(i,ρ x))) (v:=.agg c') (by simp only[execOp,O]) ?_ (fin c' M),rfl⟩
     have X:(Go.sizeOf e).run P w = .ok i.size w:=kr (by simp[cm,g]) w
     simp only[Instr.build,aS,G,run_underlying h,aU,X,S,L,bh]
   .rename_i fs
    cases q:placesOf P fs.toList with
    |none=>simp[q]at b
    |some pl=>
     simp only[q]at b;obtain⟨c', L,M⟩:=Em Q xs.toList B A l v.cells b D F;refine⟨eY (s:=Instr.build t (xs.map λ(i,x)=>(i,ρ x))) (v:=.agg c') (by simp only[execOp,O]) ?_ (fin c' M),rfl⟩
     have N:(fs.mapM λf=>do pure (f.offset,<-Go.sizeOf f.type):Sem (Array (Nat×Nat))).run P w = .ok pl.toArray w:=by
      rw[Array.mapM_eq_mapM_toList];have Y:=Mf (w:=w) q;have N:∀m:Sem (List (Nat×Nat)),(List.toArray <$> m).run P w=(m >>= λa=>pure a.toArray).run P w:=λ_=>rfl;rw[N,aS,Y];simp
     simp only[Instr.build,aS,G,run_underlying h,aU,N,S];have:(λi:Nat=>pl.toArray[i]?)=λi:Nat=>pl[i]?:=by funext i;simp
     simp only[this,L,bh]
variable{e:TypeId}{st:Nat}
theorem En{b d:Option Value}(n:aN P t=some e) (g:cm P e st=true){a:Option Addr}{len cap l h:Nat}(o:v = .slice a len cap)
  (p:b=none/\l=0\/b=some (.int .i64 l)) (q:d=none/\h=len\/d=some (.int .i64 h)) (r:l<=h) (i:h<=len) (j:len<=cap) :
  (Instr.sliceAt t v b d none).run P w = .ok (.slice (if cap=l then a else a.map (·.add (l*st))) (h-l) (cap-l)) w:=by
 subst o;have m:=lY n w;have s:=kr g w;have u:(Instr.sliceBounds true len cap b d none).run P w = .ok (l,h,cap) w:=by
  have x:((0:Int)<=h/\(h:Int)<=cap):=by omega
  have y:((0:Int)<=l/\(l:Int)<=h):=by omega
  rcases p with⟨rfl,rfl⟩|rfl<;>rcases q with⟨rfl,rfl⟩|rfl <;>
   simp[Instr.sliceBounds,Instr.sliceBound,asIntOf,x,y,r,i,j,Nat.le_trans i j,aS,aU]
 have hd:(Instr.sliceAt t (.slice a len cap) b d none).run P w=(Instr.slice t (.slice a len cap) b d none).run P w:=by
  simp only[Instr.sliceAt,aS,m,aU]
 rw[hd];simp only[Instr.slice,aS,m,aU,u,s,bh]
theorem X0{l:List AV}{a b:Nat}(h:ax l=true):ax ((l.drop a).take b)=true:=by
 have:∀{l:List AV},ax l=true->∀y∈l,aI y=true:=by
  intro l
  induction l with
  |nil=>simp
  |cons a r e=>
   intro h y d;simp only[ax,aA]at h;rcases b5.1 d with rfl|d
   .exact h.1
   .exact e h.2 y d
 exact zC λy d=>this h y (List.mem_of_mem_drop (List.mem_of_mem_take d))
variable{lo:Option Operand}{xp: Option Rf}
theorem X1{n:Int}(h:mR R lo xp = true) (d:∀x y,R x y=true->VR C w.heap (r y) (ρ x))
  (a:sW r xp = some n):lo.map ρ=none/\n=0\/lo.map ρ=some (.int .i64 n):=by
 cases lo with
 |none=>
  cases xp with
  |none=>simp[sW,sX]at a;exact .inl ⟨rfl,a.symm⟩
  |some y=>simp[mR]at h
 |some q=>
  cases xp with
  |none=>simp[mR]at h
  |some y=>
   simp only[mR]at h;have:=d _ _ h;right;simp only[sW,sX]at a;cases b:r y<;>simp[b]at a
   subst a;rw[b]at this;simp[this.ba]
theorem X2{n:Option Int}(h:mR R lo xp = true) (d:∀x y,R x y=true->VR C w.heap (r y) (ρ x))
  (a:sX r xp = some n):(lo.map ρ=none/\n=none)\/∃m,n=some m/\lo.map ρ=some (.int .i64 m):=by
 cases lo with
 |none=>
  cases xp with
  |none=>simp[sW,sX]at a;exact .inl ⟨rfl,a.symm⟩
  |some y=>simp[mR]at h
 |some q=>
  cases xp with
  |none=>simp[mR]at h
  |some y=>
   simp only[mR]at h;have:=d _ _ h;right;simp only[sW,sX]at a;cases b:r y<;>simp[b]at a
   subst a;rw[b]at this;exact⟨_,rfl,by simp[this.ba]⟩
theorem K5{x:Operand}{K:Option Operand}{y:Rf}{g: Option Rf}(ho:o.op = .slice t x lo K none)
  (ht:aN P t=some e) (N:cm P e st=true) (jg:∀b u B,C.lim b u->upto σ b u=some B->∃id,C.own b u=some (B,id)) (H:VR C w.heap (r y) (ρ x)) (Eo:mR R lo xp = true) (hhi:mR R K g = true)
  (hR:∀x y,R x y=true->VR C w.heap (r y) (ρ x)) (n:ev ce σ nl ps r (.pI y xp g st)=some (z,p)):Plain P ρ o w C w.heap z/\p=none:=by
 simp only[ev]at n;have fin:∀z v,(Instr.sliceAt t (ρ x) (lo.map ρ) (K.map ρ) none).run P w = .ok v w->VR C w.heap z v->Plain P ρ o w C w.heap z:=λz v d h2=>
  eY (s:=Instr.sliceAt t (ρ x) (lo.map ρ) (K.map ρ) ((none:Option Operand).map ρ)) (v:=v) (by simp only[execOp,ho]) d h2
 cases V:sW r xp with
 |none=>simp[V]at n
 |some a=>
  cases hb:sX r g with
  |none=>simp[V,hb]at n
  |some b=>
   simp only[V,hb]at n;have el:=X1 Eo hR V;have eh:=X2 hhi hR hb;cases O : r y<;>simp only[O]at n<;>try(simp at n;done)
   .rename_i nn l
    split at n<;>simp at n;rename_i L;obtain⟨rfl,rfl⟩:=n;rw[O]at H;refine⟨?_,rfl⟩
    -- bounds as natural numbers
    obtain⟨A,rfl⟩:=gd L.1.1;obtain⟨B,I⟩:=gd (by omega:0<=b.getD l.length)
    rw[I]at L ⊢;have W:K.map ρ=none/\B=l.length\/K.map ρ=some (.int .i64 B):=by
     rcases eh with⟨d,rfl⟩|⟨m,rfl,d⟩
     .left;simp at I;exact⟨d,by omega⟩
     .right;simp at I;rw[d,I]
    have X:lo.map ρ=none/\A=0\/lo.map ρ=some (.int .i64 A):=by
     rcases el with⟨d,h2⟩|d
     .exact .inl ⟨d,by omega⟩
     .exact .inr d
    simp only[je];have hx0:=H;unfold VR at H;obtain⟨hn,H⟩:=H;have hlen:((l.drop A).take (B-A)).length=B-A:=by simp;omega
    rcases H with⟨rfl,a0,Q,Af⟩|⟨ak,off,cap,S, c,E, fz,Q,F,hI,hH,hl⟩
    .simp at L
     obtain rfl:B=0:=by omega
     obtain rfl:A=0:=by omega
     have:=En (w:=w) ht N Q X W (by omega) (by simp) (aT 0)
     refine fin _ _ this ?_;unfold VR;exact⟨rfl,.inl ⟨by simp,a0,by simp,by simp⟩⟩
    .have:=En (w:=w) ht N Q X W (by omega) (by omega) F
     refine fin _ _ this ?_;unfold VR;refine⟨X0 hn,.inr ?_⟩
     by_cases D:cap=A
     .refine⟨ak,off,cap-A,S, c,E, fz,by rw[ab D,hlen],by rw[hlen];omega,hI,hH,?_⟩
      have:(l.drop A).take (B-A)=[]:=by rw[show B-A=0 by omega];simp
      rw[this];trivial
     .refine⟨ak,off+A*st,cap-A,S, c,E, fz,by rw[aa D,hlen];simp[p6],by rw[hlen];omega,hI,hH,?_⟩
      refine jc.of λi u g =>?_;have M : l[A+i]? = some u:=by
       have h0:=(dq.1 g).1;rw[List.getElem?_take_of_lt (by omega),kz]at g
       exact g
      obtain⟨v,Y,T,g3⟩:=hl.get (A+i) u M;have U : S = st:=by
       have hf:=L.2;cases l with
       |nil=>simp at M
       |cons x0 r0=>
        simp only[fR,cF]at hf;obtain⟨v0,k1,k2,_⟩:=hl.get 0 x0 rfl;have:aI x0=true:=by simp only[ax,aA]at hn;exact hn.1
        rw[<-k2,VR.size (xo this) k1,hf]
      subst U;refine⟨v,Y,T,λj hj=>?_⟩;rw[<-g3 j hj,eX]
      congr 1;omega
   .rename_i b' u off len
    cases G : upto σ b' u with
    |none=>simp[G]at n
    |some B0=>
    simp only[G]at n;rw[O]at H;obtain⟨id0,hB0⟩:=jg b' u B0 (zJ H) G;split at n<;>simp at n
    rename_i L;obtain⟨rfl,rfl⟩:=n;refine⟨?_,rfl⟩;obtain⟨A,rfl⟩:=gd L.1.1;obtain⟨B,I⟩:=gd (by omega:0<=b.getD len)
    rw[I]at L ⊢;have W:K.map ρ=none/\B=len\/K.map ρ=some (.int .i64 B):=by
     rcases eh with⟨d,rfl⟩|⟨m,rfl,d⟩
     .left;simp at I;exact⟨d,by omega⟩
     .right;simp at I;rw[d,I]
    have X:lo.map ρ=none/\A=0\/lo.map ρ=some (.int .i64 A):=by
     rcases el with⟨d,h2⟩|d
     .exact .inl ⟨d,by omega⟩
     .exact .inr d
    simp only[je];unfold VR at H;obtain⟨⟨q,cap,Q,F,hq⟩,d,h3⟩:=H;have:=En (w:=w) ht N Q X W (by omega) (by omega) F
    refine fin _ _ this ?_;unfold VR;refine⟨⟨_,_,rfl,by omega,λcL=>?_⟩,d,λB' id J =>?_⟩
    .obtain⟨ak,rfl⟩:=hq (by omega)
     exact⟨ak,by rw[aa (by omega)];simp[p6]⟩
    .have Z:=h3 B' id J
     cases hs:B'.st with
     |dead=>trivial
     |map es=>trivial
     |jq=>
      simp only[hs]at Z;obtain⟨rfl,rfl,e4⟩:=Z;rw[Q]at e4;simp at e4;obtain⟨rfl,rfl⟩:=e4;obtain rfl:B=0:=by omega
      obtain rfl:A=0:=by omega
      simp
     |live=>
      simp only[hs]at Z;obtain⟨c,E, o', anj, Y,T,g3,g4,g5⟩:=Z;rw[Q]at T;simp at T;obtain⟨rfl,rfl⟩:=T;rw[hB0]at J;simp at J;obtain⟨rfl,rfl⟩:=J;have hk:=L.2;rw[hk]at g5 ⊢;have hmul:A*st+(cap-A)*st=cap*st:=by rw[<-Nat.add_mul,Nat.add_sub_cancel' (by omega)]
      by_cases D:cap=A
      .refine⟨c,E, o', 0,Y,by rw[ab D,show cap-A=0 by omega],λh=>absurd h (Nat.lt_irrefl 0),by omega,?_⟩
       subst D;simpa using g5
      .refine⟨c,E, off+A*st,cap-A,Y,?_,λ_=>rfl,by omega,?_⟩
       .rw[aa D]
        obtain rfl:=g3 (by omega)
        simp[p6]
       .omega
end
end Ab
