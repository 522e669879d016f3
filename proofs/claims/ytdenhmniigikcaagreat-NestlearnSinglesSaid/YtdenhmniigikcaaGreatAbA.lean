/- What an abstract value stands for in a world of the model, and that it goes on to do so. What an owned value reads as, once nobody writes it any more. The check that a line of the small language is an operation of the program. What the model's operations do, in the form that the soundness of the small language wants. The operations that yield a value and turn nothing. Building a struct and taking a part of a slice. Condition: none. -/
import Derived.Calls
import Derived.Laws.Sem
import Derived.Test.YtdenhmniigikcaaGreatAbCore
import Derived.Orders
import Derived.ChangeKeysEq
import Derived.Laws.Cells
import Derived.Laws.NewBlocks
import Derived.IntWalk
import Derived.Laws.StructEq
set_option linter.all false
namespace Ab
open Go
def aW:type_of% @Sem.run_bind:=@Sem.run_bind
def aZ:type_of% @Result.andThen_ok:=@Result.andThen_ok
def bw:type_of% @Sem.run_pure:=@Sem.run_pure
def lC:type_of% @Obj.cells.injEq:=@Obj.cells.injEq
def wA:type_of% @Go.MapKept.run_getObj_map:=@Go.MapKept.run_getObj_map
def kh:Nat->Option IntKind
 |0=>some .i8|1=>some .i16|2=>some .i32|4=>some .u8|5=>some .u16|6=>some .u32|7=>some .u64
 |_=>none
structure Ctx where
 I:Nat->Prop
 own:Nat->Nat->Option (al×Nat)
 lim:Nat->Nat->Prop
mutual
def VR (C:Ctx) (H:Array Obj):AV->Value->Prop
 |.int n,v=>v = .int .i64 n
 |.ik k n,v=>∃K,kh k=some K/\v = .int K n
 |.bool b,v=>v = .bool b
 |.str s,v=>v = .string ⟨s.toArray⟩
 |.agg l,v=>∃vs:List Value,v = .agg vs.toArray/\cj C H l vs/\∀y,y∈vs->y.oneCell' = true
 |.bM l,v=>∃vs:List Value,v = .tuple vs.toArray/\cj C H l vs
 |.ag,v=>v = .slice none 0 0
 |.emp,v=>∃a:Option Addr,v = .slice a 0 0
 |.aF e l,v=>aC l=true/\((l=[]/\∃a:Option Addr,v = .slice a 0 0/\(e=true->a.isSome=true))\/
   ∃aq off cap st c el d,v = .slice (some ⟨aq,off,none⟩) l.length cap/\l.length<=cap/\C.I aq/\H[aq]? = some (.cells c el d)/\jS C H c st l off)
 |.arr l,v=>∃aq off st c el d,v = .slice (some ⟨aq,off,none⟩) l.length l.length/\C.I aq/\H[aq]? = some (.cells c el d)/\jS C H c st l off
 |.sl b u off len,v=>(∃a c,v = .slice a len c/\len<=c/\(0<len->∃aq,a=some ⟨aq,off,none⟩))/\C.lim b u/\∀B id,C.own b u=some (B,id)->
   match B.st with
   |.dead=>True
   |.map _=>True
   |.gN=>off=0/\len=0/\v = .slice none 0 0
   |.live=>∃c el o cap,H[id]? = some (.cells c el (0,0))/\v = .slice (some ⟨id,o,none⟩) len cap/\(0<cap->o=off)/\len<=cap/\off+cap*aM B.k=c.size
 |.iy,v=>v = .pointer none
 |.a8 x,v=>aR x=true/\∃aq off c el d y,v = .pointer (some ⟨aq,off,none⟩)/\C.I aq/\H[aq]? = some (.cells c el d)/\VR C H x y/\∀j,j<y.cells.size->c[off+j]? = y.cells[j]?
 |.ptr b u off,v=>(∃aq,v = .pointer (some ⟨aq,off,none⟩))/\C.lim b u/\∀B id,C.own b u=some (B,id)->B.st = .live->v = .pointer (some ⟨id,off,none⟩)
 |.kS,v=>v = .nilFunc
 |.func f l,v=>∃vs:List Value,v = .func (.func f) #[] vs.toArray/\cj C H l vs
 |.hY,v=>v = .nilIface
 |.iface t x,v=>∃y,v = .iface t y/\VR C H x y
 |.cP b,v=>(∃a,v = .map (some a))/\C.lim b 0/\∀B id,C.own b 0=some (B,id)->B.st.je=true->v = .map (some id)
 |.qh,v=>v.oneCell' = true
 |.aO,_=>True
def cj (C:Ctx) (H:Array Obj):List AV->List Value->Prop
 | [],vs=>vs=[]
 |x::r,vs=>∃v s,vs=v::s/\VR C H x v/\cj C H r s
def jS (C:Ctx) (H:Array Obj) (c:Array Value) (st:Nat):List AV->Nat->Prop
 | [],_=>True
 |x::r,off=>(∃v,VR C H x v/\v.cells.size=st/\∀j,j<st->c[off+j]? = v.cells[j]?)/\jS C H c st r (off+st)
end
variable{s t:fb}
def aaH(h:s.shape=t.shape) (k:t = .live):s = .live:=by
 subst k;cases s<;>simp_all [fb.shape]
def aaI(h:s.shape=t.shape):s.je=t.je:=by
 cases s<;>cases t<;>simp_all [fb.shape,fb.je]
structure fZ (C:Ctx) (H:Array Obj) (C' : Ctx) (H' : Array Obj):Prop where
 aF:∀k,C.I k->C'.I k
 same:∀k,C.I k->H'[k]? = H[k]?
 lim:∀b u,C.lim b u->C'.lim b u
 own:∀b u B' id,C.lim b u->C'.own b u=some (B', id)->∃B,C.own b u=some (B,id)/\B.st.shape=B'.st.shape/\B.k=B'.k/\
  ∀c el,H[id]? = some (.cells c el (0,0))->∃c', H'[id]? = some (.cells c' el (0,0))/\c'.size=c.size
def fZ.refl (C:Ctx) (H:Array Obj):fZ C H C H:=
 ⟨λ_ h=>h,λ_ _=>rfl,λ_ _ h=>h,λ_ _ B' _ _ h=>⟨B', h,rfl,rfl,λc _ hc=>⟨c,hc,rfl⟩⟩⟩
def fZ.trans{C C' Ox : Ctx}{H H' H'' : Array Obj}(h:fZ C H C' H') (k:fZ C' H' Ox H''):fZ C H Ox H'' :=by
 refine⟨λx hx=>k.aF x (h.aF x hx),λx hx=>(k.same x (h.aF x hx)).trans (h.same x hx),λb u hl=>k.lim b u (h.lim b u hl),λb u B'' id hl ho=>?_⟩;obtain⟨B', h1,h2,h3,h4⟩:=k.own b u B'' id (h.lim b u hl) ho;obtain⟨B,g1,g2,g3,g4⟩:=h.own b u B' id hl h1;refine⟨B,g1,g2.trans h2,g3.trans h3,λc el hc=>?_⟩;obtain⟨c', e1,e2⟩:=g4 c el hc;obtain⟨c'', f1,f2⟩:=h4 c' el e1;exact⟨c'', f1,f2.trans e2⟩
section
variable{C C' : Ctx}{H H' : Array Obj}
mutual
theorem VR.mono (h:fZ C H C' H'):∀(x:AV) (v:Value),VR C H x v->VR C' H' x v
 |.int _,_,hv=>hv
 |.ik _ _,_,hv=>hv
 |.bool _,_,hv=>hv
 |.str _,_,hv=>hv
 |.agg l,_,⟨vs,e,hl,hc⟩=>⟨vs,e,cj.mono h l vs hl,hc⟩
 |.bM l,_,⟨vs,e,hl⟩=>⟨vs,e,cj.mono h l vs hl⟩
 |.ag,_,hv=>hv
 |.emp,_,hv=>hv
 |.aF nn l,v,hv=>by
  unfold VR at hv ⊢;obtain⟨hn,hv⟩:=hv;refine⟨hn,?_⟩;rcases hv with hv|⟨b,off,cap,st,c,el,fz,e,hc,hI,hH,hl⟩
  .exact .inl hv
  .exact .inr ⟨b,off,cap,st,c,el,fz,e,hc,h.aF b hI,(h.same b hI).trans hH,jS.mono h c st l off hl⟩
 |.arr l,v,hv=>by
  unfold VR at hv ⊢;obtain⟨b,off,st,c,el,fz,e,hI,hH,hl⟩:=hv;exact⟨b,off,st,c,el,fz,e,h.aF b hI,(h.same b hI).trans hH,jS.mono h c st l off hl⟩
 |.sl b u off len,v,hv=>by
  unfold VR at hv ⊢;obtain⟨h0,h1,h3⟩:=hv;refine⟨h0,h.lim b u h1,λB' id ho=>?_⟩;obtain⟨B,g1,g2,g3,g4⟩:=h.own b u B' id h1 ho;have:=h3 B id g1;rw[g3]at this
  revert this g2
  cases hB:B.st<;>cases xY : B'.st<;>intro g2<;>simp only[fb.shape,reduceCtorEq]at g2
  case dead.dead=>exact λ_=>trivial
  case map.map=>exact λ_=>trivial
  case gN.gN=>exact λx=>x
  case live.live=>
   rintro⟨c,el,o,cap,e1,e2,e3,e4,e5⟩;obtain⟨c', f1,f2⟩:=g4 c el e1;exact⟨c', el,o,cap,f1,e2,e3,e4,e5.trans f2.symm⟩
 |.iy,_,hv=>hv
 |.a8 x,v,hv=>by
  unfold VR at hv ⊢;obtain⟨hn,b,off,c,el,fz,y,e,hI,hH,hx,hj⟩:=hv;exact⟨hn,b,off,c,el,fz,y,e,h.aF b hI,(h.same b hI).trans hH,VR.mono h x y hx,hj⟩
 |.ptr b u off,v,hv=>by
  unfold VR at hv ⊢;obtain⟨h0,h1,h3⟩:=hv;refine⟨h0,h.lim b u h1,λB' id ho hl=>?_⟩;obtain⟨B,g1,g2,g3,g4⟩:=h.own b u B' id h1 ho;exact h3 B id g1 (aaH g2 hl)
 |.kS,_,hv=>hv
 |.func _ l,_,⟨vs,e,hl⟩=>⟨vs,e,cj.mono h l vs hl⟩
 |.hY,_,hv=>hv
 |.iface _ x,_,⟨y,e,hx⟩=>⟨y,e,VR.mono h x y hx⟩
 |.cP b,v,hv=>by
  unfold VR at hv ⊢;obtain⟨h0,h1,h3⟩:=hv;refine⟨h0,h.lim b 0 h1,λB' id ho hl=>?_⟩;obtain⟨B,g1,g2,g3,g4⟩:=h.own b 0 B' id h1 ho;exact h3 B id g1 (by rw[aaI g2];exact hl)
 |.qh,_,hv=>hv
 |.aO,_,_=>trivial
theorem cj.mono (h:fZ C H C' H'):∀(l:List AV) (vs:List Value),cj C H l vs->cj C' H' l vs
 | [],_,hv=>hv
 |x::r,_,⟨v,s,e,hx,hr⟩=>⟨v,s,e,VR.mono h x v hx,cj.mono h r s hr⟩
theorem jS.mono (h:fZ C H C' H') (c:Array Value) (st:Nat):∀(l:List AV) (off:Nat),jS C H c st l off->jS C' H' c st l off
 | [],_,_=>trivial
 |x::r,off,⟨⟨v,hx,e,hj⟩,hr⟩=>⟨⟨v,VR.mono h x v hx,e,hj⟩,jS.mono h c st r (off+st) hr⟩
end
structure oU (C:Ctx) (H:Array Obj) (C' : Ctx) (H' : Array Obj):Prop where
 aF:∀k,C.I k->C'.I k
 same:∀k,C.I k->H'[k]? = H[k]?
mutual
theorem VR.free (h:oU C H C' H'):∀(x:AV) (v:Value),aR x=true->VR C H x v->VR C' H' x v
 |.int _,_,_,hv=>hv
 |.ik _ _,_,_,hv=>hv
 |.bool _,_,_,hv=>hv
 |.str _,_,_,hv=>hv
 |.agg l,_,hn,⟨vs,e,hl,hc⟩=>⟨vs,e,cj.free h l vs (by simpa[aR]using hn) hl,hc⟩
 |.bM l,_,hn,_=>by simp[aR]at hn
 |.ag,_,_,hv=>hv
 |.emp,_,_,hv=>hv
 |.aF nn l,v,_,hv=>by
  unfold VR at hv ⊢;obtain⟨hn,hv⟩:=hv;refine⟨hn,?_⟩;rcases hv with hv|⟨b,off,cap,st,c,el,fz,e,hc,hI,hH,hl⟩
  .exact .inl hv
  .exact .inr ⟨b,off,cap,st,c,el,fz,e,hc,h.aF b hI,(h.same b hI).trans hH,jS.free h c st l off hn hl⟩
 |.arr l,_,hn,_=>by simp[aR]at hn
 |.sl ..,_,hn,_=>by simp[aR]at hn
 |.iy,_,_,hv=>hv
 |.a8 x,v,_,hv=>by
  unfold VR at hv ⊢;obtain⟨hn,b,off,c,el,fz,y,e,hI,hH,hx,hj⟩:=hv;exact⟨hn,b,off,c,el,fz,y,e,h.aF b hI,(h.same b hI).trans hH,VR.free h x y hn hx,hj⟩
 |.ptr ..,_,hn,_=>by simp[aR]at hn
 |.kS,_,_,hv=>hv
 |.func _ l,_,hn,⟨vs,e,hl⟩=>⟨vs,e,cj.free h l vs (by simpa[aR]using hn) hl⟩
 |.hY,_,_,hv=>hv
 |.iface _ x,_,hn,⟨y,e,hx⟩=>⟨y,e,VR.free h x y (by simpa[aR]using hn) hx⟩
 |.cP _,_,hn,_=>by simp[aR]at hn
 |.qh,_,_,hv=>hv
 |.aO,_,hn,_=>by simp[aR]at hn
theorem cj.free (h:oU C H C' H'):∀(l:List AV) (vs:List Value),aC l=true->cj C H l vs->cj C' H' l vs
 | [],_,_,hv=>hv
 |x::r,_,hn,⟨v,s,e,hx,hr⟩=>by
  simp only[aC,aH]at hn;exact⟨v,s,e,VR.free h x v hn.1 hx,cj.free h r s hn.2 hr⟩
theorem jS.free (h:oU C H C' H') (c:Array Value) (st:Nat):∀(l:List AV) (off:Nat),aC l=true->jS C H c st l off->jS C' H' c st l off
 | [],_,_,_=>trivial
 |x::r,off,hn,⟨⟨v,hx,e,hj⟩,hr⟩=>by
  simp only[aC,aH]at hn;exact⟨⟨v,VR.free h x v hn.1 hx,e,hj⟩,jS.free h c st r (off+st) hn.2 hr⟩
end
end
section
variable{C:Ctx}{H:Array Obj}
def cj.length:∀{l:List AV}{vs:List Value},cj C H l vs->vs.length=l.length
 | [],_,h=>by rw[show _=[]from h];rfl
 |_::_,_,⟨_,_,e,_,hr⟩=>by rw[e];simp[cj.length hr]
def cj.get:∀{l:List AV}{vs:List Value},cj C H l vs->∀(i:Nat) (x:AV),l[i]? = some x->∃v,vs[i]? = some v/\VR C H x v
 | [],_,_,i,x,hi=>by simp at hi
 |y::r,_,⟨v,s,e,hx,hr⟩,0,x,hi=>by
  simp at hi;subst hi;rw[e];exact⟨v,rfl,hx⟩
 |y::r,_,⟨v,s,e,hx,hr⟩,i+1,x,hi=>by
  rw[e];exact cj.get hr i x mM
def cj.append:∀{l m:List AV}{vs ws:List Value},cj C H l vs->cj C H m ws->cj C H (l++m) (vs++ws)
 | [],_,_,_,h,k=>by rw[show _=[]from h];exact k
 |_::_,_,_,_,⟨v,s,e,hx,hr⟩,k=>by rw[e];exact⟨v,s++_,rfl,hx,cj.append hr k⟩
def cj.drop:∀(n:Nat){l:List AV}{vs:List Value},cj C H l vs->cj C H (l.drop n) (vs.drop n)
 |0,_,_,h=>by simpa using h
 |n+1,[],_,h=>by rw[show _=[]from h];simp[cj]
 |n+1,_::_,_,⟨v,s,e,hx,hr⟩=>by rw[e];simpa using cj.drop n hr
def cj.take:∀(n:Nat){l:List AV}{vs:List Value},cj C H l vs->cj C H (l.take n) (vs.take n)
 |0,_,_,h=>by simp[cj]
 |n+1,[],_,h=>by rw[show _=[]from h];simp[cj]
 |n+1,_::_,_,⟨v,s,e,hx,hr⟩=>by rw[e];exact⟨v,s.take n,rfl,hx,cj.take n hr⟩
variable{b u off:Nat}{v:Value}
def Bt{len:Nat}(h:VR C H (.sl b u off len) v):C.lim b u:=by unfold VR at h;exact h.2.1
def aaJ(h:VR C H (.ptr b u off) v):C.lim b u:=by unfold VR at h;exact h.2.1
def ZH(h:VR C H (.cP b) v):C.lim b 0:=by unfold VR at h;exact h.2.1
def iY (x:AV):Prop:=x ≠ .aO/\∀l,x ≠ .bM l
def yW(h:v.oneCell' = true):v.cells = #[v]:=by
 cases v<;>first|rfl|simp[Value.oneCell']at h
variable{x:AV}
def VR.leaf(hx:∀l,x ≠ .agg l) (hu:iY x) (h:VR C H x v):v.oneCell' = true:=by
 cases x with
 |agg l=>exact absurd rfl (hx l)
 |aO=>exact absurd rfl hu.1
 |bM l=>exact absurd rfl (hu.2 l)
 |qh=>exact h
 |emp=>
  unfold VR at h;obtain⟨_,h⟩:=h;rw[h];rfl
 |_=>
  unfold VR at h
  first
   |(rw[h];rfl)
   |(obtain⟨⟨_,h⟩,_⟩:=h;rw[h];rfl)
   |(obtain⟨_,_,h⟩:=h;rw[h];rfl)
   |(obtain⟨_,h,_⟩:=h;rw[h];rfl)
   |(obtain⟨⟨_,_,h,_⟩,_⟩:=h;rw[h];rfl)
   |(obtain⟨⟨_,h⟩,_⟩:=h;rw[h];rfl)
   |(obtain⟨_,h|h⟩:=h
     .obtain⟨_,_,h,_⟩:=h;rw[h];rfl
     .obtain⟨_,_,_,_,_,_,_,h,_⟩:=h;rw[h];rfl)
   |(obtain⟨_,_,_,_,_,_,h,_⟩:=h;rw[h];rfl)
   |(obtain⟨_,_,_,_,_,_,_,h,_⟩:=h;rw[h];rfl)
def VR.cells(hu:iY x) (h:VR C H x v):cj C H x.cells v.cells.toList/\∀y,y∈v.cells.toList->y.oneCell' = true:=by
 by_cases hx:∃l,x = .agg l
 .obtain⟨l,rfl⟩:=hx
  unfold VR at h;obtain⟨vs,rfl,hl,hc⟩:=h;exact⟨by simpa[AV.cells,Value.cells]using hl,by simpa[Value.cells]using hc⟩
 .have kT : ∀l,x ≠ .agg l:=λl e=>hx ⟨l,e⟩
  have hlf:=VR.leaf kT hu h;rw[yW hlf];have:x.cells=[x]:=by
   cases x<;>first|rfl|exact absurd rfl (kT _)
  rw[this];exact⟨⟨v,[],rfl,h,rfl⟩,by simp[hlf]⟩
def VR.size(hu:iY x) (h:VR C H x v):v.cells.size=x.cells.length:=by
 have:=cj.length (VR.cells hu h).1;simpa using this
end
def owned (C:Ctx) (k:Nat):Prop:=∃b u B,C.own b u=some (B,k)/\B.st.jU=true
def MR (C:Ctx) (H:Array Obj):List (AV×AV)->List MapEntry->Prop
 | [],l=>l=[]
 |(k,x)::r,l=>∃e s,l=e::s/\(aR k=true/\VR C H k e.key)/\VR C H x e.val/\MR C H r s
structure Good (C:Ctx) (w:World):Prop where
 I:∀k,C.I k->k<w.heap.size
 lV:∀b u B id,C.own b u=some (B,id)->C.lim b u/\u=B.cells.length/\(B.st = .gN->B.cells=[])/\B.st ≠ .dead
 live:∀b u B id,C.own b u=some (B,id)->B.st = .live->¬C.I id/\∃(c:Array Value) (el:TypeId),w.heap[id]? = some (.cells c el (0,0))/\B.cells.length<=c.size/\
  ∀(i:Nat) (x:AV),B.cells[i]? = some x->∃y,c[i]? = some y/\VR C w.heap x y/\y.oneCell' = true
 apart:∀b u B id b' u' B' id', C.own b u=some (B,id)->B.st.jU=true->C.own b' u' = some (B', id')->B'.st.jU=true->b ≠ b' ->id ≠ id'
 maps:∀b u B id es,C.own b u=some (B,id)->B.st = .map es->¬C.I id/\∃(l:Array MapEntry) (clock:Nat),w.heap[id]? = some (.map l clock)/\MR C w.heap es l.toList
variable{s:fb}
def Oy(h:s.jU=true):s = .live\/∃es,s = .map es:=by
 cases s<;>simp_all [fb.jU]
def l7(h:s = .live):s.jU=true:=by subst h;rfl
variable{k:Nat}
def Good.lt{C:Ctx}{w:World}(h:Good C w)(hk:owned C k):k<w.heap.size:=by
 obtain⟨b,u,B,ho,hl⟩:=hk;rcases Oy hl with hl|⟨es,hl⟩
 .obtain⟨_,c,el,hc,_⟩:=h.live b u B k ho hl
  exact(ke.1 hc).1
 .obtain⟨_,c,el,hc,_⟩:=h.maps b u B k es ho hl
  exact(ke.1 hc).1
def MR.mono{C C' : Ctx}{H H' : Array Obj}(h:fZ C H C' H'):∀{es:List (AV×AV)}{l:List MapEntry},MR C H es l->MR C' H' es l
 | [],_,e=>e
 |(k,x)::r,_,⟨e,s,q,⟨k1,k2⟩,x2,hr⟩=>⟨e,s,q,⟨k1,VR.mono h _ _ k2⟩,VR.mono h _ _ x2,MR.mono h hr⟩
variable{w': World}{b u id:Nat}{B:al}{es:List (AV×AV)}
def Good.df{C:Ctx}{w:World}(hg:Good C w){C' : Ctx}(ev:fZ C w.heap C' w'.heap)(ho:C.own b u=some (B,id)) (hl:B.st = .map es)
  (hid:w'.heap[id]? = w.heap[id]?) (yU:¬C'.I id):¬C'.I id/\∃(l:Array MapEntry) (clock:Nat),w'.heap[id]? = some (.map l clock)/\MR C' w'.heap es l.toList:=by
 obtain⟨_,l,c,h1,h2⟩:=hg.maps b u B id es ho hl;exact⟨yU,l,c,hid.trans h1,h2.mono ev⟩
def l0(h:s = .map es):s.jU=true:=by subst h;rfl
def Good.YE{C:Ctx}{w:World}(h:Good C w)(hk:owned C k):¬C.I k:=by
 obtain⟨b,u,B,ho,hl⟩:=hk;rcases Oy hl with hl|⟨es,hl⟩
 .exact(h.live b u B k ho hl).1
 .exact(h.maps b u B k es ho hl).1
structure Step (C:Ctx) (w:World) (C' : Ctx) (w' : World):Prop where
 ev:fZ C w.heap C' w'.heap
 size:w.heap.size<=w'.heap.size
 frame:∀k,k<w.heap.size->¬owned C k->w'.heap[k]? = w.heap[k]?
 gn:∀k,owned C' k->owned C k\/w.heap.size<=k
 gL:∀k,C'.I k->C.I k\/owned C k\/w.heap.size<=k
 os:w'.os=w.os
 tape:w'.tape=w.tape/\w.drawn<=w'.drawn
 output:w'.output=w.output
def Step.refl (C:Ctx) (w:World):Step C w C w:=
 ⟨fZ.refl _ _,bd _,λ_ _ _=>rfl,λ_ h=>.inl h,λ_ h=>.inl h,rfl,⟨rfl,bd _⟩,rfl⟩
def Step.trans{C C' Ox : Ctx}{w w'': World}(h:Step C w C' w') (k:Step C' w' Ox w''):Step C w Ox w'' :=by
 refine⟨h.ev.trans k.ev,Nat.le_trans h.size k.size,λx hx ho=>?_,λx hx=>?_,λx hx=>?_,k.os.trans h.os,⟨k.tape.1.trans h.tape.1,Nat.le_trans h.tape.2 k.tape.2⟩,k.output.trans h.output⟩
 .rw[k.frame x (ui hx h.size) (λh' =>(h.gn x h').elim ho (λh'' =>absurd hx (Nat.not_lt.2 h'')))]
  exact h.frame x hx ho
 .rcases k.gn x hx with h' | h'
  .exact h.gn x h'
  .exact .inr (Nat.le_trans h.size h')
 .rcases k.gL x hx with h' | h' | h'
  .exact h.gL x h'
  .exact .inr (h.gn x h')
  .exact .inr (.inr (Nat.le_trans h.size h'))
def af (σ:List al) (ids:Nat->Nat) (I:Nat->Prop):Ctx where
 I:=I
 own:=λb u=>match aq σ b with
  |some B=>match B.st with
   |.dead=>none
   |_=>if B.cells.length=u then some (B,ids b)else none
  |none=>none
 lim:=λb u=>∃B,aq σ b=some B/\u<=B.cells.length
def dt (σ:List al):∀b,aq σ b=σ[b]?:=by
 induction σ with
 |nil=>intro b;rfl
 |cons x r a=>intro b;cases b<;>simp[aq,a]
def wR (l:List AV):∀b,pa l b=l[b]?:=by
 induction l with
 |nil=>intro b;rfl
 |cons x r a=>intro b;cases b<;>simp[pa,a]
def YQ (σ:List al):∀b y,ar σ b y=σ.set b y:=by
 induction σ with
 |nil=>intro b y;rfl
 |cons x r a=>intro b y;cases b<;>simp[ar,a]
def aai (l:List AV):∀b y,eu l b y=l.set b y:=by
 induction l with
 |nil=>intro b y;rfl
 |cons x r a=>intro b y;cases b<;>simp[eu,a]
def ta (l:List AV):∀b,nth l b=l[b]?.getD .aO:=by
 induction l with
 |nil=>intro b;rfl
 |cons x r a=>intro b;cases b<;>simp[nth,a]
def nX{σ:List al}(ids:Nat->Nat) (I:Nat->Prop) (h:upto σ b u=some B):(af σ ids I).own b u=some (B,ids b):=by
 unfold upto at h;simp only[af];cases d:aq σ b with
 |none=>simp[d]at h
 |some e =>
  simp only[d]at h ⊢;cases g:e.st<;>simp only[g]at h ⊢<;>first
   |(by_cases a:e.cells.length=u
     .simp[a]at h;subst h;simp[a]
     .simp[a]at h)
   |simp at h
def sK{σ:List al}(ids:Nat->Nat) (I:Nat->Prop) (h:fW σ b u=some B):(af σ ids I).own b u=some (B,ids b):=by
 unfold fW at h;simp only[af];cases d:aq σ b with
 |none=>simp[d]at h
 |some e =>
  simp only[d]at h ⊢;cases g:e.st<;>simp only[g]at h ⊢<;>first
   |(by_cases a:e.cells.length=u
     .simp[a]at h;subst h;simp[a]
     .simp[a]at h)
   |simp at h
def ND{σ:List al}(h:upto σ b u=some B):fW σ b u=some B:=by
 unfold upto at h;unfold fW;cases a:aq σ b with
 |none=>simp[a]at h
 |some d =>
  simp only[a]at h ⊢;cases e:d.st<;>simp only[e]at h ⊢<;>first
   |exact h
   |simp at h
def yu{σ:List al}(h:upto σ b u=some B):B.st.je=false:=by
 unfold upto at h;cases a:aq σ b with
 |none=>simp[a]at h
 |some e =>
  simp only[a]at h;cases d:e.st<;>simp only[d]at h<;>first
   |(split at h<;>simp at h;subst h;simp[d,fb.je])
   |simp at h
def yx{σ:List al}{ids:Nat->Nat}{I:Nat->Prop}(h:(af σ ids I).own b u=some (B,id)):aq σ b=some B/\id=ids b:=by
 simp only[af]at h;cases a:aq σ b with
 |none=>simp[a]at h
 |some d =>
  simp only[a]at h;cases g:d.st<;>simp only[g]at h<;>first
   |(by_cases e:d.cells.length=u
     .simp[e]at h;obtain⟨rfl,rfl⟩:=h;exact⟨rfl,rfl⟩
     .simp[e]at h)
   |simp at h
variable{x:AV}{v:Value}
def VR.gh{C:Ctx}{H:Array Obj}(h:VR C H x v):VR C H (Ab.gh x) v:=by
 cases x with
 |ag=>unfold VR at h;unfold Ab.gh VR;exact⟨rfl,.inl ⟨rfl,none,h,ab⟩⟩
 |emp=>
  unfold VR at h;unfold Ab.gh VR;obtain⟨a,h⟩:=h;exact⟨rfl,.inl ⟨rfl,a,h,ab⟩⟩
 |aF nn l=>
  unfold VR at h;unfold Ab.gh VR;refine⟨h.1,?_⟩;rcases h.2 with h' | h'
  .obtain⟨h1,a,h2,_⟩:=h'; exact .inl ⟨h1,a,h2,ab⟩
  .exact .inr h'
 |_=>exact h
def cj.gh{C:Ctx}{H:Array Obj}:∀{l:List AV}{vs:List Value},cj C H l vs->cj C H (l.map Ab.gh) vs
 | [],_,h=>h
 |_::_,_,⟨v,s,e,hx,hr⟩=>⟨v,s,e,hx.gh,cj.gh hr⟩
def VR.wk{C:Ctx}{H:Array Obj}(h:VR C H x v):VR C H (Ab.wk x) v:=by
 cases x with
 |agg l=>unfold VR at h;obtain⟨vs,e,hl,hc⟩:=h;unfold Ab.wk VR;exact⟨vs,e,hl.gh,hc⟩
 |_=>exact VR.gh h
def cj.wk{C:Ctx}{H:Array Obj}:∀{l:List AV}{vs:List Value},cj C H l vs->cj C H (l.map Ab.wk) vs
 | [],_,h=>h
 |_::_,_,⟨v,s,e,hx,hr⟩=>⟨v,s,e,hx.wk,cj.wk hr⟩
def aaK(h:aR x=true):aR (gh x)=true:=by cases x<;>simp_all [gh,aR]
def Oz:∀{l:List AV},aC l=true->aC (l.map gh)=true
 | [],_=>rfl
 |_::_,h=>by
  simp only[aC,aH,cS]at h ⊢;exact⟨aaK h.1,Oz h.2⟩
end Ab
namespace Ab
open Go
def OA{b g:Type}{f:b->Option g}:∀{l:List b}{m:List g},bJ f l=some m->m.length=l.length/\∀(i:Nat) (x:b),l[i]? = some x->∃y,m[i]? = some y/\f x=some y
 | [],m,h=>by
  simp[bJ]at h;subst h;simp
 |x::r,m,h=>by
  unfold bJ at h;cases a:f x with
  |none=>simp[a]at h
  |some y=>
   cases d:bJ f r with
   |none=>simp[a,d]at h
   |some s=>
    simp[a,d]at h;subst h;obtain⟨j,n⟩:=OA d;refine⟨by simp[j],λi z e=>?_⟩
    cases i with
    |zero=>simp at e;subst e;exact⟨y,rfl,a⟩
    |succ i=>exact n i z gC
def aaL (k:Option Nat) (cs:List AV):∀(n:Nat),n*aM k<=cs.length->(∀m,k=some m->True)->(chunk k n cs).length=n:=by
 intro n
 induction n generalizing cs with
 |zero=>intros;simp[chunk]
 |succ n a=>
  intro h _;cases k with
  |none=>
   cases cs with
   |nil=>simp[aM]at h
   |cons x r=>simp only[chunk,cO];rw[a r (by simp[aM]at h ⊢;omega) (λ_ _=>trivial)]
  |some m=>
   simp only[chunk,cO];rw[a (cs.drop m) (by simp[aM]at h ⊢;rw[fh]at h;omega) (λ_ _=>trivial)]
def Gn (k:Option Nat):∀(n:Nat) (cs:List AV),n*aM k<=cs.length->∀i,i<n->∃x,(chunk k n cs)[i]? = some x/\part cs (i*aM k) k=some x
 |0,_,_,i,d=>absurd d (Nat.not_lt_zero i)
 |n+1,cs,h,i,d=>by
  cases k with
  |none=>
   cases cs with
   |nil=>simp[aM]at h
   |cons x r=>
    cases i with
    |zero=>exact⟨x,by simp[chunk],by simp[part,aM,pa]⟩
    |succ i=>
     obtain⟨y,b,a⟩:=Gn none n r (by simp[aM]at h ⊢;omega) i aa
     exact⟨y,by simpa[chunk]using b,by simpa[part,aM,pa]using a⟩
  |some m=>
   simp only[aM]at h;rw[fh]at h;cases i with
   |zero=>exact⟨.agg (cs.take m),by simp[chunk],by simp[part,aM];omega⟩
   |succ i=>
    obtain⟨y,b,a⟩:=Gn (some m) n (cs.drop m) (by simp[aM];omega) i aa
    refine⟨y,by simpa[chunk]using b,?_⟩
    simp only[part,aM,List.length_drop,List.drop_drop]at a ⊢;split at a
    .have e:(i+1)*m=m+i*m:=by rw[fh];omega
     have:m+i*m+m<=cs.length:=aa
     rw[<-a];simp only[e,this,dD]
    .simp at a
variable{off:Nat}{k:Option Nat}{x:AV}
def BP{C:Ctx}{H:Array Obj}{cs:List AV}{c:Array Value}
  (hc:∀(i:Nat) (x:AV),cs[i]? = some x->∃y,c[i]? = some y/\VR C H x y/\y.oneCell' = true) (h:part cs off k=some x) :
  ∃v,VR C H x v/\v.cells.size=aM k/\(∀j,j<aM k->c[off+j]? = v.cells[j]?)/\(k=none->v.cells = #[v])/\(k ≠ none->∃vs,v = .agg vs):=by
 cases k with
 |none=>
  simp only[part,wR]at h;obtain⟨y,h1,h2,h3⟩:=hc off x h;have h3:=yW h3;refine⟨y,h2,by simp[h3,aM],λj hj=>?_,λ_=>h3,λh=>absurd rfl h⟩
  simp only[aM]at hj;obtain rfl:j=0:=aa
  simp[h1,h3]
 |some n=>
  simp only[part]at h;split at h
  case isFalse=>simp at h
  rename_i hn;simp at h;subst h;have key:∀m,m<=n->∃vs:List Value,cj C H ((cs.drop off).take m) vs/\vs.length=m/\(∀y,y∈vs->y.oneCell' = true)/\∀j,j<m->c[off+j]? = vs[j]?:=by
   intro m
   induction m with
   |zero=>intro _;exact⟨[],by simp[cj],rfl,ab,λj hj=>absurd hj (Nat.not_lt_zero j)⟩
   |succ m ih=>
    intro hm;obtain⟨vs,h1,h2,h4,h3⟩:=ih aa
    have hx:∃x,cs[off+m]? = some x:=⟨cs[off+m],by rw[db aa]⟩
    obtain⟨x,hx⟩:=hx;obtain⟨y,g1,g2,g3⟩:=hc (off+m) x hx;have ht:(cs.drop off).take (m+1)=(cs.drop off).take m ++ [x]:=by
     rw[nh];simp[hx]
    rw[ht];refine⟨vs ++ [y],h1.append ⟨y,[],rfl,g2,rfl⟩,by simp[h2],λz hz=>(cY.1 hz).elim (h4 z) (λhz=>by simp at hz;subst hz;exact g3),λj hj=>?_⟩
    rcases Nat.lt_or_ge j m with cm|Xn
    .rw[h3 j cm,eJ aa]
    .obtain rfl:j=m:=by omega
     rw[g1,<-h2];simp
  obtain⟨vs,h1,h2,h4,h3⟩:=key n (bd n);refine⟨.agg vs.toArray,by unfold VR;exact⟨vs,rfl,h1,h4⟩,by simp[Value.cells,h2,aM],λj hj=>?_,λh=>eX,λ_=>⟨_,rfl⟩⟩
  simp only[aM]at hj;rw[h3 j hj];simp[Value.cells]
def jS.of{C:Ctx}{H:Array Obj}{c:Array Value}{st:Nat}:∀{l:List AV}{off:Nat},
  (∀i x,l[i]? = some x->∃v,VR C H x v/\v.cells.size=st/\∀j,j<st->c[off+i*st+j]? = v.cells[j]?)->jS C H c st l off
 | [],_,_=>trivial
 |x::r,off,h=>by
  refine⟨by simpa using h 0 x rfl,jS.of λi y hi=>?_⟩
  obtain⟨v,h1,h2,h3⟩:=h (i+1) y mM
  refine⟨v,h1,h2,λj hj=>?_⟩;rw[<-h3 j hj]
  congr 1
  rw[fh];omega
def jS.get{C:Ctx}{H:Array Obj}{c:Array Value}{st:Nat}:∀{l:List AV}{off:Nat},jS C H c st l off->
  ∀i x,l[i]? = some x->∃v,VR C H x v/\v.cells.size=st/\∀j,j<st->c[off+i*st+j]? = v.cells[j]?
 | [],_,_,i,x,hi=>by simp at hi
 |y::r,off,⟨hx,hr⟩,0,x,hi=>by simp at hi;subst hi;simpa using hx
 |y::r,off,⟨hx,hr⟩,i+1,x,hi=>by
  obtain⟨v,h1,h2,h3⟩:=jS.get hr i x mM
  refine⟨v,h1,h2,λj hj=>?_⟩;rw[<-h3 j hj]
  congr 1
  rw[fh];omega
def Bk{l:List AV}(h:∀x∈l,aR x=true):aC l=true:=by
 induction l with
 |nil=>rfl
 |cons x r a=>
  simp only[aC,aH];exact⟨h x ab,a λy b=>h y fj⟩
structure OB (fr:Bool) (C:Ctx) (C2:Ctx):Prop where
 aF:fr=false->∀k,C.I k->C2.I k
 own:∀k,owned C k->C2.I k
def yo{σ:List al}{fr:Bool}{f:Nat}{C C2:Ctx}{H:Array Obj}
  (d:∀x y v,view σ fr f x=some y->VR C H x v->aR y=true/\VR C2 H y v) :
  ∀{l m:List AV} {vs:List Value},bJ (view σ fr f) l=some m->cj C H l vs->aC m=true/\cj C2 H m vs
 | [],m,vs,h,g=>by simp[bJ]at h;subst h;exact⟨rfl,g⟩
 |x::r,m,vs,h,⟨v,s,e,i,j⟩=>by
  unfold bJ at h;cases a:view σ fr f x with
  |none=>simp[a]at h
  |some y=>
   cases b:bJ (view σ fr f) r with
   |none=>simp[a,b]at h
   |some t=>
    simp[a,b]at h;subst h;obtain⟨n,o⟩:=d x y v a i;obtain⟨p,q⟩:=yo d b j;exact⟨by simp[aC,n,p],⟨v,s,e,o,q⟩⟩
variable{fr:Bool}{C2:Ctx}
def Bh{σ:List al}{C:Ctx}{w:World}(jV:∀b u B,C.lim b u->upto σ b u=some B->∃id,C.own b u=some (B,id)) (hg:Good C w) (hf:OB fr C C2) :
  ∀(f:Nat) (x y:AV) (v:Value),view σ fr f x=some y->VR C w.heap x v->aR y=true/\VR C2 w.heap y v:=by
 intro f
 induction f with
 |zero=>intro x y v h;simp[view]at h
 |succ f ih=>
  intro x y v h hv;cases x with
  |sl b u off len=>
   simp only[view]at h;cases hu:upto σ b u with
   |none=>simp[hu]at h
   |some B=>
    simp only[hu]at h;split at h
    case isFalse=>simp at h
    rename_i hle;cases hm:bJ (view σ fr f) (chunk B.k len (B.cells.drop off))with
    |none=>simp[hm]at h
    |some l=>
     simp[hm]at h;subst h;unfold VR at hv;obtain⟨_,iw,hv⟩:=hv;obtain⟨id,ho⟩:=jV b u B iw hu;obtain⟨OC,uc⟩:=OA hm;obtain⟨_,e1,e3,e4⟩:=hg.lV b u B _ ho;have hv:=hv B _ ho;have hlen:(chunk B.k len (B.cells.drop off)).length=len:=aaL _ _ _ ax (λ_ _=>trivial)
     cases hs:B.st with
     |dead=>exact absurd hs e4
     |map es=>have:=yu hu;rw[hs]at this;simp[fb.je]at this
     |gN=>
      simp only[hs]at hv;obtain⟨rfl,rfl,rfl⟩:=hv;have:l=[]:=by
       have:l.length=0:=by rw[OC,hlen]
       exact dY this
      subst this;exact⟨rfl,by unfold VR;exact⟨rfl,.inl ⟨rfl,none,rfl,ab⟩⟩⟩
     |live=>
      simp only[hs]at hv;obtain⟨c,el,o,cap,g1,rfl,g3,g4,g5⟩:=hv;obtain⟨n1,c', AM, n2,n3,n4⟩:=hg.live b u B _ ho hs;rw[g1]at n2;simp only[bT,lC]at n2;obtain⟨rfl,rfl,_⟩:=n2;have wj:∀i x,(B.cells.drop off)[i]? = some x->∃y,c[off+i]? = some y/\VR C w.heap x y/\y.oneCell' = true:=λi x hi=>by
       rw[mP]at hi;exact n4 (off+i) x hi
      have Gp:∀i y,l[i]? = some y->aR y=true/\∃v,VR C2 w.heap y v/\v.cells.size=aM B.k/\∀j,j<aM B.k->c[off+i*aM B.k+j]? = v.cells[j]?:=λi y hi=>by
       have aaM:i<len:=by
        have:=(dC.1 hi).1;omega
       obtain⟨z,z1,z2⟩:=Gn B.k len (B.cells.drop off) ax i aaM
       obtain⟨y', y1,y2⟩:=uc i z z1;rw[hi]at y1;simp at y1;subst y1;have hp:part B.cells (off+i*aM B.k) B.k=some z:=by
        cases hk:B.k with
        |none=>simp only[hk,part,wR,mP]at z2 ⊢;exact z2
        |some n=>
         simp only[hk,part,List.length_drop,List.drop_drop]at z2 ⊢;split at z2
         .rw[ae aa];exact z2
         .simp at z2
       obtain⟨val,p1,p2,p3,_⟩:=BP n4 hp;obtain⟨q1,q2⟩:=ih z y val y2 p1;exact⟨q1,val,q2,p2,p3⟩
      refine⟨rfl,?_⟩;unfold VR;refine⟨Bk λx hx=>?_,.inr ⟨id,o,cap,aM B.k,c,el,(0,0),?_,aa,hf.own _ ⟨b,u,B,ho,l7 hs⟩,g1,jS.of λi x hi=>?_⟩⟩
      .obtain⟨i,hi⟩:=List.getElem?_of_mem hx
       exact(Gp i x hi).1
      .rw[OC,hlen]
      .have jt :=(dC.1 hi).1
       obtain rfl:=g3 aa
       exact(Gp i x hi).2
  |ptr b u off=>
   simp only[view]at h;cases hu:upto σ b u with
   |none=>simp[hu]at h
   |some B=>
    simp only[hu]at h;split at h
    case isFalse=>simp at h
    rename_i hle;simp only[aH,cT]at hle;cases hp:part B.cells 0 B.k with
    |none=>simp[hp]at h
    |some z=>
     cases hz:view σ fr f z with
     |none=>simp[hp,hz]at h
     |some z' =>
      simp[hp,hz]at h;subst h;unfold VR at hv;obtain⟨_,iw,hv⟩:=hv;obtain⟨id,ho⟩:=jV b u B iw hu;obtain⟨_,e1,e3,e4⟩:=hg.lV b u B _ ho;have hv:=hv B _ ho;have hs:B.st = .live:=by
       have:=hle.2
       revert this
       cases B.st<;>simp[fb.isLive]
      have hv:=hv hs;subst hv;obtain⟨n1,c,el,n2,n3,n4⟩:=hg.live b u B _ ho hs;obtain⟨val,p1,p2,p3,_⟩:=BP n4 hp;obtain⟨q1,q2⟩:=ih z z' val hz p1;obtain⟨⟨rfl,_⟩,_⟩:=hle;exact⟨rfl,by unfold VR;exact⟨q1,id,0,c,el,(0,0),val,rfl,hf.own _ ⟨b,u,B,ho,l7 hs⟩,n2,q2,λj hj=>p3 j aa⟩⟩
  |agg l=>
   simp only[view]at h;cases hm:bJ (view σ fr f) l with
   |none=>simp[hm]at h
   |some m=>
    simp[hm]at h;subst h;unfold VR at hv;obtain⟨vs,e,hl,hc⟩:=hv;obtain⟨h1,h2⟩:=yo ih hm hl;exact⟨by simpa[aR]using h1,by unfold VR;exact⟨vs,e,h2,hc⟩⟩
  |bM l=>simp[view]at h
  |func g l=>
   simp only[view]at h;cases hm:bJ (view σ fr f) l with
   |none=>simp[hm]at h
   |some m=>
    simp[hm]at h;subst h;unfold VR at hv;obtain⟨vs,e,hl⟩:=hv;obtain⟨h1,h2⟩:=yo ih hm hl;exact⟨by simpa[aR]using h1,by unfold VR;exact⟨vs,e,h2⟩⟩
  |iface t z=>
   simp only[view]at h;cases hm:view σ fr f z with
   |none=>simp[hm]at h
   |some m=>
    simp[hm]at h;subst h;unfold VR at hv;obtain⟨val,e,hl⟩:=hv;obtain⟨h1,h2⟩:=ih z m val hm hl;exact⟨by simpa[aR]using h1,by unfold VR;exact⟨val,e,h2⟩⟩
  |aF nn l=>
   simp only[view]at h;cases fr with
   |true=>simp at h
   |false=>
    simp at h;subst h;refine⟨rfl,?_⟩;exact VR.gh (x:=.aF nn l) (VR.free ⟨hf.aF rfl,λ_ _=>rfl⟩ _ _ rfl hv)
  |a8 z=>
   simp only[view]at h;cases fr with
   |true=>simp at h
   |false=>
    simp at h;subst h;exact⟨rfl,VR.free ⟨hf.aF rfl,λ_ _=>rfl⟩ _ _ rfl hv⟩
  |ag=>simp[view]at h;subst h;exact⟨rfl,VR.gh (x:=.ag) hv⟩
  |emp=>simp[view]at h;subst h;exact⟨rfl,VR.gh (x:=.emp) hv⟩
  |arr l=>simp[view]at h
  |aO=>simp[view]at h
  |cP b=>
   simp[view]at h;subst h;unfold VR at hv;obtain⟨⟨a,rfl⟩,_⟩:=hv;exact⟨rfl,rfl⟩
  |_=>simp[view]at h;subst h;exact⟨rfl,hv⟩
def MW{σ:List al}{C:Ctx}{w:World}(a:∀b u B,C.lim b u->upto σ b u=some B->∃id,C.own b u=some (B,id)) (i:Good C w) (j:OB fr C C2)
  {y:AV} {v:Value} (h:bP σ fr x=some y) (d:VR C w.heap x v):VR C2 w.heap y v:=by
 by_cases n:∃l,x = .bM l
 .obtain⟨l,rfl⟩:=n
  simp only[bP]at h;cases g:bJ (view σ fr vd) l with
  |none=>simp[g]at h
  |some m=>
   simp[g]at h;subst h;unfold VR at d;obtain⟨o,e,p⟩:=d;unfold VR;exact⟨o,e,(yo (λx y v=>Bh a i j vd x y v) g p).2⟩
 .have:bP σ fr x=view σ fr vd x:=by
   cases x<;>first|rfl|exact absurd ⟨_,rfl⟩ n
  rw[this]at h;exact(Bh a i j vd x y v h d).2
def aaN{C:Ctx}{H:Array Obj}{z:AV}{y:Value}(b:iY x) (h:VR C H x y) (d:part x.cells off k=some z) :
  ∃v,VR C H z v/\v.cells.size=aM k/\(∀j,j<aM k->y.cells[off+j]? = v.cells[j]?)/\(k=none->v.cells = #[v])/\(k ≠ none->∃vs,v = .agg vs):=by
 obtain⟨e,g⟩:=VR.cells b h;refine BP (λi l m=>?_) d;obtain⟨v,a,n⟩:=e.get i l m;refine⟨v,iJ,n,g v (sA a)⟩
end Ab
namespace Ab
open Go
def bF (P:Program) (t:TypeId) (k:Option Nat):Bool:=
 match P.underlying t,P.info? t with
 |some d,some i=>match d,k with
  |.struct _,some n=>i.size==n
  |.array _ _,some n=>i.size==n
  |.struct _,none=>false
  |.array _ _,none=>false
  |_,none=>i.size==1
  |_,_=>false
 |_,_=>false
def cD (P:Program) (t:TypeId) (n:Nat):Bool:=
 match P.info? t with
 |some i=>i.size==n
 |none=>false
def aT (P:Program) (t:TypeId):Option TypeId:=
 match P.underlying t with
 |some (.slice e)=>some e
 |_=>none
def kM:Value->AV->Bool
 |.int .i64 n,.int m=>n==m
 |.int k n,.ik j m=>(match kh j with|some K=>decide (k=K)|none=>false)&&n==m
 |.bool a,.bool b=>a==b
 |.slice none 0 0,.ag=>true
 |.pointer none,.iy=>true
 |.map none,.qh=>true
 |.nilFunc,.kS=>true
 |.nilIface,.hY=>true
 |.string s,.str l=>s.data.toList==l
 |_,_=>false
def eN:List Value->List AV->Bool
 | [],[]=>true
 |v::vs,x::xs=>kM v x&&eN vs xs
 |_,_=>false
def iG (P:Program) (t:TypeId) (z:List AV):Bool:=
 match P.info? t with
 |some i=>match i.zero with
  |some v=>eN v.cells.toList z
  |none=>false
 |none=>false
def cX (P:Program) (t:TypeId):Bool:=
 match P.info? t with
 |some i=>match i.zero with
  |some v=>v.cells.size==i.size
  |none=>false
 |none=>false
def fJ (P:Program) (t:TypeId):Bool:=
 match P.info? t with
 |some i=>decide (i.bytes<=4096)
 |none=>false
def kW (f:Operand->Rf->Bool):List Operand->List Rf->Bool
 | [],[]=>true
 |x::xs,y::ys=>f x y&&kW f xs ys
 |_,_=>false
def vL:BinOp->AP->Bool
 |.add,.add | .add,.uC | .sub,.sub | .mul,.mul | .quo,.quo | .rem,.rem | .lss,.lss | .leq,.leq | .gtr,.gtr | .geq,.geq | .eql,.eql | .neq,.neq=>true
 |_,_=>false
def oA (f:Operand->Rf->Bool):Option Operand->Option Rf->Bool
 |none,none=>true
 |some x,some y=>f x y
 |_,_=>false
def gQ (f:Operand->Rf->Bool) (place:Nat->Option (Nat×Nat)):List (Nat×Operand)->List (Nat×Nat×Rf)->Bool
 | [],[]=>true
 |(i,x)::xs,(o,n,y)::ys=>(match place i with|some (a,b)=>a==o&&b==n|none=>false)&&f x y&&gQ f place xs ys
 |_,_=>false
def placesOf (P:Program):List Field->Option (List (Nat×Nat))
 | []=>some []
 |f::r=>match P.info? f.type,placesOf P r with
  |some i,some l=>some ((f.offset,i.size)::l)
  |_,_=>none
def gq:Nat->List (Nat×Operand)->Bool
 |_,[]=>true
 |k,(i,_)::r=>i==k&&gq (k+1) r
def kg:Operand->Bool
 |.const (.slice none 0 0)=>true
 |_=>false
def qR (P:Program) (m:String):List (Nat×Nat)->Bool
 | []=>true
 |(t,f)::r=>(match P.info? t with
  |some i=>(match i.methods.find? (·.name==m)with
   |some x=>x.path.isEmpty&&(match x.func with
    |some (g,ptr)=>g==f&&(match P.underlying t with
     |some (.pointer _)=>ptr
     |some _=>!ptr
     |none=>false)
    |none=>false)
   |none=>false)
  |none=>false)&&qR P m r
def cM (P:Program) (f:Nat):Bool:=
 match P.funcs[f]? with
 |some fn=>fn.body.isSome && !(fn.name == "runtime.NumGoroutine")
 |none=>false
def lG (o:BinOp) (neg:Bool):Bool:=
 match o with
 |.eql=>!neg
 |.neq=>neg
 |_=>false
def gg (P:Program):List Field->Nat->Bool
 | [],_=>true
 |f::r,o=>f.name != "_" && (match P.underlying f.type with|some (.int .i64)=>true|_=>false)&&bF P f.type none&&f.offset==o&&gg P r (o+1)
def yX (P:Program) (t:TypeId) (n:Nat):Bool:=(match P.underlying t with
 |some (.struct fs)=>fs.size==n&&gg P fs.toList 0
 |_=>false) && !P.stoodInHeld t && !P.eqGuardType P.depth t
def kN (P:Program):List Field->Nat->Bool
 | [],_=>true
 |f::r,o=>f.name != "_" && (match P.underlying f.type with|some .string=>true|_=>false)&&bF P f.type none&&f.offset==o&&kN P r (o+1)
def yY (P:Program) (t:TypeId) (n:Nat):Bool:=(match P.underlying t with
 |some (.struct fs)=>fs.size==n&&kN P fs.toList 0
 |_=>false) && !P.stoodInHeld t && !P.eqGuardType P.depth t
def dL (P:Program) (t:TypeId) (a:Nat):Bool:=match a,P.underlying t with
 |0,some (.int .i64)=>true
 |1,some .string=>true
 |n+2,some (.struct fs)=>fs.size==n&&gg P fs.toList 0 && !P.stoodInHeld t
 |n+2,some (.array m e)=>m==n&&(match P.underlying e with|some (.int .i64)=>true|_=>false)&&bF P e none
 |_,_=>false
def oL (P:Program) (t:TypeId) (z:AV):Bool:=match P.info? t with
 |some i=>match i.zero with
  |some v=>kM v z&&aR z
  |none=>false
 |none=>false
def ma (P:Program) (R:Operand->Rf->Bool):Op->dh->Bool
 |.move x,.mv y=>R x y
 |.assign x,.mv y=>R x y
 |.assign x,.nl _=>kg x
 |.binOp o _ x y _,.bin Q h r =>vL o Q && R x h && R y r
 |.binOp o t x y _,.seq neg n h r =>lG o neg&&yX P t n&&R x h && R y r
 |.binOp o t x y _,.beq neg h r =>lG o neg&&(match P.underlying t with|some .bool=>true|_=>false)&&R x h && R y r
 |.binOp o t x y _,.oy neg z=>lG o neg&&(aT P t).isSome&&((kg y&&R x z)||(kg x&&R y z))
 |.unOp .not _ x,.not y=>R x y
 |.unOp .neg _ x,.bin .sub (.c (.int 0)) y=>R x y
 |.pick c a b,.pick F S T =>R c F && R a S && R b T
 |.call {callee:=.builtin .len,args,argTypes},.len y=>(match args.toList,argTypes.toList with
  | [x],[t]=>(aT P t).isSome&&R x y
  |_,_=>false)
 |.call {callee:=.builtin .max,args,..},.mx true h r =>(match args.toList with
  | [x,y]=>R x h && R y r
  |_=>false)
 |.call {callee:=.builtin .min,args,..},.mx false h r =>(match args.toList with
  | [x,y]=>R x h && R y r
  |_=>false)
 |.fieldAddr s x f,.cV y off k=>(match P.underlying s with
  |some (.struct fs)=>(match fs[f]? with
   |some G=>G.offset==off&&bF P G.type k && !cD P G.type 0
   |none=>false)
  |_=>false)&&R x y
 |.indexAddr t x i,.bu h D st=>(match aT P t with
  |some e=>cD P e st
  |none=>false)&&R x h && R i D
 |.indexAddr t x i,.fN h D n k=>(match P.underlying t with
  |some (.array m e)=>m==n&&bF P e k&&decide (2<=m)
  |_=>false)&&R x h && R i D
 |.nilCheck x,.o9 y=>R x y
 |.box _ x,.fD y=>R x y
 |.box t x,.vw y k=>bF P t k&&R x y
 |.alloc t,.lW z k=>iG P t z&&bF P t k
 |.alloc t,.gw n=>cD P t n&&(match P.info? t with|some i=>(match i.zero with|some v=>v.cells.size==n|none=>false)|none=>false)
 |.store t p x,.jX H h n=>cD P t n&&R p H && R x h
 |.store t p x,.st H h n=>cD P t n&&R p H && R x h
 |.load t x,.ld y k=>bF P t k&&R x y
 |.load t x,.cW y k=>bF P t k&&R x y
 |.build t ps,.iz z O=>iG P t z&&(match P.underlying t with
  |some (.struct fs)=>(match placesOf P fs.toList with|some l=>gQ R (λi=>l[i]?) ps.toList O|none=>false)
  |some (.array _ e)=>(match P.info? e with|some i=>gQ R (λj=>some (j*i.size,i.size)) ps.toList O|none=>false)
  |_=>false)
 |.extract x i,.ext y j=>i==j&&R x y
 |.makeFunc (.func f) fst E,.BG g q=>fst.isEmpty&&f==g&&kW R E.toList q
 |.makeInterface t x,.Mm u y=>t==u&&(match P.underlying t with|some (.interface _)=>false|some _=>true|none=>false)&&R x y
 |.buildSlice t n ps,.bN q st=>(match aT P t with|some e=>cD P e st&&cX P e&&decide (n*st<=2^24)|none=>false)&&n==ps.size&&gq 0 ps.toList&&kW R (ps.toList.map (·.2)) q
 |.buildSlice t n ps,.bW q st=>(match aT P t with|some e=>cD P e st&&cX P e&&decide (n*st<=2^24)|none=>false)&&n==ps.size&&gq 0 ps.toList&&kW R (ps.toList.map (·.2)) q
 |.buildSlice t n ps,.lz q k=>(match aT P t with|some e=>bF P e k&&cX P e&&decide (n*aM k<=2^24)|none=>false)&&n==ps.size&&gq 0 ps.toList&&kW R (ps.toList.map (·.2)) q
 |.slice t x U V none,.qX y I J st=>(match aT P t with|some e=>cD P e st|none=>false)&&R x y&&oA R U I && oA R V J
 |.convert s d x,.Et y=>(match P.underlying s,P.underlying d with|some (.int _),some (.int .i64)=>true|_,_=>false)&&R x y
 |.makeSlice t l c,.jc W F z k=>(match aT P t with|some e=>bF P e k&&iG P e z&&fJ P e|none=>false)&&R l W && R c F
 |.call {callee:=.builtin .append,args,argTypes},.app K h k=>(match args.toList,argTypes.toList with
  | [s,x],[t,L]=>(match aT P t with|some e=>bF P e k&&fJ P e&&cX P e|none=>false)&&(aT P L).isSome&&R s K && R x h
  |_,_=>false)
 |.call {callee:=.builtin .append,args,argTypes},.cp K h k=>(match args.toList,argTypes.toList with
  | [s,x],[t,L]=>(match aT P t with|some e=>bF P e k&&fJ P e&&cX P e|none=>false)&&(aT P L).isSome&&R s K && R x h
  |_,_=>false)
 |.call {callee:=.value (.func f),args,..},.k9 g q=>f==g&&cM P f&&kW R args.toList q
 |.call {callee:=.value (.func f),args,..},.rp g q=>f==g&&cM P f&&kW R args.toList q
 |.call {callee:=.value (.func f),args,..},.can g q=>f==g&&cM P f&&kW R args.toList q
 |.call {callee:=.value (.func f),args,..},.fE g q=>f==g&&cM P f&&kW R args.toList q
 |.call {callee:=.value x,args,..},.l5 y q=>R x y&&kW R args.toList q
 |.call {callee:=.value x,args,..},.lE y q=>R x y&&kW R args.toList q
 |.call {callee:=.invoke x m,args,..},.inv y M q=>R x y&&kW R args.toList q&&qR P m M
 |.call {callee:=.builtin .clear,args,argTypes},.vA y z k=>(match args.toList,argTypes.toList with
  | [x],[t]=>(match aT P t with|some e=>bF P e k&&iG P e z|none=>false)&&R x y
  |_,_=>false)
 |.makeMap _ none,.yr=>true
 |.lookup t x k ok,.vB h w A z N =>(match P.underlying t with
  |some (.map B e)=>dL P B w&&oL P e z
  |_=>false)&&ok==N && R x h && R k A
 |.call {callee:=.builtin .len,args,argTypes},.AO h =>(match args.toList,argTypes.toList with
  | [x],[t]=>(match P.underlying t with|some (.map _ _)=>true|_=>false)&&R x h
  |_,_=>false)
 |.mapUpdate t m k x,.vz C w A h =>(match P.underlying t with
  |some (.map B _)=>dL P B w
  |_=>false)&&R m C && R k A && R x h
 |.insert t m k x,.vz C w A h =>(match P.underlying t with
  |some (.map B _)=>dL P B w
  |_=>false)&&R m C && R k A && R x h
 |.convert s d x,.Mj y=>(match P.underlying s,P.underlying d with|some (.int _),some (.int .u8)=>true|_,_=>false)&&R x y
 |.convert s d x,.Bu y=>(match P.underlying s,P.underlying d with|some (.slice e),some .string=>(match P.underlying e with|some (.int .u8)=>true|_=>false)|_,_=>false)&&R x y
 |.mapUpdate t m k x,.xV C w A h =>(match P.underlying t with
  |some (.map B _)=>dL P B w&&decide (w<2)
  |_=>false)&&R m C && R k A && R x h
 |.insert t m k x,.xV C w A h =>(match P.underlying t with
  |some (.map B _)=>dL P B w&&decide (w<2)
  |_=>false)&&R m C && R k A && R x h
 |.convert s d x,.Mb y=>(match P.underlying s,P.underlying d with|some .string,some (.slice e)=>(match P.underlying e with|some (.int .u8)=>true|_=>false)|_,_=>false)&&R x y
 |.index t x i,.Mk h D =>(match P.underlying t with|some .string=>true|_=>false)&&R x h && R i D
 |.convert s d x,.BD y=>(match P.underlying s,P.underlying d with|some (.int _),some (.int .u8)=>true|_,_=>false)&&R x y
 |.binOp .shr _ x y _,.FJ h r =>R x h && R y r
 |.binOp o t x y _,.Ml neg h r =>lG o neg&&(match P.underlying t with|some (.int _)=>true|_=>false)&&R x h && R y r
 |.buildSlice t n ps,.sB st=>(match aT P t with|some e=>cD P e st&&cX P e|none=>false)&&n==0&&ps.size==0
 |.binOp o t x y _,.Mp neg n h r =>lG o neg&&yY P t n&&R x h && R y r
 |_,_=>false
def dh.kp:dh->Bool
 |.oy .. | .ld .. | .qX .. | .can .. | .rp .. | .vw .. | .lW .. | .jc .. | .lz .. | .nl .. | .app .. | .st .. | .cp .. | .fE .. | .lE .. | .sU .. | .vA .. | .yr | .vB .. | .AO .. | .vz .. | .Mn .. | .Bu .. | .xV ..=>false
 |_=>true
end Ab
namespace Ab
open Go
variable{P:Program}
variable{t:TypeId}
def lu{n:Nat}(h:cD P t n=true) (w:World):(Go.sizeOf t).run P w = .ok n w:=by
 unfold cD at h;cases a:P.info? t with
 |none=>simp[a]at h
 |some i=>
  simp[a]at h;rw[run_sizeOf w a];simp[Program.cellsOf,a,h]
variable{k:Option Nat}
def nZ(h:bF P t k=true):cD P t (aM k)=true:=by
 unfold bF at h;unfold cD;cases a:P.underlying t with
 |none=>simp[a]at h
 |some d=>
  cases b:P.info? t with
  |none=>simp[a,b]at h
  |some i=>
   simp only[a,b]at h ⊢;cases d<;>cases k<;>simp_all [aM]
def uq(h:bF P t k=true) (w:World):(isAgg t).run P w = .ok k.isSome w:=by
 unfold bF at h;cases a:P.underlying t with
 |none=>simp[a]at h
 |some d=>
  cases b:P.info? t with
  |none=>simp[a,b]at h
  |some i=>
   simp only[a,b]at h;simp only[isAgg,aW,run_underlying a,aZ];cases d<;>cases k<;>simp_all
def mN{e:TypeId}(h:aT P t=some e) (w:World):(underlying t).run P w = .ok (.slice e) w:=by
 unfold aT at h;cases a:P.underlying t with
 |none=>simp[a]at h
 |some d=>cases d<;>simp[a]at h;subst h;exact run_underlying a w
def OD{w:World}(e:bF P t k=true){aq off:Nat}{c:Array Value}{el:TypeId}{h:Nat×Nat}{v:Value}
  (l:w.heap[aq]? = some (.cells c el h)) (g:v.cells.size=aM k) (m:∀j,j<aM k->c[off+j]? = v.cells[j]?) (o:k=none->v.cells = #[v]) (p:k ≠ none->∃vs,v = .agg vs) :
  (loadVar t ⟨aq,off,none⟩).run P w = .ok v w:=by
 have a:∀j,j<aM k->w.cell? ((⟨aq,off,none⟩:Addr).add j)=some (v.cells.getD j undef):=λj b=>by
  have:((⟨aq,off,none⟩:Addr).add j)=⟨aq,off+j,none⟩:=by
   unfold Addr.add;split
   .rename_i d;subst d;rfl
   .rfl
  rw[this];simp only[World.cell?,l];simp only[uu,ef,eI];rw[m j b];have:j<v.cells.size:=aa
  simp[this]
 unfold loadVar;simp only[aW,uq e,aZ];cases k with
 |none=>
  simp only[uu,ef,eI];have d:=a 0 (by simp[aM])
  simp only[Addr.add,dD]at d;have q:=o rfl;rw[q]at d;simp at d;simp[load,Sem.run,d]
 |some n=>
  obtain⟨vs,rfl⟩:=p ab
  simp only[Option.isSome_some,dD,aW,lu (nZ e),aZ,aM];have r:=run_loadCells (P:=P) (w:=w) ⟨aq,off,none⟩ n (λj=>vs.getD j undef) (λj b=>a j b);rw[r];simp only[aZ,bw];simp only[Value.cells,aM]at g
  congr 2
  apply Array.ext
  .simp[g]
  .intro i x s
   have u:i<vs.size:=by simpa using s
   simp[u]
end Ab
namespace Ab
open Go
variable{P:Program}
variable{v:Value}
def aaO{P:Program}{s:Sem Value}{w:World}(h:s.run P w = .ok v w):(do pure (Next.value (<-s)):Sem Next).run P w = .ok (.value v) w:=by
 simp only[aW,h,aZ,bw]
def FH{C:Ctx}{H:Array Obj}{x:AV}(h:kM v x=true):VR C H x v:=by
 unfold kM at h;split at h<;>first
  |(simp at h;done)
  |skip
 .simp at h;subst h;unfold VR;rfl
 .rename_i k n j m
  cases a:kh j with
  |none=>simp[a]at h
  |some K=>
   simp[a]at h;obtain⟨rfl,rfl⟩:=h;unfold VR;exact⟨_,a,rfl⟩
 .simp at h;subst h;unfold VR;rfl
 .unfold VR;rfl
 .unfold VR;rfl
 .unfold VR;rfl
 .unfold VR;rfl
 .unfold VR;rfl
 .simp at h
  unfold VR;rw[<-h]
def OE{C:Ctx}{H:Array Obj}:∀{vs:List Value}{xs:List AV},eN vs xs=true->cj C H xs vs
 | [],[],_=>rfl
 |v::vs,x::xs,h=>by
  simp only[eN,aH]at h;exact⟨v,vs,rfl,FH h.1,OE h.2⟩
 | [],_::_,h=>by simp[eN]at h
 |_::_,[],h=>by simp[eN]at h
def mT{C:Ctx}{H:Array Obj}{R:Operand->Rf->Bool}{ρ:Operand->Value}{r:Rf->AV}(a:∀x y,R x y=true->VR C H (r y) (ρ x)) :
  ∀{xs:List Operand} {ys:List Rf},kW R xs ys=true->cj C H (ys.map r) (xs.map ρ)
 | [],[],_=>rfl
 |x::xs,y::ys,h=>by
  simp only[kW,aH]at h;exact⟨ρ x,xs.map ρ,rfl,a _ _ h.1,mT a h.2⟩
 | [],_::_,h=>by simp[kW]at h
 |_::_,[],h=>by simp[kW]at h
def wS{n:Int}(h:kU n=true):IntKind.i64.wrap n=n:=by
 simp only[kU,aH,eo]at h;exact IntWalk.i64_in n ⟨aa,aa⟩
end Ab
namespace Ab
open Go
variable{P:Program}
section plain
variable{ρ:Operand->Value}{r:Rf->AV}{w:World}{C:Ctx}{H:Array Obj}{R:Operand->Rf->Bool}
def Plain (P:Program) (ρ:Operand->Value) (o:Oper) (w:World) (C:Ctx) (H:Array Obj) (x:AV):Prop:=
 ∃v,(execOp ρ o).run P w = .ok (.value v) w/\VR C H x v
variable{x:AV}
def fI{o:Oper}{s:Sem Value}{v:Value}(a:execOp ρ o=(do pure (Next.value (<-s)))) (h:s.run P w = .ok v w) (b:VR C H x v):Plain P ρ o w C H x:=
 ⟨v,by rw[a];exact aaO h,b⟩
def aaP (n:Int):IntKind.i64.wrap n=wr n:=by
 unfold wr;simp only[IntKind.wrap,IntKind.bits,IntKind.signed,Bool.true_and,eo,show(2:Int)^64=18446744073709551616 by decide,show(2:Int)^(64-1)=9223372036854775808 by decide]
 split<;>omega
def aaQ{op:BinOp}{b:AP}{n m:Int}(hb:vL op b=true) (hx:bin b n m=some x) (t:TypeId) :
  ∃v,(binOp op t (.int .i64 n) (.int .i64 m)).run P w = .ok v w/\VR C H x v:=by
 unfold vL at hb;split at hb<;>simp only[bin]at hx
 case h_13=>simp at hb
 all_goals simp only[binOp,ne_eq,not_true_eq_false,eI,Op.intArith,Op.intCmp,Op.intDiv]
 case h_1=>split at hx<;>simp at hx;rename_i h;subst hx;exact⟨_,rfl,by unfold VR;rw[wS h]⟩
 case h_2=>simp at hx;subst hx;exact⟨_,rfl,by unfold VR;rw[aaP]⟩
 case h_3=>split at hx<;>simp at hx;rename_i h;subst hx;exact⟨_,rfl,by unfold VR;rw[wS h]⟩
 case h_4=>split at hx<;>simp at hx;rename_i h;subst hx;exact⟨_,rfl,by unfold VR;rw[wS h]⟩
 case h_5=>
  by_cases h0:m=0
  .simp[h0]at hx
  .simp[h0]at hx;obtain⟨h,rfl⟩:=hx
   simp only[h0,eI];exact⟨_,rfl,by unfold VR;rw[wS h]⟩
 case h_6=>
  by_cases h0:m=0
  .simp[h0]at hx
  .simp[h0]at hx;subst hx
   simp only[h0,eI];exact⟨_,rfl,gB⟩
 all_goals
  simp at hx;subst hx;refine⟨_,rfl,?_⟩;unfold VR
  first|rfl|(simp[bne])
end plain
end Ab
namespace Ab
open Go
variable{P:Program}
def yZ{x:AV}(h:aR x=true):iY x:=by
 refine⟨?_,λl=>?_⟩<;>(intro e;subst e;simp[aR]at h)
section
variable{ρ:Operand->Value}{r:Rf->AV}{w:World}{C:Ctx}{R:Operand->Rf->Bool}{ce:CE}{σ:List al}{nl:Nat}{ps:List cQ}
def rq (b o n:Nat):(⟨b,o,none⟩:Addr).add n=⟨b,o+n,none⟩:=by
 unfold Addr.add;split
 .rename_i h;subst h;rfl
 .rfl
variable{v:Value}
def VR.bt{H:Array Obj}{n:Int}(h:VR C H (.int n) v):v = .int .i64 n:=h
def VR.mu{H:Array Obj}{n:Bool}(h:VR C H (.bool n) v):v = .bool n:=h
variable{o:Oper}{op:BinOp}{t': TypeId}{x:Operand}{x' y': Rf}{z:AV}{p:Option cQ}
def Zd{t: TypeId}{y:Operand}{b:AP}(j:o.op = .binOp op t x y t') (l:vL op b=true)
  (g:VR C w.heap (r x') (ρ x)) (h:VR C w.heap (r y') (ρ y)) (a:ev ce σ nl ps r (.bin b x' y')=some (z,p)):Plain P ρ o w C w.heap z/\p=none:=by
 simp only[ev]at a;cases d : r x' <;>simp only[d]at a<;>try(simp at a;done)
 cases e : r y' <;>simp only[e]at a<;>try(simp at a;done)
 rename_i n m;rw[d]at g;rw[e]at h;have g:=g.bt;have h:=h.bt;cases i:Ab.bin b n m with
 |none=>simp[i]at a
 |some B =>
  simp[i]at a;obtain⟨rfl,rfl⟩:=a;obtain⟨v,q,u⟩:=aaQ (P:=P) (w:=w) (C:=C) (H:=w.heap) l i t;refine⟨fI (s:=do eqGuard op t x y (ρ x) (ρ y);binOp op t (ρ x) (ρ y)) (by simp only[execOp,j]) ?_ u,rfl⟩
  rw[g,h];have A:(eqGuard op t x y (.int .i64 n) (.int .i64 m)).run P w = .ok () w:=by
   unfold eqGuard;split<;>simp
  simp only[aW,A,aZ,q]
def Zg{t: TypeId}{y:Operand}{neg:Bool}(q:o.op = .binOp op t x y t')
  (d:lG op neg=true) (l:(match P.underlying t with|some .bool=>true|_=>false)=true)
  (i:VR C w.heap (r x') (ρ x)) (j:VR C w.heap (r y') (ρ y)) (e:ev ce σ nl ps r (.beq neg x' y')=some (z,p)):Plain P ρ o w C w.heap z/\p=none:=by
 have u:P.underlying t=some .bool:=by
  split at l
  .assumption
  .simp at l
 simp only[ev]at e;cases g : r x' <;>simp only[g]at e<;>try(simp at e;done)
 cases h : r y' <;>simp only[h]at e<;>try(simp at e;done)
 rename_i a b;rw[g]at i;rw[h]at j;have i:=i.mu;have j:=j.mu;simp at e;obtain⟨rfl,rfl⟩:=e;refine⟨fI (s:=do eqGuard op t x y (ρ x) (ρ y);binOp op t (ρ x) (ρ y)) (v:=.bool ((a==b) != neg)) (by simp only[execOp,q]) ?_ gB,rfl⟩
 rw[i,j];have m:(eqGuard op t x y (.bool a) (.bool b)).run P w = .ok () w:=by
  unfold eqGuard;split<;>simp
 have n:(Op.equal t (.bool a) (.bool b)).run P w = .ok (a==b) w:=by
  unfold Op.equal Op.maxDepth Op.equalIn;simp only[aW,run_underlying u,aZ,bw]
 unfold lG at d;split at d
 .simp only[aW,m,aZ,binOp,n,bw]
  simp at d;subst d;simp
 .simp only[aW,m,aZ,binOp,n,bw]
  subst d;simp
 .simp at d
def yG:∀{xs ys:List AV}{b:Bool},fk xs ys=some b->∃e g:List Int,xs=e.map .int/\ys=g.map .int/\e.length=g.length/\b=decide (e=g)
 | [],[],b,h=>by simp[fk]at h;subst h;exact⟨[],[],rfl,rfl,rfl,ab⟩
 |.int a::xs,.int c::ys,b,h=>by
  simp only[fk]at h;cases i:fk xs ys with
  |none=>rw[i]at h;simp at h
  |some d=>
   rw[i]at h;simp at h;obtain⟨e,g,j,l,m,n⟩:=yG i;refine⟨a::e,c::g,by rw[j];rfl,by rw[l];rfl,by simp[m],?_⟩
   rw[<-h,n,mU];simp
def wD{H:Array Obj}:∀{a:List Int}{vs:List Value},cj C H (a.map .int) vs->vs=a.map (Value.int .i64)
 | [],vs,h=>h
 |x::a,vs,h=>by
  obtain⟨v,s,rfl,b,d⟩:=h;rw[wD d,b.bt];rfl
def FE{d:Nat}{a b:List Int}{w:World}(q:a.length=b.length):∀{fs:List Field}{o:Nat},gg P fs o=true->o+fs.length=a.length->
  (Op.eqFields (d+1) (a.map (Value.int .i64)).toArray (b.map (Value.int .i64)).toArray fs).run P w = .ok (decide (a.drop o=b.drop o)) w
 | [],o,_,i=>by
  simp only[Op.eqFields,bw];rw[jY (by simp at i;omega),jY (by simp at i;omega)]
  simp
 |f::fs,o,j,i=>by
  simp only[gg,aH,cT,bne_iff_ne]at j;obtain⟨⟨⟨⟨r,l⟩,s⟩,u⟩,x⟩:=j;have y:P.underlying f.type=some (.int .i64):=by
   split at l
   .assumption
   .simp at l
  simp only[cO]at i;have m:o<a.length:=aa
  have n:o<b.length:=aa
  have p:∀(Z:List Int) (h:o<Z.length),(Go.part f.type (Z.map (Value.int .i64)).toArray f.offset).run P w = .ok (.int .i64 Z[o]) w:=λZ h=>by
   have z:(Z.map (Value.int .i64)).toArray[o]? = some (.int .i64 Z[o]):=by simp[h]
   simp only[Go.part,aW,uq s,uu,aZ,ef,eI,u,z,bw]
  simp only[Op.eqFields,ae r,aW,p a m,p b n,aZ,run_equalIn_int w d f.type .i64 .i64 _ _ y];have A:=FE (d:=d) (w:=w) q x aa
  have g:(a.drop o=b.drop o)↔(a[o]=b[o]/\a.drop (o+1)=b.drop (o+1)):=by
   rw[qj m,qj n,List.cons.injEq]
  by_cases e:a[o]=b[o]
  .have hd:decide (a.drop (o+1)=b.drop (o+1))=decide (a.drop o=b.drop o):=by
    rw[mU,decide_eq_true_iff,decide_eq_true_iff,g];exact⟨λh=>⟨e,h⟩,λh=>h.2⟩
   have B:(a[o]==b[o])=true:=gC
   simp only[B,Bool.not_true,ef,eI,A,hd]
  .have C : (a[o]==b[o])=false:=by simpa using e
   have hd:decide (a.drop o=b.drop o)=false:=oq λh=>e (g.1 h).1;simp only[C, Bool.not_false,dD,bw,hd]
variable{n:Nat}
def Ze{t: TypeId}{y:Operand}{neg:Bool}(ho:o.op = .binOp op t x y t')
  (fF:lG op neg=true) (ht:yX P t n=true)
  (hx:VR C w.heap (r x') (ρ x)) (hy:VR C w.heap (r y') (ρ y)) (he:ev ce σ nl ps r (.seq neg n x' y')=some (z,p)):Plain P ρ o w C w.heap z/\p=none:=by
 unfold yX at ht;simp only[aH,Bool.not_eq_true']at ht;obtain⟨⟨BQ,ht2⟩,ht3⟩:=ht;split at BQ
 case h_2=>simp at BQ
 rename_i fs hu;simp only[aH,cT]at BQ;obtain⟨hn,hi⟩:=BQ;simp only[ev]at he;cases kT : r x' <;>simp only[kT]at he<;>try(simp at he;done)
 cases ud : r y' <;>simp only[ud]at he<;>try(simp at he;done)
 rename_i xs ys;rw[kT]at hx;rw[ud]at hy;split at he
 case isFalse=>simp at he
 rename_i Xu;cases hb:fk xs ys with
 |none=>rw[hb]at he;simp at he
 |some b=>
  rw[hb]at he;simp at he;obtain⟨rfl,rfl⟩:=he;obtain⟨Xs,Ys,rfl,rfl,hl,rfl⟩:=yG hb;obtain⟨vs,ex,qV,_⟩:=hx;obtain⟨us,ey,AT,_⟩:=hy;rw[wD qV]at ex;rw[wD AT]at ey;have OF:P.fieldsOf t=fs:=by unfold Program.fieldsOf;rw[hu]
  have Mh:Xs.length=n:=by simpa using Xu
  refine⟨fI (s:=do eqGuard op t x y (ρ x) (ρ y);binOp op t (ρ x) (ρ y)) (v:=.bool ((decide (Xs=Ys)) != neg)) lF ?_ gB,rfl⟩
  rw[ex,ey];have hg:=run_eqGuard_agg w op t x y (Xs.map (Value.int .i64)).toArray (Ys.map (Value.int .i64)).toArray ht3;have hq:(Op.equalIn 10000 t (.agg (Xs.map (Value.int .i64)).toArray) (.agg (Ys.map (Value.int .i64)).toArray)).run P w = .ok (decide (Xs=Ys)) w:=by
   rw[show(10000:Nat)=9999+1 from rfl,run_equalIn_struct w 9999 t _ _ (by rw[OF];exact hu) ht2,OF]
   have:=FE (P:=P) (d:=9998) (w:=w) hl (fs:=fs.toList) (o:=0) hi (by simp[Mh,hn])
   simpa using this
  unfold lG at fF;split at fF
  .simp only[aW,hg,aZ,run_eql_struct,hq]
   simp at fF;subst fF;simp
  .simp only[aW,hg,aZ,run_neq_struct,hq]
   subst fF;simp
  .simp at fF
def strVal (s:List UInt8):Value:=.string ⟨s.toArray⟩
def OG:∀{xs ys:List AV}{b:Bool},iO xs ys=some b->∃e g:List (List UInt8),xs=e.map .str/\ys=g.map .str/\e.length=g.length/\b=decide (e=g)
 | [],[],b,h=>by simp[iO]at h;subst h;exact⟨[],[],rfl,rfl,rfl,ab⟩
 |.str a::xs,.str c::ys,b,h=>by
  simp only[iO]at h;cases i:iO xs ys with
  |none=>rw[i]at h;simp at h
  |some d=>
   rw[i]at h;simp at h;obtain⟨e,g,j,l,m,n⟩:=OG i;refine⟨a::e,c::g,by rw[j];rfl,by rw[l];rfl,by simp[m],?_⟩
   rw[<-h,n,mU];simp
def Gq{H:Array Obj}:∀{a:List (List UInt8)}{vs:List Value},cj C H (a.map .str) vs->vs=a.map strVal
 | [],vs,h=>h
 |x::a,vs,h=>by
  obtain⟨v,s,rfl,b,d⟩:=h;unfold VR at b;rw[Gq d,b];rfl
def OH{d:Nat}{a b:List (List UInt8)}{w:World}(r:a.length=b.length):∀{fs:List Field}{o:Nat},kN P fs o=true->o+fs.length=a.length->
  (Op.eqFields (d+1) (a.map strVal).toArray (b.map strVal).toArray fs).run P w = .ok (decide (a.drop o=b.drop o)) w
 | [],o,_,i=>by
  simp only[Op.eqFields,bw];rw[jY (by simp at i;omega),jY (by simp at i;omega)]
  simp
 |f::fs,o,j,i=>by
  simp only[kN,aH,cT,bne_iff_ne]at j;obtain⟨⟨⟨⟨u,l⟩,x⟩,y⟩,z⟩:=j;have A:P.underlying f.type=some .string:=by
   split at l
   .assumption
   .simp at l
  simp only[cO]at i;have m:o<a.length:=aa
  have n:o<b.length:=aa
  have p:∀(Z:List (List UInt8)) (h:o<Z.length),(Go.part f.type (Z.map strVal).toArray f.offset).run P w = .ok (.string ⟨Z[o].toArray⟩) w:=λZ h=>by
   have B:(Z.map strVal).toArray[o]? = some (.string ⟨Z[o].toArray⟩):=by simp[h,strVal]
   simp only[Go.part,aW,uq x,uu,aZ,ef,eI,y,B,bw]
  simp only[Op.eqFields,ae u,aW,p a m,p b n,aZ,run_equalIn_string w d f.type _ _ A];have C:=OH (d:=d) (w:=w) r z aa
  have g:(a.drop o=b.drop o)↔(a[o]=b[o]/\a.drop (o+1)=b.drop (o+1)):=by
   rw[qj m,qj n,List.cons.injEq]
  have q:∀s:List UInt8,ByteArray.toList ⟨s.toArray⟩=s:=λs=>by rw[ByteArray.toList_eq]
  rw[q,q]
  by_cases e:a[o]=b[o]
  .have hd:decide (a.drop (o+1)=b.drop (o+1))=decide (a.drop o=b.drop o):=by
    rw[mU,decide_eq_true_iff,decide_eq_true_iff,g];exact⟨λh=>⟨e,h⟩,λh=>h.2⟩
   have D:(a[o]==b[o])=true:=gC
   simp only[D,Bool.not_true,ef,eI,C,hd]
  .have E : (a[o]==b[o])=false:=by simpa using e
   have hd:decide (a.drop o=b.drop o)=false:=oq λh=>e (g.1 h).1;simp only[E, Bool.not_false,dD,bw,hd]
def Zz{t: TypeId}{y:Operand}{neg:Bool}(ho:o.op = .binOp op t x y t')
  (fF:lG op neg=true) (ht:yY P t n=true)
  (hx:VR C w.heap (r x') (ρ x)) (hy:VR C w.heap (r y') (ρ y)) (he:ev ce σ nl ps r (.Mp neg n x' y')=some (z,p)):Plain P ρ o w C w.heap z/\p=none:=by
 unfold yY at ht;simp only[aH,Bool.not_eq_true']at ht;obtain⟨⟨BQ,ht2⟩,ht3⟩:=ht;split at BQ
 case h_2=>simp at BQ
 rename_i fs hu;simp only[aH,cT]at BQ;obtain⟨hn,hi⟩:=BQ;simp only[ev]at he;cases kT : r x' <;>simp only[kT]at he<;>try(simp at he;done)
 cases ud : r y' <;>simp only[ud]at he<;>try(simp at he;done)
 rename_i xs ys;rw[kT]at hx;rw[ud]at hy;split at he
 case isFalse=>simp at he
 rename_i Xu;cases hb:iO xs ys with
 |none=>rw[hb]at he;simp at he
 |some b=>
  rw[hb]at he;simp at he;obtain⟨rfl,rfl⟩:=he;obtain⟨Xs,Ys,rfl,rfl,hl,rfl⟩:=OG hb;obtain⟨vs,ex,qV,_⟩:=hx;obtain⟨us,ey,AT,_⟩:=hy;rw[Gq qV]at ex;rw[Gq AT]at ey;have OF:P.fieldsOf t=fs:=by unfold Program.fieldsOf;rw[hu]
  have Mh:Xs.length=n:=by simpa using Xu
  refine⟨fI (s:=do eqGuard op t x y (ρ x) (ρ y);binOp op t (ρ x) (ρ y)) (v:=.bool ((decide (Xs=Ys)) != neg)) lF ?_ gB,rfl⟩
  rw[ex,ey];have hg:=run_eqGuard_agg w op t x y (Xs.map strVal).toArray (Ys.map strVal).toArray ht3;have hq:(Op.equalIn 10000 t (.agg (Xs.map strVal).toArray) (.agg (Ys.map strVal).toArray)).run P w = .ok (decide (Xs=Ys)) w:=by
   rw[show(10000:Nat)=9999+1 from rfl,run_equalIn_struct w 9999 t _ _ (by rw[OF];exact hu) ht2,OF]
   have:=OH (P:=P) (d:=9998) (w:=w) hl (fs:=fs.toList) (o:=0) hi (by simp[Mh,hn])
   simpa using this
  unfold lG at fF;split at fF
  .simp only[aW,hg,aZ,run_eql_struct,hq]
   simp at fF;subst fF;simp
  .simp only[aW,hg,aZ,run_neq_struct,hq]
   subst fF;simp
  .simp at fF
variable{a:Act}
def Fu(h:kg x=true) (b:ρ=a.eval):ρ x = .slice none 0 0:=by
 unfold kg at h;split at h
 .subst b;rfl
 .simp at h
def OI{neg:Bool}(i:∀b u B,C.lim b u->upto σ b u=some B->∃id,C.own b u=some (B,id))
  (e:VR C w.heap (r x') v) (d:ev ce σ nl ps r (.oy neg x')=some (z,p)):p=none/\∃n:Bool,z = .bool (n != neg)/\((n=true/\v = .slice none 0 0)\/(n=false/\∃a l c,v = .slice (some a) l c)):=by
 simp only[ev]at d;cases g : r x' <;>simp only[g]at d<;>try(simp at d;done)
 .simp at d;obtain⟨rfl,rfl⟩:=d
  rw[g]at e;exact⟨rfl,true,by cases neg<;>rfl,.inl ⟨rfl,e⟩⟩
 .rename_i m l
  have key:(z = .bool neg/\p=none)/\(m=true\/l ≠ []):=by
   cases m
   .cases l with
    |nil=>simp at d
    |cons a b=>simp at d;exact⟨⟨d.1.symm,d.2.symm⟩,.inr ab⟩
   .simp at d;exact⟨⟨d.1.symm,d.2.symm⟩,.inl rfl⟩
  obtain⟨⟨rfl,rfl⟩,x⟩:=key;rw[g]at e;unfold VR at e;refine⟨rfl,false,by cases neg<;>rfl,.inr ⟨rfl,?_⟩⟩
  rcases e.2 with⟨y,a,rfl,A⟩|⟨aq,off,cap,st,c,el,E,rfl,_⟩
  .rcases x with h|h
   .obtain⟨q,rfl⟩:=ru.1 (A h);exact⟨_,_,_,rfl⟩
   .exact absurd y h
  .exact⟨_,_,_,rfl⟩
 .rename_i b u off len
  cases j:upto σ b u with
  |none=>simp[j]at d
  |some B=>
   cases s:B.st<;>simp[j,s]at d;obtain⟨rfl,rfl⟩:=d;rw[g]at e;obtain⟨id,D⟩:=i b u B (Bt e) j;unfold VR at e;have:=e.2.2 B id D;simp only[s]at this;obtain⟨c,el,o,cap,_,rfl,_⟩:=this;exact⟨rfl,false,by cases neg<;>rfl,.inr ⟨rfl,_,_,_,rfl⟩⟩
def NF{t: TypeId}{y:Operand}{neg:Bool}{A : Rf}(H:o.op = .binOp op t x y t') (j:ρ=a.eval)
  (d:lG op neg=true) (I:(aT P t).isSome=true) (m:∀b u B,C.lim b u->upto σ b u=some B->∃id,C.own b u=some (B,id))
  (q:(kg y=true/\VR C w.heap (r A) (ρ x))\/(kg x=true/\VR C w.heap (r A) (ρ y))) (G:ev ce σ nl ps r (.oy neg A)=some (z,p)):Plain P ρ o w C w.heap z/\p=none:=by
 obtain⟨e,D⟩:=ru.1 I;have J:=mN D w;have main:∀g i:Value,ρ x=g->ρ y=i->(∃n:Bool,z = .bool (n != neg)/\((g = .slice none 0 0/\((n=true/\i = .slice none 0 0)\/(n=false/\∃a l c,i = .slice (some a) l c)))\/
   (i = .slice none 0 0/\((n=true/\g = .slice none 0 0)\/(n=false/\∃a l c,g = .slice (some a) l c)))))->Plain P ρ o w C w.heap z:=by
  rintro g i K L ⟨n,rfl,h⟩;refine fI (s:=do eqGuard op t x y (ρ x) (ρ y);binOp op t (ρ x) (ρ y)) (v:=.bool (n != neg)) (by simp only[execOp,H]) ?_ gB
  rw[K,L];have M:(eqGuard op t x y g i).run P w = .ok () w:=by
   unfold eqGuard;rcases h with⟨rfl,⟨_,rfl⟩|⟨_,_,_,_,rfl⟩⟩|⟨rfl,⟨_,rfl⟩|⟨_,_,_,_,rfl⟩⟩<;>split<;>simp
  have N:(Op.equal t g i).run P w = .ok n w:=by
   unfold Op.equal Op.maxDepth Op.equalIn;rcases h with⟨rfl,⟨rfl,rfl⟩|⟨rfl,_,_,_,rfl⟩⟩|⟨rfl,⟨rfl,rfl⟩|⟨rfl,_,_,_,rfl⟩⟩<;>simp[aW,J,aZ,bw]
  have O:op = .eql/\neg=false\/op = .neq/\neg=true:=by
   unfold lG at d;split at d
   .simp at d;exact .inl ⟨rfl,d⟩
   .exact .inr ⟨rfl,d⟩
   .simp at d
  rcases O with⟨rfl,rfl⟩|⟨rfl,rfl⟩ <;>
   rcases h with⟨rfl,⟨rfl,rfl⟩|⟨rfl,_,_,_,rfl⟩⟩|⟨rfl,⟨rfl,rfl⟩|⟨rfl,_,_,_,rfl⟩⟩ <;>
   simp[aW,M,aZ,binOp,N,bw]
 rcases q with⟨E,q⟩|⟨E,q⟩
 .obtain⟨rfl,n,F,h⟩:=OI m q G
  exact⟨main _ _ rfl rfl ⟨n,F,.inr ⟨Fu E j,h⟩⟩,rfl⟩
 .obtain⟨rfl,n,F,h⟩:=OI m q G
  exact⟨main _ _ rfl rfl ⟨n,F,.inl ⟨Fu E j,h⟩⟩,rfl⟩
variable{t:TypeId}{y:Rf}
def Zh(g:o.op = .unOp .not t x)
  (e:VR C w.heap (r y) (ρ x)) (a:ev ce σ nl ps r (.not y)=some (z,p)):Plain P ρ o w C w.heap z/\p=none:=by
 simp only[ev]at a;cases d : r y<;>simp only[d]at a<;>try(simp at a;done)
 rename_i b;rw[d]at e;simp at a;obtain⟨rfl,rfl⟩:=a;refine⟨fI (s:=Op.unary .not (ρ x)) (v:=.bool !b) (by simp only[execOp,g]) ?_ gB,rfl⟩
 rw[e.mu];rfl
def Zi(e:o.op = .unOp .neg t x)
  (d:VR C w.heap (r y) (ρ x)) (g:r (.c (.int 0)) = .int 0) (a:ev ce σ nl ps r (.bin .sub (.c (.int 0)) y)=some (z,p)):Plain P ρ o w C w.heap z/\p=none:=by
 simp only[ev,g]at a;cases b : r y<;>simp only[b]at a<;>try(simp at a;done)
 rename_i n;rw[b]at d;simp only[bin]at a;split at a<;>simp at a
 rename_i h;obtain⟨rfl,rfl⟩:=a;refine⟨fI (s:=Op.unary .neg (ρ x)) (v:=.int .i64 (0-n)) (by simp only[execOp,e]) ?_ (by unfold VR;simp),rfl⟩
 rw[d.bt];simp only[Op.unary,Op.intArith,bw,wS h]
def Zj{c a b:Operand}{c' h i : Rf}(j:o.op = .pick c a b)
  (d:VR C w.heap (r c') (ρ c)) (l:VR C w.heap (r h) (ρ a)) (m:VR C w.heap (r i) (ρ b)) (e:ev ce σ nl ps r (.pick c' h i)=some (z,p)):Plain P ρ o w C w.heap z/\p=none:=by
 simp only[ev]at e;cases g : r c' <;>simp only[g]at e<;>try(simp at e;done)
 rename_i q;rw[g]at d;have d:=d.mu;cases q<;>simp at e<;>obtain⟨rfl,rfl⟩:=e
 .exact⟨⟨ρ b,by simp only[execOp,j,d,asBool,aW,aZ,bw];simp,m⟩,rfl⟩
 .exact⟨⟨ρ a,by simp only[execOp,j,d,asBool,aW,aZ,bw];simp,l⟩,rfl⟩
def Gr{H:Array Obj}{x:AV}(d:VR C H x v) (h:x = .ag/\n=0\/(∃e l,x = .aF e l/\n=l.length)\/(∃b u o,x = .sl b u o n)):∃a c,v = .slice a n c:=by
 rcases h with⟨rfl,rfl⟩|⟨e,l,rfl,rfl⟩|⟨b,u,o,rfl⟩
 .exact⟨_,_,d⟩
 .unfold VR at d
  rcases d.2 with⟨rfl,_,h,_⟩|⟨_,_,_,_,_,_,_,h,_⟩
  .exact⟨_,_,h⟩
  .exact⟨_,_,h⟩
 .unfold VR at d
  obtain⟨⟨a,c,h,_⟩,_⟩:=d;exact⟨a,c,h⟩
variable{ca:Call}
def Zk(A:o.op = .call ca) (B:ca.callee = .builtin .len) (D:ca.args.toList=[x]) (j:ca.argTypes.toList=[t])
  (E:(aT P t).isSome=true) (h:VR C w.heap (r y) (ρ x)) (d:ev ce σ nl ps r (.len y)=some (z,p)):Plain P ρ o w C w.heap z/\p=none:=by
 obtain⟨e,m⟩:=ru.1 E;have F:=mN m w;have key:∃n:Nat,z = .int n/\p=none/\∃a c,ρ x = .slice a n c:=by
  simp only[ev]at d;cases g : r y<;>simp only[g]at d<;>try(simp at d;done)
  .simp at d;obtain⟨rfl,rfl⟩:=d
   exact⟨0,rfl,rfl,Gr (x:=.ag) (by rw[<-g];exact h) (.inl ⟨rfl,rfl⟩)⟩
  .simp at d;obtain⟨rfl,rfl⟩:=d
   rw[g]at h;unfold VR at h;obtain⟨G,h⟩:=h;exact⟨0,rfl,rfl,G,0,h⟩
  .rename_i s l
   simp at d;obtain⟨rfl,rfl⟩:=d;exact⟨l.length,rfl,rfl,Gr (x:=.aF s l) (by rw[<-g];exact h) (.inr (.inl ⟨s,l,rfl,rfl⟩))⟩
  .rename_i b u off n
   simp at d;obtain⟨rfl,rfl⟩:=d;exact⟨n,rfl,rfl,Gr (x:=.sl b u off n) (by rw[<-g];exact h) (.inr (.inr ⟨b,u,off,rfl⟩))⟩
 obtain⟨n,rfl,rfl,a,c,H⟩:=key;have q : ca.args = #[x]:=by rw[<-Array.toList_inj];simpa using D
 have i : ca.argTypes = #[t]:=by rw[<-Array.toList_inj];simpa using j
 refine⟨⟨.int .i64 n,?_,gB⟩,rfl⟩
 simp only[execOp,A,resolve,B,q, i, aW,bw,aZ,invoke,builtin,Builtin.len_];simp[H,aW,F,goInt]
def Er{y:Operand}{m:Bool}(l:o.op = .call ca) (n:ca.callee = .builtin (if m then .max else .min)) (q:ca.args.toList=[x,y])
  (e:VR C w.heap (r x') (ρ x)) (g:VR C w.heap (r y') (ρ y)) (d:ev ce σ nl ps r (.mx m x' y')=some (z,p)):Plain P ρ o w C w.heap z/\p=none:=by
 simp only[ev]at d;cases h : r x' <;>simp only[h]at d<;>try(simp at d;done)
 cases i : r y' <;>simp only[i]at d<;>try(simp at d;done)
 rename_i a b;rw[h]at e;rw[i]at g;have e:=e.bt;have g:=g.bt;simp at d;obtain⟨rfl,rfl⟩:=d;have j : ca.args = #[x,y]:=by rw[<-Array.toList_inj];simpa using q
 refine⟨⟨.int .i64 (if m then(if a<b then b else a)else(if b<a then b else a)),?_,by unfold VR;cases m<;>rfl⟩,rfl⟩
 cases m
 .simp only[execOp,l,resolve,n,j, aW,bw,aZ,invoke,builtin,Builtin.min_]
  simp[e,g,Builtin.min2]
 .simp only[execOp,l,resolve,n,j, aW,bw,aZ,invoke,builtin,Builtin.max_]
  simp[e,g,Builtin.max2]
def BR{H:Array Obj}{x:AV}(h:VR C H (.a8 x) v) :
  aR x=true/\∃aq off c el a y,v = .pointer (some ⟨aq,off,none⟩)/\C.I aq/\H[aq]? = some (.cells c el a)/\VR C H x y/\∀j,j<y.cells.size->c[off+j]? = y.cells[j]?:=by
 unfold VR at h;exact h
variable{off:Nat}{k:Option Nat}
def aaR{cs:List AV}{x:AV}(h:aC cs=true) (d:part cs off k=some x):aR x=true:=by
 have b:∀y∈cs,aR y=true:=by
  clear d
  induction cs with
  |nil=>simp
  |cons a r g=>
   simp only[aC,aH]at h;intro y e;rcases b5.1 e with rfl|e
   .exact h.1
   .exact g h.2 y e
 cases k with
 |none=>simp only[part,wR]at d;exact b x (sA d)
 |some n=>
  simp only[part]at d;split at d<;>simp at d
  subst d;simp only[aR];exact Bk λy e=>b y (List.mem_of_mem_drop (List.mem_of_mem_take e))
def aaS{x:AV}(h:aR x=true):aC x.cells=true:=by
 cases x<;>simp_all [AV.cells,aR,aC]
def OJ{H:Array Obj}{x y:AV}{aq:Nat}{c:Array Value}{el:TypeId}{e:Nat×Nat}{val:Value}{d:Nat}(b:aR x=true) (h:C.I aq) (i:H[aq]? = some (.cells c el e))
  (g:VR C H x val) (l:∀j,j<val.cells.size->c[off+j]? = val.cells[j]?) (a:part x.cells d k=some y) :
  VR C H (.a8 y) (.pointer (some ⟨aq,off+d,none⟩)):=by
 obtain⟨v,m,r,o,_⟩:=aaN (yZ b) g a;have p:=VR.size (yZ b) g;have hle:d+aM k<=val.cells.size:=by
  rw[p];cases k with
  |none=>
   simp only[part,wR]at a;have:=(dC.1 a).1;simp[aM];omega
  |some n=>
   simp only[part]at a;split at a<;>simp at a
   simp[aM];omega
 unfold VR;refine⟨aaR (aaS b) a,aq,off+d,c,el,e,v,rfl,h,i,m,λj q =>?_⟩;rw[<-o j aa,<-l (d+j) aa,Nat.add_assoc]
variable{s:TypeId}{f:Nat}
def Zl{fs:Array Field}{l:Field}(A:o.op = .fieldAddr s x f)
  (F:P.underlying s=some (.struct fs)) (G:fs[f]? = some l) (i:l.offset=off) (D:bF P l.type k=true) (E:cD P l.type 0=false)
  (j:VR C w.heap (r y) (ρ x)) (a:ev ce σ nl ps r (.cV y off k)=some (z,p)):Plain P ρ o w C w.heap z/\p=none:=by
 have m:aM k ≠ 0:=by
  intro h;have:=nZ D;rw[h]at this;rw[this]at E;simp at E
 have d:∀aq b,ρ x = .pointer (some ⟨aq,b,none⟩)->(Instr.fieldAt s (ρ x) f).run P w = .ok (.pointer (some ⟨aq,b+off,none⟩)) w:=λaq b e=>by
  rw[e];simp only[Instr.fieldAt,aW,run_underlying F,aZ,G,Instr.sureAddr,bw,fieldPlace,lu (nZ D),ad m,i,rq]
 simp only[ev]at a;cases g : r y<;>simp only[g]at a<;>try(simp at a;done)
 .rename_i q
  rw[g]at j;cases n:part q.cells off k with
  |none=>simp[n]at a
  |some S =>
   simp[n]at a;obtain⟨rfl,rfl⟩:=a;obtain⟨H,aq,b,c,el,T,val,e,I,J,K,L⟩:=BR j;exact⟨fI (s:=Instr.fieldAt s (ρ x) f) (by simp only[execOp,A]) (d aq b e) (OJ H I J K L n),rfl⟩
 .rename_i b u M
  simp at a;obtain⟨rfl,rfl⟩:=a;rw[g]at j;unfold VR at j;obtain⟨⟨aq,e⟩,N,O⟩:=j;refine⟨fI (s:=Instr.fieldAt s (ρ x) f) (by simp only[execOp,A]) (d aq M e) ?_,rfl⟩
  unfold VR;refine⟨⟨aq,rfl⟩,N,λB id Q R=>?_⟩;have:=O B id Q R;rw[e]at this;simp at this;rw[this]
variable{i:Nat}
def aaT{H:Array Obj}{l:List AV}{n:Bool}(h:VR C H (.aF n l) v){x:AV}(b:l[i]? = some x) :
  aR x=true/\∃aq off cap st c el d val,v = .slice (some ⟨aq,off,none⟩) l.length cap/\C.I aq/\H[aq]? = some (.cells c el d)/\VR C H x val/\val.cells.size=st/\∀j,j<st->c[off+i*st+j]? = val.cells[j]?:=by
 unfold VR at h;obtain⟨o,h⟩:=h;have g:aR x=true:=by
  have:∀{l:List AV},aC l=true->∀y∈l,aR y=true:=by
   intro l
   induction l with
   |nil=>simp
   |cons a r p=>
    intro h y m;simp only[aC,aH]at h;rcases b5.1 m with rfl|m
    .exact h.1
    .exact p h.2 y m
  exact this o x (sA b)
 rcases h with⟨rfl,_⟩|⟨aq,off,cap,st,c,el,d,e,_,q,s,u⟩
 .simp at b
 .obtain⟨val,w,z,A⟩:=u.get i x b
  exact⟨g,aq,off,cap,st,c,el,d,val,e,q,s,w,z,A⟩
variable{e:TypeId}{i': Rf}
def Zm{i:Operand}{st:Nat}(N:o.op = .indexAddr t x i)
  (R:aT P t=some e) (K:cD P e st=true)
  (D:VR C w.heap (r x') (ρ x)) (h:VR C w.heap (r i') (ρ i)) (d:ev ce σ nl ps r (.bu x' i' st)=some (z,p)):Plain P ρ o w C w.heap z/\p=none:=by
 have m:∀aq off len cap (n:Int),ρ x = .slice (some ⟨aq,off,none⟩) len cap->ρ i = .int .i64 n->0<=n->n<len->(Instr.indexAt t (ρ x) (ρ i)).run P w = .ok (.pointer (some ⟨aq,off+n.toNat*st,none⟩)) w:=λaq off len cap n A E L S=>by
  rw[A,E];simp only[Instr.indexAt,aW,asIntOf,bw,aZ,mN R];simp only[L,S,and_self,dD,aW,lu K,aZ,bw,rq]
 simp only[ev]at d;cases q : r x' <;>simp only[q]at d<;>try(simp at d;done)
 .rename_i nn l
  cases g : r i' <;>simp only[g]at d<;>try(simp at d;done)
  rename_i n;rw[g]at h;have h:=h.bt;split at d<;>try(simp at d;done)
  rename_i I;rw[wR]at d;cases J:l[n.toNat]? with
  |none=>simp[J]at d
  |some y=>
   simp[J]at d;obtain⟨M,rfl,rfl⟩:=d;rw[q]at D;obtain⟨F,aq,off,cap,G, c,el,T,val,A,U,V,O,W,X⟩:=aaT D J;have Y:=(dC.1 J).1;have H : G = st:=by rw[<-W,VR.size (yZ F) O,M]
   subst H;refine⟨fI (s:=Instr.indexAt t (ρ x) (ρ i)) (by simp only[execOp,N]) (m aq off l.length cap n A h I aa) ?_,rfl⟩
   unfold VR;exact⟨F,aq,off+n.toNat*G, c,el,T,val,rfl,U,V,O,λj Z =>X j aa⟩
 .rename_i b u off len
  cases g : r i' <;>simp only[g]at d<;>try(simp at d;done)
  rename_i n;rw[g]at h;have h:=h.bt;split at d<;>simp at d
  rename_i I;obtain⟨rfl,rfl⟩:=d;rw[q]at D;unfold VR at D;obtain⟨⟨a,cap,A,hc,ha⟩,L,h3⟩:=D;obtain⟨aq,rfl⟩:=ha aa
  refine⟨fI (s:=Instr.indexAt t (ρ x) (ρ i)) (by simp only[execOp,N]) (m aq off len cap n A h I.1 I.2) ?_,rfl⟩
  unfold VR;refine⟨⟨aq,rfl⟩,L,λB id hB hl=>?_⟩;have:=h3 B id hB;simp only[hl]at this;obtain⟨c,el,o', Q, _,E,_⟩:=this;rw[A]at E;simp at E;rw[E.1.1]
def Zo(i:o.op = .nilCheck x) (h:VR C w.heap (r y) (ρ x)) (d:ev ce σ nl ps r (.o9 y)=some (z,p)):Plain P ρ o w C w.heap z/\p=none:=by
 have key:z=r y/\p=none/\∃a,ρ x = .pointer (some a):=by
  simp only[ev]at d;cases g : r y<;>simp only[g]at d<;>try(simp at d;done)
  .simp at d
   rw[g]at h;obtain⟨_,aq,b,c,el,j,val,e,_⟩:=BR h;exact⟨d.1.symm,d.2.symm,_,e⟩
  .simp at d
   rw[g]at h;unfold VR at h;obtain⟨⟨aq,e⟩,_⟩:=h;exact⟨d.1.symm,d.2.symm,_,e⟩
 obtain⟨rfl,rfl,a,e⟩:=key;exact⟨⟨ρ x,by simp only[execOp,i,e,bw],h⟩,rfl⟩
def Zq(h:o.op = .extract x i) (d:VR C w.heap (r y) (ρ x)) (a:ev ce σ nl ps r (.ext y i)=some (z,p)):Plain P ρ o w C w.heap z/\p=none:=by
 simp only[ev]at a;cases b : r y<;>simp only[b]at a<;>try(simp at a;done)
 rename_i l;rw[wR]at a;cases g:l[i]? with
 |none=>simp[g]at a
 |some q=>
  simp[g]at a;obtain⟨rfl,rfl⟩:=a;rw[b]at d;unfold VR at d;obtain⟨u,e,j⟩:=d;obtain⟨v,m,n⟩:=j.get i q g;refine⟨fI (s:=Instr.extract (ρ x) i) (v:=v) (by simp only[execOp,h]) ?_ n,rfl⟩
  rw[e];simp[Instr.extract,m]
def Zr{fst a:Array Operand}{ys:List Rf}(d:o.op = .makeFunc (.func f) fst a) (e:fst.isEmpty=true)
  (g:cj C w.heap (ys.map r) (a.toList.map ρ)) (b:ev ce σ nl ps r (.BG f ys)=some (z,p)):Plain P ρ o w C w.heap z/\p=none:=by
 simp[ev]at b;obtain⟨rfl,rfl⟩:=b;have:fst = #[]:=gC
 refine⟨fI (s:=Instr.makeFunc (.func f) (fst.map ρ) (a.map ρ)) (v:=.func (.func f) #[] (a.toList.map ρ).toArray) (by simp only[execOp,d]) ?_ (by unfold VR;exact⟨_,rfl,g⟩),rfl⟩
 subst this;have:Array.map ρ a=(List.map ρ a.toList).toArray:=rn
 simp[Instr.makeFunc,this]
def Zs{t:Nat}(e:o.op = .makeInterface t x)
  (g:(match P.underlying t with|some (.interface _)=>false|some _=>true|none=>false)=true) (h:VR C w.heap (r y) (ρ x)) (a:ev ce σ nl ps r (.Mm t y)=some (z,p)):Plain P ρ o w C w.heap z/\p=none:=by
 simp[ev]at a;obtain⟨rfl,rfl⟩:=a;refine⟨fI (s:=Instr.makeInterface t (ρ x)) (v:=.iface t (ρ x)) (by simp only[execOp,e]) ?_ (by unfold VR;exact⟨_,rfl,h⟩),rfl⟩
 cases b:P.underlying t with
 |none=>simp[b]at g
 |some d=>
  simp only[Instr.makeInterface,aW,run_underlying b,aZ];cases d<;>simp_all
def Zt{d:TypeId}(m:o.op = .convert s d x)
  (l:(match P.underlying s,P.underlying d with|some (.int _),some (.int .i64)=>true|_,_=>false)=true) (g:VR C w.heap (r y) (ρ x)) (a:ev ce σ nl ps r (.Et y)=some (z,p)):Plain P ρ o w C w.heap z/\p=none:=by
 have q:∃k,P.underlying s=some (.int k)/\P.underlying d=some (.int .i64):=by
  split at l
  .rename_i k u A;exact⟨k,u,A⟩
  .simp at l
 obtain⟨k,i,j⟩:=q;have main:∀K n,ρ x = .int K n->kU n=true->z = .int n->p=none->Plain P ρ o w C w.heap z/\p=none:=by
  intro K n e h B D;subst B D;refine⟨fI (s:=Go.convert s d (ρ x)) (v:=.int .i64 n) (by simp only[execOp,m]) ?_ gB,rfl⟩
  rw[e];simp only[Go.convert,aW,run_underlying i,run_underlying j,aZ,Conv.intToInt,bw,wS h]
 simp only[ev]at a;cases b : r y<;>simp only[b]at a<;>try(simp at a;done)
 .rename_i n
  rw[b]at g;split at a<;>simp at a
  rename_i h;exact main _ n g.bt h a.1.symm a.2.symm
 .rename_i E n
  rw[b]at g;split at a<;>simp at a
  rename_i h;unfold VR at g;obtain⟨K,_,e⟩:=g;exact main K n e h a.1.symm a.2.symm
def Zn{i:Operand}(G:o.op = .indexAddr t x i)
  (H:P.underlying t=some (.array n e)) (I:bF P e k=true)
  (y:VR C w.heap (r x') (ρ x)) (g:VR C w.heap (r i') (ρ i)) (a:ev ce σ nl ps r (.fN x' i' n k)=some (z,p)):Plain P ρ o w C w.heap z/\p=none:=by
 have h:∀aq off (j:Int),ρ x = .pointer (some ⟨aq,off,none⟩)->ρ i = .int .i64 j->0<=j->j<n->(Instr.indexAt t (ρ x) (ρ i)).run P w = .ok (.pointer (some ⟨aq,off+j.toNat*aM k,none⟩)) w:=λaq off j m J D K=>by
  rw[m,J];simp only[Instr.indexAt,aW,asIntOf,bw,aZ,run_underlying H,Instr.sureAddr];simp only[D,K,and_self,dD,aW,lu (nZ I),aZ,bw,rq]
 simp only[ev]at a;cases l : r x' <;>simp only[l]at a<;>try(simp at a;done)
 .rename_i q
  cases d : r i' <;>simp only[d]at a<;>try(simp at a;done)
  rename_i j;rw[d]at g;have g:=g.bt;split at a<;>try(simp at a;done)
  rename_i A;cases E:part q.cells (j.toNat*aM k) k with
  |none=>simp[E]at a
  |some U =>
   simp[E]at a;obtain⟨rfl,rfl⟩:=a;rw[l]at y;obtain⟨F,aq,b,c,el,V,val,m,L,M,N,O⟩:=BR y;exact⟨fI (s:=Instr.indexAt t (ρ x) (ρ i)) (by simp only[execOp,G]) (h aq b j m g A.1 A.2) (OJ F L M N O E),rfl⟩
 .rename_i b u Q
  cases d : r i' <;>simp only[d]at a<;>try(simp at a;done)
  rename_i j;rw[d]at g;have g:=g.bt;split at a<;>simp at a
  rename_i A;obtain⟨rfl,rfl⟩:=a;rw[l]at y;unfold VR at y;obtain⟨⟨aq,m⟩,D,R⟩:=y;refine⟨fI (s:=Instr.indexAt t (ρ x) (ρ i)) (by simp only[execOp,G]) (h aq Q j m g A.1 A.2) ?_,rfl⟩
  unfold VR;refine⟨⟨aq,rfl⟩,D,λB id S T=>?_⟩;have:=R B id S T;rw[m]at this;simp at this;rw[this]
def NC(E:o.op = .load t x) (F:bF P t k=true)
  (A:VR C w.heap (r y) (ρ x)) (a:ev ce σ nl ps r (.cW y k)=some (z,p)):Plain P ρ o w C w.heap z/\p=none:=by
 simp only[ev]at a;cases d : r y<;>simp only[d]at a<;>try(simp at a;done)
 rename_i q;rw[d]at A;obtain⟨G,aq,b,c,el,L,val,e,M,H,g,I⟩:=BR A;have B:=yZ G;have N:=VR.size B g;have key:z=q/\p=none/\q.cells.length=aM k/\(k=none->val.cells = #[val])/\(k ≠ none->∃D,val = .agg D):=by
  cases k with
  |none=>
   have i:∀l,q ≠ .agg l:=by intro l e;subst e;simp at a
   refine⟨?_,?_,?_,λ_=>yW (VR.leaf i B g),λh=>absurd rfl h⟩
   .cases q<;>first|exact absurd rfl (i _)|(simp at a;exact a.1.symm)
   .cases q<;>first|exact absurd rfl (i _)|(simp at a;exact a.2.symm)
   .cases q<;>first|exact absurd rfl (i _)|rfl
  |some n=>
   cases q<;>simp at a;obtain⟨J,rfl,rfl⟩:=a;refine⟨rfl,rfl,J,λh=>eX,λ_=>?_⟩
   unfold VR at g;obtain⟨D,e,_⟩:=g;exact⟨_,e⟩
 obtain⟨rfl,rfl,O,m,u⟩:=key;refine⟨fI (s:=Instr.loadAt t (ρ x)) (v:=val) (by simp only[execOp,E]) ?_ g,rfl⟩
 rw[e];simp only[Instr.loadAt,Instr.sureAddr,aW,bw,aZ];exact OD F H aa (λj K =>I j aa) m u
def yF(n:o.op = .load t x) (A:bF P t k=true) (F:Good C w) (l:∀b u B,C.lim b u->upto σ b u=some B->∃id,C.own b u=some (B,id))
  (i:VR C w.heap (r y) (ρ x)) (a:ev ce σ nl ps r (.ld y k)=some (z,p)):Plain P ρ o w C w.heap z/\p=none:=by
 by_cases D:∃q,r y = .a8 q
 .obtain⟨q,G⟩:=D
  refine NC n A i (ce:=ce) (σ:=σ) (nl:=nl) (ps:=ps) ?_;rw[<-a];simp only[ev,G]
 .simp only[ev]at a
  cases d : r y<;>simp only[d]at a<;>try(simp at a;done)
  .exact absurd ⟨_,d⟩ D
  .rename_i b u H
   cases m:upto σ b u with
   |none=>simp[m]at a
   |some B=>
    simp only[m]at a;split at a<;>try(simp at a;done)
    rename_i g;cases h:part B.cells H k with
    |none=>simp[h]at a
    |some q=>
     simp[h]at a;obtain⟨rfl,rfl⟩:=a;rw[d]at i;obtain⟨id,j⟩:=l b u B (aaJ i) m;unfold VR at i;obtain⟨⟨aq,e⟩,_,I⟩:=i;have E:B.st = .live:=by revert g;cases B.st<;>simp[fb.isLive]
     have J:=I B id j E;obtain⟨_,c,el,K,hle,L⟩:=F.live b u B id j E;obtain⟨v,M,N,O,Q,R⟩:=BP L h;refine⟨fI (s:=Instr.loadAt t (ρ x)) (v:=v) (by simp only[execOp,n]) ?_ M,rfl⟩
     rw[J];simp only[Instr.loadAt,Instr.sureAddr,aW,bw,aZ];exact OD A K N O Q R
def sH (cs new:List AV) (off:Nat) (h:off+new.length<=cs.length):(putAt cs off new).length=cs.length/\
  ∀j,(putAt cs off new)[j]? = if off<=j/\j<off+new.length then new[j-off]? else cs[j]?:=by
 unfold putAt;refine⟨ax,λj=>?_⟩
 by_cases a:j<off
 .rw[ad aa,gZ,eJ ax,List.getElem?_take_of_lt a]
 .by_cases b:j<off+new.length
  .rw[ae ⟨aa,b⟩,eJ ax,gA ax]
   simp[ql (by omega:off<=cs.length)]
  .rw[ad aa,gA ax]
   simp[ql (by omega:off<=cs.length)]
   congr 1;omega
def cj.of{H:Array Obj}:∀{l:List AV}{vs:List Value},l.length=vs.length->(∀(i:Nat) x v,l[i]? = some x->vs[i]? = some v->VR C H x v)->cj C H l vs
 | [],[],_,_=>rfl
 | [],_::_,h,_=>by simp at h
 |_::_,[],h,_=>by simp at h
 |x::l,v::vs,h,hv=>⟨v,vs,rfl,hv 0 x v rfl rfl,cj.of cq λi y u h1 h2=>hv (i+1) y u (by simpa using h1) (by simpa using h2)⟩
def Fo (off:Nat):∀(l:List Value) (k:Nat) (cs:Array Value) (i:Nat),off+k+l.length<=cs.size->
  ((l.zipIdx k).foldl (λcs (c,j)=>cs.setIfInBounds (off+j) c) cs).size=cs.size/\
  ((l.zipIdx k).foldl (λcs (c,j)=>cs.setIfInBounds (off+j) c) cs)[i]? = if off+k<=i/\i<off+k+l.length then l[i-(off+k)]? else cs[i]?
 | [],k,cs,i,_=>by simp;omega
 |c::l,k,cs,i,h=>by
  simp only[List.zipIdx_cons,jW];simp only[cO]at h;obtain⟨b,d⟩:=Fo off l (k+1) (cs.setIfInBounds (off+k) c) i ax
  refine⟨by rw[b];simp,?_⟩
  rw[d];simp only[cO]
  by_cases e:i=off+k
  .subst e
   rw[ad aa,ae aa]
   simp[Array.getElem?_setIfInBounds];omega
  .by_cases a:off+(k+1)<=i/\i<off+(k+1)+l.length
   .rw[ae a,ae aa]
    have:i-(off+k)=(i-(off+(k+1)))+1:=aa
    rw[this];simp
   .rw[ad a,ad aa]
    rw[Array.getElem?_setIfInBounds];rw[ad aa]
end
end Ab
namespace Ab
open Go
variable{P:Program}
section
variable{ρ:Operand->Value}{r:Rf->AV}{w:World}{C:Ctx}{R:Operand->Rf->Bool}{ce:CE}{σ:List al}{nl:Nat}{ps:List cQ}
variable{x:AV}
def Bm(h:bg x=true):iY x:=by
 refine⟨?_,λl=>?_⟩<;>(intro e;subst e;simp[bg]at h)
def ib (C:Ctx) (H:Array Obj) (cs:List AV) (c:Array Value):Prop:=
 cs.length=c.size/\∀(i:Nat) x v,cs[i]? = some x->c[i]? = some v->VR C H x v/\v.oneCell' = true
variable{v:Value}
def ib.put{H:Array Obj}{cs:List AV}{c:Array Value}{off:Nat}(h:ib C H cs c) (hu:iY x) (hv:VR C H x v) (hb:off+x.cells.length<=cs.length) :
  ib C H (putAt cs off x.cells) ((v.cells.zipIdx.foldl (λcs (c,j)=>cs.setIfInBounds (off+j) c) c)):=by
 obtain⟨h1,h2⟩:=sH cs x.cells off hb;obtain⟨g1,g2⟩:=VR.cells hu hv;have hs:=VR.size hu hv;have hf:∀i,(v.cells.zipIdx.foldl (λcs (c,j)=>cs.setIfInBounds (off+j) c) c).size=c.size/\(v.cells.zipIdx.foldl (λcs (c,j)=>cs.setIfInBounds (off+j) c) c)[i]? = if off<=i/\i<off+v.cells.size then v.cells[i-off]? else c[i]?:=λi=>by
  have:=Fo off v.cells.toList 0 c i (by rw[<-h.1];simp;omega)
  rw[<-Array.foldl_toList];simp only[Array.toList_zipIdx];simpa using this
 refine⟨by rw[h1,(hf 0).1];exact h.1,λi y u hi y4 =>?_⟩
 rw[h2]at hi;rw[(hf i).2]at y4
 by_cases jx:off<=i/\i<off+x.cells.length
 .rw[ae jx]at hi
  rw[ae aa]at y4
  obtain⟨u', k1,k2⟩:=g1.get (i-off) y hi;rw[ja]at k1;rw[k1]at y4;simp at y4; subst y4;exact⟨k2,g2 _ (by rw[uj];exact Array.mem_of_getElem? k1)⟩
 .rw[ad jx]at hi
  rw[ad aa]at y4
  exact h.2 i y u hi y4
def Gs{H:Array Obj}{place:Nat->Option (Nat×Nat)}(w:∀x y,R x y=true->VR C H (r y) (ρ x)):∀(xs:List (Nat×Operand)) (ys:List (Nat×Nat×Rf)) (cs d : List AV) (c:Array Value),
  gQ R place xs ys=true->ib C H cs c->ia cs (ys.map λp=>(p.1,p.2.1,r p.2.2))=some d ->
  ∃c', Instr.fill place c (xs.map λ(i,x)=>(i,ρ x))=some c' /\ib C H d c'
 | [],[],cs,d, c,_,m,h=>by simp[ia]at h;subst h;exact⟨c,rfl,m⟩
 |(i,x)::xs,(o,n,y)::ys,cs,d, c,l,m,h=>by
  simp only[gQ,aH]at l;obtain⟨⟨g,q⟩,s⟩:=l;have u:place i=some (o,n):=by
   split at g
   .rename_i a b e;simp at g;rw[e,g.1,g.2]
   .simp at g
  simp only[cS,ia]at h;split at h<;>try(simp at h;done)
  rename_i j;simp only[aH,cT,eo]at j;obtain⟨⟨B,F⟩,D⟩:=j;have z:=Bm D;have A:=w _ _ q;have E:=VR.size z A;simp only[cS,Instr.fill,u];rw[ad (by rw[E,B,<-m.1];simp;omega)]
  exact Gs w xs ys _ d _ s (m.put z A aa) h
 | [],_::_,_,_,_,l,_,_=>by simp[gQ]at l
 |(_,_)::_,[],_,_,_,l,_,_=>by simp[gQ]at l
variable{t:TypeId}
def Bo{z:List AV}(h:iG P t z=true) (w:World):∃v,(zeroValue t).run P w = .ok v w/\cj C w.heap z v.cells.toList/\(∀y,y∈v.cells.toList->y.oneCell' = true):=by
 unfold iG at h;cases b:P.info? t with
 |none=>simp[b]at h
 |some i=>
  simp only[b]at h;cases d:i.zero with
  |none=>simp[d]at h
  |some v=>
   simp only[d]at h;refine⟨v,?_,OE h,?_⟩
   .simp only[zeroValue,aW,run_typeInfo w b,aZ,d,bw]
   .have:∀{a:List Value} {xs:List AV},eN a xs=true->∀y∈a,y.oneCell' = true:=by
     intro a
     induction a with
     |nil=>simp
     |cons v a g=>
      intro xs h y e;cases xs with
      |nil=>simp[eN]at h
      |cons x xs=>
       simp only[eN,aH]at h;rcases b5.1 e with rfl|e
       .have:=h.1
        unfold kM at this;split at this<;>first|rfl|(simp at this;done)
       .exact g h.2 y e
    exact this h
def OK{w:World}:∀{fs:List Field}{l:List (Nat×Nat)},placesOf P fs=some l->(fs.mapM λf=>do pure (f.offset,<-Go.sizeOf f.type):Sem (List (Nat×Nat))).run P w = .ok l w
 | [],l,h=>by simp[placesOf]at h;subst h;simp
 |f::r,l,h=>by
  simp only[placesOf]at h;cases a:P.info? f.type with
  |none=>simp[a]at h
  |some i=>
   cases b:placesOf P r with
   |none=>simp[a,b]at h
   |some e =>
    simp[a,b]at h;subst h;have d:(Go.sizeOf f.type).run P w = .ok i.size w:=lu (by simp[cD,a]) w
    simp only[List.mapM_cons,aW,d,aZ,bw,OK b]
variable{o:Oper}{z:AV}{p:Option cQ}
def Zp{xs:Array (Nat×Operand)}{B:List AV}{D:List (Nat×Nat×Rf)}(Q:o.op = .build t xs) (U:iG P t B=true)
  (g:(match P.underlying t with
  |some (.struct fs)=>(match placesOf P fs.toList with|some l=>gQ R (λi=>l[i]?) xs.toList D|none=>false)
  |some (.array _ e)=>(match P.info? e with|some i=>gQ R (λj=>some (j*i.size,i.size)) xs.toList D|none=>false)
  |_=>false)=true)
  (S:∀x y,R x y=true->VR C w.heap (r y) (ρ x)) (F:ev ce σ nl ps r (.iz B D)=some (z,p)):Plain P ρ o w C w.heap z/\p=none:=by
 simp only[ev]at F;cases G:ia B (D.map λp=>(p.1,p.2.1,r p.2.2))with
 |none=>simp[G]at F
 |some l=>
  simp[G]at F;obtain⟨rfl,rfl⟩:=F;obtain⟨v,H,I,V⟩:=Bo (C:=C) U w;have E:ib C w.heap B v.cells:=⟨by have:=cj.length I;simpa using this.symm,λi x u h q=>by
   obtain⟨u', K,W⟩:=I.get i x h;rw[ja,q]at K;simp at K;subst K;exact⟨W,V _ (by rw[uj];exact Array.mem_of_getElem? q)⟩⟩
  have fin:∀b : Array Value,ib C w.heap l b ->VR C w.heap (.agg l) (.agg b):=λb J=>by
   unfold VR;refine⟨b.toList,ab,cj.of (by simp[J.1]) (λi x u H I=>(J.2 i x u H (by simpa using I)).1),λy X=>?_⟩
   obtain⟨i,h⟩:=List.getElem?_of_mem X;have L:i<l.length:=by
    rw[J.1];have:=(dC.1 h).1;simpa using this
   exact(J.2 i l[i] y (by simp[L]) cq).2
  have T:(xs.map λ(i,x)=>(i,ρ x)).toList=xs.toList.map λ(i,x)=>(i,ρ x):=ab
  cases q:P.underlying t with
  |none=>simp[q]at g
  |some d=>
   cases d<;>simp only[q]at g<;>try(simp at g;done)
   .rename_i n e
    cases h:P.info? e with
    |none=>simp[h]at g
    |some i=>
     simp only[h]at g;obtain⟨b, M,N⟩:=Gs S xs.toList D B l v.cells g E G;refine⟨fI (s:=Instr.build t (xs.map λ(i,x)=>(i,ρ x))) (v:=.agg b) (by simp only[execOp,Q]) ?_ (fin b N),rfl⟩
     have Y:(Go.sizeOf e).run P w = .ok i.size w:=lu (by simp[cD,h]) w
     simp only[Instr.build,aW,H,run_underlying q,aZ,Y,T,M,bw]
   .rename_i fs
    cases A:placesOf P fs.toList with
    |none=>simp[A]at g
    |some pl=>
     simp only[A]at g;obtain⟨b, M,N⟩:=Gs S xs.toList D B l v.cells g E G;refine⟨fI (s:=Instr.build t (xs.map λ(i,x)=>(i,ρ x))) (v:=.agg b) (by simp only[execOp,Q]) ?_ (fin b N),rfl⟩
     have O:(fs.mapM λf=>do pure (f.offset,<-Go.sizeOf f.type):Sem (Array (Nat×Nat))).run P w = .ok pl.toArray w:=by
      rw[Array.mapM_eq_mapM_toList];have Z:=OK (w:=w) A;have O:∀m:Sem (List (Nat×Nat)),(List.toArray <$> m).run P w=(m >>= λa=>pure a.toArray).run P w:=λ_=>rfl;rw[O,aW,Z];simp
     simp only[Instr.build,aW,H,run_underlying q,aZ,O,T];have:(λi:Nat=>pl.toArray[i]?)=λi:Nat=>pl[i]?:=by funext i;simp
     simp only[this,M,bw]
variable{e:TypeId}{st:Nat}
def Gu{b d:Option Value}(n:aT P t=some e) (g:cD P e st=true){a:Option Addr}{len cap l h:Nat}(o:v = .slice a len cap)
  (p:b=none/\l=0\/b=some (.int .i64 l)) (q:d=none/\h=len\/d=some (.int .i64 h)) (r:l<=h) (i:h<=len) (j:len<=cap) :
  (Instr.sliceAt t v b d none).run P w = .ok (.slice (if cap=l then a else a.map (·.add (l*st))) (h-l) (cap-l)) w:=by
 subst o;have m:=mN n w;have s:=lu g w;have u:(Instr.sliceBounds true len cap b d none).run P w = .ok (l,h,cap) w:=by
  have x:((0:Int)<=h/\(h:Int)<=cap):=aa
  have y:((0:Int)<=l/\(l:Int)<=h):=aa
  rcases p with⟨rfl,rfl⟩|rfl<;>rcases q with⟨rfl,rfl⟩|rfl <;>
   simp[Instr.sliceBounds,Instr.sliceBound,asIntOf,x,y,r,i,j,Nat.le_trans i j,aW,aZ]
 have hd:(Instr.sliceAt t (.slice a len cap) b d none).run P w=(Instr.slice t (.slice a len cap) b d none).run P w:=by
  simp only[Instr.sliceAt,aW,m,aZ]
 rw[hd];simp only[Instr.slice,aW,m,aZ,u,s,bw]
def aaU{l:List AV}{a b:Nat}(h:aC l=true):aC ((l.drop a).take b)=true:=by
 have:∀{l:List AV},aC l=true->∀y∈l,aR y=true:=by
  intro l
  induction l with
  |nil=>simp
  |cons a r e=>
   intro h y d;simp only[aC,aH]at h;rcases b5.1 d with rfl|d
   .exact h.1
   .exact e h.2 y d
 exact Bk λy d=>this h y (List.mem_of_mem_drop (List.mem_of_mem_take d))
variable{lo:Option Operand}{y5: Option Rf}
def aaV{n:Int}(h:oA R lo y5 = true) (d:∀x y,R x y=true->VR C w.heap (r y) (ρ x))
  (a:uD r y5 = some n):lo.map ρ=none/\n=0\/lo.map ρ=some (.int .i64 n):=by
 cases lo with
 |none=>
  cases y5 with
  |none=>simp[uD,uE]at a;exact .inl ⟨rfl,a.symm⟩
  |some y=>simp[oA]at h
 |some q=>
  cases y5 with
  |none=>simp[oA]at h
  |some y=>
   simp only[oA]at h;have:=d _ _ h;right;simp only[uD,uE]at a;cases b:r y<;>simp[b]at a
   subst a;rw[b]at this;simp[this.bt]
def aaW{n:Option Int}(h:oA R lo y5 = true) (d:∀x y,R x y=true->VR C w.heap (r y) (ρ x))
  (a:uE r y5 = some n):(lo.map ρ=none/\n=none)\/∃m,n=some m/\lo.map ρ=some (.int .i64 m):=by
 cases lo with
 |none=>
  cases y5 with
  |none=>simp[uD,uE]at a;exact .inl ⟨rfl,a.symm⟩
  |some y=>simp[oA]at h
 |some q=>
  cases y5 with
  |none=>simp[oA]at h
  |some y=>
   simp only[oA]at h;have:=d _ _ h;right;simp only[uD,uE]at a;cases b:r y<;>simp[b]at a
   subst a;rw[b]at this;exact⟨_,rfl,by simp[this.bt]⟩
def NG{x:Operand}{K:Option Operand}{y:Rf}{g: Option Rf}(ho:o.op = .slice t x lo K none)
  (ht:aT P t=some e) (N:cD P e st=true) (jV:∀b u B,C.lim b u->upto σ b u=some B->∃id,C.own b u=some (B,id)) (H:VR C w.heap (r y) (ρ x)) (Gv:oA R lo y5 = true) (hhi:oA R K g = true)
  (hR:∀x y,R x y=true->VR C w.heap (r y) (ρ x)) (n:ev ce σ nl ps r (.qX y y5 g st)=some (z,p)):Plain P ρ o w C w.heap z/\p=none:=by
 simp only[ev]at n;have fin:∀z v,(Instr.sliceAt t (ρ x) (lo.map ρ) (K.map ρ) none).run P w = .ok v w->VR C w.heap z v->Plain P ρ o w C w.heap z:=λz v d h2=>
  fI (s:=Instr.sliceAt t (ρ x) (lo.map ρ) (K.map ρ) ((none:Option Operand).map ρ)) (v:=v) lF d h2
 cases V:uD r y5 with
 |none=>simp[V]at n
 |some a=>
  cases hb:uE r g with
  |none=>simp[V,hb]at n
  |some b=>
   simp only[V,hb]at n;have el:=aaV Gv hR V;have eh:=aaW hhi hR hb;cases O : r y<;>simp only[O]at n<;>try(simp at n;done)
   .rename_i nn l
    split at n<;>simp at n;rename_i L;obtain⟨rfl,rfl⟩:=n;rw[O]at H;refine⟨?_,rfl⟩
    -- bounds as natural numbers
    obtain⟨A,rfl⟩:=gM L.1.1;obtain⟨B,I⟩:=gM (by omega:0<=b.getD l.length)
    rw[I]at L ⊢;have W:K.map ρ=none/\B=l.length\/K.map ρ=some (.int .i64 B):=by
     rcases eh with⟨d,rfl⟩|⟨m,rfl,d⟩
     .left;simp at I;exact⟨d,aa⟩
     .right;simp at I;rw[d,I]
    have X:lo.map ρ=none/\A=0\/lo.map ρ=some (.int .i64 A):=by
     rcases el with⟨d,h2⟩|d
     .exact .inl ⟨d,aa⟩
     .exact .inr d
    simp only[lA];have Gx:=H;unfold VR at H;obtain⟨hn,H⟩:=H;have hlen:((l.drop A).take (B-A)).length=B-A:=ax
    rcases H with⟨rfl,a0,Q,EA⟩|⟨aq,off,cap,S, c,E, fz,Q,F,hI,hH,hl⟩
    .simp at L
     obtain rfl:B=0:=aa
     obtain rfl:A=0:=aa
     have:=Gu (w:=w) ht N Q X W aa ab (bd 0)
     refine fin _ _ this ?_;unfold VR;exact⟨rfl,.inl ⟨ab,a0,ab,ab⟩⟩
    .have:=Gu (w:=w) ht N Q X W aa aa F
     refine fin _ _ this ?_;unfold VR;refine⟨aaU hn,.inr ?_⟩
     by_cases D:cap=A
     .refine⟨aq,off,cap-A,S, c,E, fz,by rw[ae D,hlen],by rw[hlen];omega,hI,hH,?_⟩
      have:(l.drop A).take (B-A)=[]:=by rw[show B-A=0 by omega];simp
      rw[this];trivial
     .refine⟨aq,off+A*st,cap-A,S, c,E, fz,by rw[ad D,hlen];simp[rq],by rw[hlen];omega,hI,hH,?_⟩
      refine jS.of λi u g =>?_;have M : l[A+i]? = some u:=by
       have h0:=(dC.1 g).1;rw[List.getElem?_take_of_lt aa,mP]at g
       exact g
      obtain⟨v,Y,T,g3⟩:=hl.get (A+i) u M;have U : S = st:=by
       have hf:=L.2;cases l with
       |nil=>simp at M
       |cons x0 r0=>
        simp only[gv,cT]at hf;obtain⟨v0,k1,k2,_⟩:=hl.get 0 x0 rfl;have:aR x0=true:=by simp only[aC,aH]at hn;exact hn.1
        rw[<-k2,VR.size (yZ this) k1,hf]
      subst U;refine⟨v,Y,T,λj hj=>?_⟩;rw[<-g3 j hj,fh]
      congr 1;omega
   .rename_i b' u off len
    cases G : upto σ b' u with
    |none=>simp[G]at n
    |some B0=>
    simp only[G]at n;rw[O]at H;obtain⟨id0,hB0⟩:=jV b' u B0 (Bt H) G;split at n<;>simp at n
    rename_i L;obtain⟨rfl,rfl⟩:=n;refine⟨?_,rfl⟩;obtain⟨A,rfl⟩:=gM L.1.1;obtain⟨B,I⟩:=gM (by omega:0<=b.getD len)
    rw[I]at L ⊢;have W:K.map ρ=none/\B=len\/K.map ρ=some (.int .i64 B):=by
     rcases eh with⟨d,rfl⟩|⟨m,rfl,d⟩
     .left;simp at I;exact⟨d,aa⟩
     .right;simp at I;rw[d,I]
    have X:lo.map ρ=none/\A=0\/lo.map ρ=some (.int .i64 A):=by
     rcases el with⟨d,h2⟩|d
     .exact .inl ⟨d,aa⟩
     .exact .inr d
    simp only[lA];unfold VR at H;obtain⟨⟨q,cap,Q,F,hq⟩,d,h3⟩:=H;have:=Gu (w:=w) ht N Q X W aa aa F
    refine fin _ _ this ?_;unfold VR;refine⟨⟨_,_,rfl,aa,λcm=>?_⟩,d,λB' id J =>?_⟩
    .obtain⟨aq,rfl⟩:=hq aa
     exact⟨aq,by rw[ad aa];simp[rq]⟩
    .have Z:=h3 B' id J
     cases hs:B'.st with
     |dead=>trivial
     |map es=>trivial
     |gN=>
      simp only[hs]at Z;obtain⟨rfl,rfl,e4⟩:=Z;rw[Q]at e4;simp at e4;obtain⟨rfl,rfl⟩:=e4;obtain rfl:B=0:=aa
      obtain rfl:A=0:=aa
      simp
     |live=>
      simp only[hs]at Z;obtain⟨c,E, o', aqg, Y,T,g3,g4,g5⟩:=Z;rw[Q]at T;simp at T;obtain⟨rfl,rfl⟩:=T;rw[hB0]at J;simp at J;obtain⟨rfl,rfl⟩:=J;have hk:=L.2;rw[hk]at g5 ⊢;have hmul:A*st+(cap-A)*st=cap*st:=by rw[<-Nat.add_mul,Nat.add_sub_cancel' aa]
      by_cases D:cap=A
      .refine⟨c,E, o', 0,Y,by rw[ae D,show cap-A=0 by omega],λh=>absurd h (Nat.lt_irrefl 0),aa,?_⟩
       subst D;simpa using g5
      .refine⟨c,E, off+A*st,cap-A,Y,?_,λ_=>rfl,aa,?_⟩
       .rw[ad D]
        obtain rfl:=g3 aa
        simp[rq]
       .omega
end
end Ab
