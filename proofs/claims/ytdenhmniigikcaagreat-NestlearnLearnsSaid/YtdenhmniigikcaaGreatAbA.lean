/- What an abstract value stands for in a world of the model, and that it goes on to do so. What an owned value reads as, once nobody writes it any more. The check that a line of the small language is an operation of the program. What the model's operations do, in the form that the soundness of the small language wants. The operations that yield a value and turn nothing. Building a struct and taking a part of a slice. Condition: none. -/
import Derived.Calls
import Derived.Laws.Sem
import Derived.Test.YtdenhmniigikcaaGreatAbCore
import Derived.Orders
import Derived.ChangeKeysEq
import Derived.Laws.Cells
import Derived.Laws.NewBlocks
import Derived.IntWalk
import Derived.Laws.StructEq
set_option linter.all false
open Option renaming some->aa,none->ab
open Bool renaming true->ad,false->ae
open List renaming length->ah
namespace Ab
open Go
def bJ:type_of% @Sem.run_bind:=@Sem.run_bind
def bO:type_of% @Result.andThen_ok:=@Result.andThen_ok
def bX:type_of% @Sem.run_pure:=@Sem.run_pure
def mw:type_of% @Obj.cells.injEq:=@Obj.cells.injEq
def yF:type_of% @Go.MapKept.run_getObj_map:=@Go.MapKept.run_getObj_map
def kY:Nat->Option IntKind
 |0=>aa .i8|1=>aa .i16|2=>aa .i32|4=>aa .u8|5=>aa .u16|6=>aa .u32|7=>aa .u64
 |_=>ab
structure Ctx where
 I:Nat->Prop
 own:Nat->Nat->Option (aO×Nat)
 lim:Nat->Nat->Prop
mutual
def VR (C:Ctx) (H:Array Obj):AV->Value->Prop
 |.int n,v=>v = .int .i64 n
 |.ik k n,v=>∃K,kY k=aa K/\v = .int K n
 |.bool b,v=>v = .bool b
 |.str s,v=>v = .string ⟨s.toArray⟩
 |.agg l,v=>∃vs:List Value,v = .agg vs.toArray/\cH C H l vs/\∀y,y∈vs->y.oneCell' = ad
 |.bY l,v=>∃vs:List Value,v = .tuple vs.toArray/\cH C H l vs
 |.aJ,v=>v = .slice ab 0 0
 |.emp,v=>∃a:Option Addr,v = .slice a 0 0
 |.aX nn l,v=>aY l=ad/\((l=[]/\∃a:Option Addr,v = .slice a 0 0/\(nn=ad->a.isSome=ad))\/
   ∃aQ off cap st c el d,v = .slice (aa ⟨aQ,off,ab⟩) (ah l) cap/\ah l<=cap/\C.I aQ/\H[aQ]? = aa (.cells c el d)/\kF C H c st l off)
 |.arr l,v=>∃aQ off st c el d,v = .slice (aa ⟨aQ,off,ab⟩) (ah l) (ah l)/\C.I aQ/\H[aQ]? = aa (.cells c el d)/\kF C H c st l off
 |.sl b u off len,v=>(∃a c,v = .slice a len c/\len<=c/\(0<len->∃aQ,a=aa ⟨aQ,off,ab⟩))/\C.lim b u/\∀B id,C.own b u=aa (B,id)->
   match B.st with
   |.dead=>True
   |.map _=>True
   |.jN=>off=0/\len=0/\v = .slice ab 0 0
   |.live=>∃c el o cap,H[id]? = aa (.cells c el (0,0))/\v = .slice (aa ⟨id,o,ab⟩) len cap/\(0<cap->o=off)/\len<=cap/\off+cap*ba B.k=c.size
 |.jj,v=>v = .pointer ab
 |.bN x,v=>bC x=ad/\∃aQ off c el d y,v = .pointer (aa ⟨aQ,off,ab⟩)/\C.I aQ/\H[aQ]? = aa (.cells c el d)/\VR C H x y/\∀j,j<y.cells.size->c[off+j]? = y.cells[j]?
 |.ptr b u off,v=>(∃aQ,v = .pointer (aa ⟨aQ,off,ab⟩))/\C.lim b u/\∀B id,C.own b u=aa (B,id)->B.st = .live->v = .pointer (aa ⟨id,off,ab⟩)
 |.lS,v=>v = .nilFunc
 |.func f l,v=>∃vs:List Value,v = .func (.func f) #[] vs.toArray/\cH C H l vs
 |.iR,v=>v = .nilIface
 |.iface t x,v=>∃y,v = .iface t y/\VR C H x y
 |.cZ b,v=>(∃a,v = .map (aa a))/\C.lim b 0/\∀B id,C.own b 0=aa (B,id)->B.st.isMap=ad->v = .map (aa id)
 |.rF,v=>v.oneCell' = ad
 |.aW,_=>True
def cH (C:Ctx) (H:Array Obj):ao->List Value->Prop
 | [],vs=>vs=[]
 |x::r,vs=>∃v s,vs=v::s/\VR C H x v/\cH C H r s
def kF (C:Ctx) (H:Array Obj) (c:Array Value) (st:Nat):ao->Nat->Prop
 | [],_=>True
 |x::r,off=>(∃v,VR C H x v/\v.cells.size=st/\∀j,j<st->c[off+j]? = v.cells[j]?)/\kF C H c st r (off+st)
end
variable{s t:fR}
def acn(h:s.shape=t.shape) (k:t = .live):s = .live:=by
 subst k;cases s<;>simp_all [fR.shape]
def aco(h:s.shape=t.shape):s.isMap=t.isMap:=by
 cases s<;>cases t<;>simp_all [fR.shape,fR.isMap]
structure gM (C:Ctx) (H:Array Obj) (C' : Ctx) (H' : Array Obj):Prop where
 aX:∀k,C.I k->C'.I k
 same:∀k,C.I k->H'[k]? = H[k]?
 lim:∀b u,C.lim b u->C'.lim b u
 own:∀b u B' id,C.lim b u->C'.own b u=aa (B', id)->∃B,C.own b u=aa (B,id)/\B.st.shape=B'.st.shape/\B.k=B'.k/\
  ∀c el,H[id]? = aa (.cells c el (0,0))->∃c', H'[id]? = aa (.cells c' el (0,0))/\c'.size=c.size
def gM.refl (C:Ctx) (H:Array Obj):gM C H C H:=
 ⟨λ_ h=>h,λ_ _=>rfl,λ_ _ h=>h,λ_ _ B' _ _ h=>⟨B', h,rfl,rfl,λc _ hc=>⟨c,hc,rfl⟩⟩⟩
def gM.trans{C C' P8 : Ctx}{H H' H'' : Array Obj}(h:gM C H C' H') (k:gM C' H' P8 H''):gM C H P8 H'' :=by
 refine⟨λx hx=>k.aX x (h.aX x hx),λx hx=>(k.same x (h.aX x hx)).trans (h.same x hx),λb u hl=>k.lim b u (h.lim b u hl),λb u B'' id hl ho=>?_⟩;obtain⟨B', h1,h2,h3,h4⟩:=k.own b u B'' id (h.lim b u hl) ho;obtain⟨B,g1,g2,g3,g4⟩:=h.own b u B' id hl h1;refine⟨B,g1,g2.trans h2,g3.trans h3,λc el hc=>?_⟩;obtain⟨c', e1,e2⟩:=g4 c el hc;obtain⟨c'', f1,f2⟩:=h4 c' el e1;exact⟨c'', f1,f2.trans e2⟩
section
variable{C C' : Ctx}{H H' : Array Obj}
mutual
theorem VR.mono (h:gM C H C' H'):∀(x:AV) (v:Value),VR C H x v->VR C' H' x v
 |.int _,_,hv=>hv
 |.ik _ _,_,hv=>hv
 |.bool _,_,hv=>hv
 |.str _,_,hv=>hv
 |.agg l,_,⟨vs,e,hl,hc⟩=>⟨vs,e,cH.mono h l vs hl,hc⟩
 |.bY l,_,⟨vs,e,hl⟩=>⟨vs,e,cH.mono h l vs hl⟩
 |.aJ,_,hv=>hv
 |.emp,_,hv=>hv
 |.aX nn l,v,hv=>by
  unfold VR at hv ⊢;obtain⟨hn,hv⟩:=hv;refine⟨hn,?_⟩;rcases hv with hv|⟨b,off,cap,st,c,el,fz,e,hc,hI,hH,hl⟩
  .exact .inl hv
  .exact .inr ⟨b,off,cap,st,c,el,fz,e,hc,h.aX b hI,(h.same b hI).trans hH,kF.mono h c st l off hl⟩
 |.arr l,v,hv=>by
  unfold VR at hv ⊢;obtain⟨b,off,st,c,el,fz,e,hI,hH,hl⟩:=hv;exact⟨b,off,st,c,el,fz,e,h.aX b hI,(h.same b hI).trans hH,kF.mono h c st l off hl⟩
 |.sl b u off len,v,hv=>by
  unfold VR at hv ⊢;obtain⟨h0,h1,h3⟩:=hv;refine⟨h0,h.lim b u h1,λB' id ho=>?_⟩;obtain⟨B,g1,g2,g3,g4⟩:=h.own b u B' id h1 ho;have:=h3 B id g1;rw[g3]at this
  revert this g2
  cases hB:B.st<;>cases Ai : B'.st<;>intro g2<;>simp only[fR.shape,reduceCtorEq]at g2
  case dead.dead=>exact λ_=>trivial
  case map.map=>exact λ_=>trivial
  case jN.jN=>exact λx=>x
  case live.live=>
   rintro⟨c,el,o,cap,e1,e2,e3,e4,e5⟩;obtain⟨c', f1,f2⟩:=g4 c el e1;exact⟨c', el,o,cap,f1,e2,e3,e4,e5.trans f2.symm⟩
 |.jj,_,hv=>hv
 |.bN x,v,hv=>by
  unfold VR at hv ⊢;obtain⟨hn,b,off,c,el,fz,y,e,hI,hH,hx,hj⟩:=hv;exact⟨hn,b,off,c,el,fz,y,e,h.aX b hI,(h.same b hI).trans hH,VR.mono h x y hx,hj⟩
 |.ptr b u off,v,hv=>by
  unfold VR at hv ⊢;obtain⟨h0,h1,h3⟩:=hv;refine⟨h0,h.lim b u h1,λB' id ho hl=>?_⟩;obtain⟨B,g1,g2,g3,g4⟩:=h.own b u B' id h1 ho;exact h3 B id g1 (acn g2 hl)
 |.lS,_,hv=>hv
 |.func _ l,_,⟨vs,e,hl⟩=>⟨vs,e,cH.mono h l vs hl⟩
 |.iR,_,hv=>hv
 |.iface _ x,_,⟨y,e,hx⟩=>⟨y,e,VR.mono h x y hx⟩
 |.cZ b,v,hv=>by
  unfold VR at hv ⊢;obtain⟨h0,h1,h3⟩:=hv;refine⟨h0,h.lim b 0 h1,λB' id ho hl=>?_⟩;obtain⟨B,g1,g2,g3,g4⟩:=h.own b 0 B' id h1 ho;exact h3 B id g1 (by rw[aco g2];exact hl)
 |.rF,_,hv=>hv
 |.aW,_,_=>trivial
theorem cH.mono (h:gM C H C' H'):∀(l:ao) (vs:List Value),cH C H l vs->cH C' H' l vs
 | [],_,hv=>hv
 |x::r,_,⟨v,s,e,hx,hr⟩=>⟨v,s,e,VR.mono h x v hx,cH.mono h r s hr⟩
theorem kF.mono (h:gM C H C' H') (c:Array Value) (st:Nat):∀(l:ao) (off:Nat),kF C H c st l off->kF C' H' c st l off
 | [],_,_=>trivial
 |x::r,off,⟨⟨v,hx,e,hj⟩,hr⟩=>⟨⟨v,VR.mono h x v hx,e,hj⟩,kF.mono h c st r (off+st) hr⟩
end
structure qi (C:Ctx) (H:Array Obj) (C' : Ctx) (H' : Array Obj):Prop where
 aX:∀k,C.I k->C'.I k
 same:∀k,C.I k->H'[k]? = H[k]?
mutual
theorem VR.free (h:qi C H C' H'):∀(x:AV) (v:Value),bC x=ad->VR C H x v->VR C' H' x v
 |.int _,_,_,hv=>hv
 |.ik _ _,_,_,hv=>hv
 |.bool _,_,_,hv=>hv
 |.str _,_,_,hv=>hv
 |.agg l,_,hn,⟨vs,e,hl,hc⟩=>⟨vs,e,cH.free h l vs (by simpa[bC]using hn) hl,hc⟩
 |.bY l,_,hn,_=>by simp[bC]at hn
 |.aJ,_,_,hv=>hv
 |.emp,_,_,hv=>hv
 |.aX nn l,v,_,hv=>by
  unfold VR at hv ⊢;obtain⟨hn,hv⟩:=hv;refine⟨hn,?_⟩;rcases hv with hv|⟨b,off,cap,st,c,el,fz,e,hc,hI,hH,hl⟩
  .exact .inl hv
  .exact .inr ⟨b,off,cap,st,c,el,fz,e,hc,h.aX b hI,(h.same b hI).trans hH,kF.free h c st l off hn hl⟩
 |.arr l,_,hn,_=>by simp[bC]at hn
 |.sl ..,_,hn,_=>by simp[bC]at hn
 |.jj,_,_,hv=>hv
 |.bN x,v,_,hv=>by
  unfold VR at hv ⊢;obtain⟨hn,b,off,c,el,fz,y,e,hI,hH,hx,hj⟩:=hv;exact⟨hn,b,off,c,el,fz,y,e,h.aX b hI,(h.same b hI).trans hH,VR.free h x y hn hx,hj⟩
 |.ptr ..,_,hn,_=>by simp[bC]at hn
 |.lS,_,_,hv=>hv
 |.func _ l,_,hn,⟨vs,e,hl⟩=>⟨vs,e,cH.free h l vs (by simpa[bC]using hn) hl⟩
 |.iR,_,_,hv=>hv
 |.iface _ x,_,hn,⟨y,e,hx⟩=>⟨y,e,VR.free h x y (by simpa[bC]using hn) hx⟩
 |.cZ _,_,hn,_=>by simp[bC]at hn
 |.rF,_,_,hv=>hv
 |.aW,_,hn,_=>by simp[bC]at hn
theorem cH.free (h:qi C H C' H'):∀(l:ao) (vs:List Value),aY l=ad->cH C H l vs->cH C' H' l vs
 | [],_,_,hv=>hv
 |x::r,_,hn,⟨v,s,e,hx,hr⟩=>by
  simp only[aY,bd]at hn;exact⟨v,s,e,VR.free h x v hn.1 hx,cH.free h r s hn.2 hr⟩
theorem kF.free (h:qi C H C' H') (c:Array Value) (st:Nat):∀(l:ao) (off:Nat),aY l=ad->kF C H c st l off->kF C' H' c st l off
 | [],_,_,_=>trivial
 |x::r,off,hn,⟨⟨v,hx,e,hj⟩,hr⟩=>by
  simp only[aY,bd]at hn;exact⟨⟨v,VR.free h x v hn.1 hx,e,hj⟩,kF.free h c st r (off+st) hn.2 hr⟩
end
end
section
variable{C:Ctx}{H:Array Obj}
def cH.length:∀{l:ao}{vs:List Value},cH C H l vs->ah vs=ah l
 | [],_,h=>by rw[show _=[]from h];rfl
 |_::_,_,⟨_,_,e,_,hr⟩=>by rw[e];simp[cH.length hr]
def cH.get:∀{l:ao}{vs:List Value},cH C H l vs->∀(i:Nat) (x:AV),l[i]? = aa x->∃v,vs[i]? = aa v/\VR C H x v
 | [],_,_,i,x,hi=>by simp at hi
 |y::r,_,⟨v,s,e,hx,hr⟩,0,x,hi=>by
  simp at hi;subst hi;rw[e];exact⟨v,rfl,hx⟩
 |y::r,_,⟨v,s,e,hx,hr⟩,i+1,x,hi=>by
  rw[e];exact cH.get hr i x ox
def cH.append:∀{l m:ao}{vs ws:List Value},cH C H l vs->cH C H m ws->cH C H (l++m) (vs++ws)
 | [],_,_,_,h,k=>by rw[show _=[]from h];exact k
 |_::_,_,_,_,⟨v,s,e,hx,hr⟩,k=>by rw[e];exact⟨v,s++_,rfl,hx,cH.append hr k⟩
def cH.drop:∀(n:Nat){l:ao}{vs:List Value},cH C H l vs->cH C H (l.drop n) (vs.drop n)
 |0,_,_,h=>by simpa using h
 |n+1,[],_,h=>by rw[show _=[]from h];simp[cH]
 |n+1,_::_,_,⟨v,s,e,hx,hr⟩=>by rw[e];simpa using cH.drop n hr
def cH.take:∀(n:Nat){l:ao}{vs:List Value},cH C H l vs->cH C H (l.take n) (vs.take n)
 |0,_,_,h=>by simp[cH]
 |n+1,[],_,h=>by rw[show _=[]from h];simp[cH]
 |n+1,_::_,_,⟨v,s,e,hx,hr⟩=>by rw[e];exact⟨v,s.take n,rfl,hx,cH.take n hr⟩
variable{b u off:Nat}{v:Value}
def DQ{len:Nat}(h:VR C H (.sl b u off len) v):C.lim b u:=by unfold VR at h;exact h.2.1
def acp(h:VR C H (.ptr b u off) v):C.lim b u:=by unfold VR at h;exact h.2.1
def abo(h:VR C H (.cZ b) v):C.lim b 0:=by unfold VR at h;exact h.2.1
def jQ (x:AV):Prop:=x ≠ .aW/\∀l,x ≠ .bY l
def A6(h:v.oneCell' = ad):v.cells = #[v]:=by
 cases v<;>first|rfl|simp[Value.oneCell']at h
variable{x:AV}
def VR.leaf(hx:∀l,x ≠ .agg l) (hu:jQ x) (h:VR C H x v):v.oneCell' = ad:=by
 cases x with
 |agg l=>exact absurd rfl (hx l)
 |aW=>exact absurd rfl hu.1
 |bY l=>exact absurd rfl (hu.2 l)
 |rF=>exact h
 |emp=>
  unfold VR at h;obtain⟨_,h⟩:=h;rw[h];rfl
 |_=>
  unfold VR at h
  first
   |(rw[h];rfl)
   |(obtain⟨⟨_,h⟩,_⟩:=h;rw[h];rfl)
   |(obtain⟨_,_,h⟩:=h;rw[h];rfl)
   |(obtain⟨_,h,_⟩:=h;rw[h];rfl)
   |(obtain⟨⟨_,_,h,_⟩,_⟩:=h;rw[h];rfl)
   |(obtain⟨⟨_,h⟩,_⟩:=h;rw[h];rfl)
   |(obtain⟨_,h|h⟩:=h
     .obtain⟨_,_,h,_⟩:=h;rw[h];rfl
     .obtain⟨_,_,_,_,_,_,_,h,_⟩:=h;rw[h];rfl)
   |(obtain⟨_,_,_,_,_,_,h,_⟩:=h;rw[h];rfl)
   |(obtain⟨_,_,_,_,_,_,_,h,_⟩:=h;rw[h];rfl)
def VR.cells(hu:jQ x) (h:VR C H x v):cH C H x.cells v.cells.toList/\∀y,y∈v.cells.toList->y.oneCell' = ad:=by
 by_cases hx:∃l,x = .agg l
 .obtain⟨l,rfl⟩:=hx
  unfold VR at h;obtain⟨vs,rfl,hl,hc⟩:=h;exact⟨by simpa[AV.cells,Value.cells]using hl,by simpa[Value.cells]using hc⟩
 .have lh : ∀l,x ≠ .agg l:=λl e=>hx ⟨l,e⟩
  have hlf:=VR.leaf lh hu h;rw[A6 hlf];have:x.cells=[x]:=by
   cases x<;>first|rfl|exact absurd rfl (lh _)
  rw[this];exact⟨⟨v,[],rfl,h,rfl⟩,by simp[hlf]⟩
def VR.size(hu:jQ x) (h:VR C H x v):v.cells.size=ah x.cells:=by
 have:=cH.length (VR.cells hu h).1;simpa using this
end
def owned (C:Ctx) (k:Nat):Prop:=∃b u B,C.own b u=aa (B,k)/\B.st.kI=ad
def MR (C:Ctx) (H:Array Obj):List (AV×AV)->List MapEntry->Prop
 | [],l=>l=[]
 |(k,x)::r,l=>∃e s,l=e::s/\(bC k=ad/\VR C H k e.key)/\VR C H x e.val/\MR C H r s
structure Good (C:Ctx) (w:World):Prop where
 I:∀k,C.I k->k<w.heap.size
 mT:∀b u B id,C.own b u=aa (B,id)->C.lim b u/\u=ah B.cells/\(B.st = .jN->B.cells=[])/\B.st ≠ .dead
 live:∀b u B id,C.own b u=aa (B,id)->B.st = .live->¬C.I id/\∃(c:Array Value) (el:TypeId),w.heap[id]? = aa (.cells c el (0,0))/\ah B.cells<=c.size/\
  ∀(i:Nat) (x:AV),B.cells[i]? = aa x->∃y,c[i]? = aa y/\VR C w.heap x y/\y.oneCell' = ad
 apart:∀b u B id b' u' B' id', C.own b u=aa (B,id)->B.st.kI=ad->C.own b' u' = aa (B', id')->B'.st.kI=ad->b ≠ b' ->id ≠ id'
 maps:∀b u B id es,C.own b u=aa (B,id)->B.st = .map es->¬C.I id/\∃(l:Array MapEntry) (clock:Nat),w.heap[id]? = aa (.map l clock)/\MR C w.heap es l.toList
variable{s:fR}
def P9(h:s.kI=ad):s = .live\/∃es,s = .map es:=by
 cases s<;>simp_all [fR.kI]
def mZ(h:s = .live):s.kI=ad:=by subst h;rfl
variable{k:Nat}
def Good.lt{C:Ctx}{w:World}(h:Good C w)(hk:owned C k):k<w.heap.size:=by
 obtain⟨b,u,B,ho,hl⟩:=hk;rcases P9 hl with hl|⟨es,hl⟩
 .obtain⟨_,c,el,hc,_⟩:=h.live b u B k ho hl
  exact(kV.1 hc).1
 .obtain⟨_,c,el,hc,_⟩:=h.maps b u B k es ho hl
  exact(kV.1 hc).1
def MR.mono{C C' : Ctx}{H H' : Array Obj}(h:gM C H C' H'):∀{es:List (AV×AV)}{l:List MapEntry},MR C H es l->MR C' H' es l
 | [],_,e=>e
 |(k,x)::r,_,⟨e,s,q,⟨k1,k2⟩,x2,hr⟩=>⟨e,s,q,⟨k1,VR.mono h _ _ k2⟩,VR.mono h _ _ x2,MR.mono h hr⟩
variable{w': World}{b u id:Nat}{B:aO}{es:List (AV×AV)}
def Good.dK{C:Ctx}{w:World}(hg:Good C w){C' : Ctx}(ev:gM C w.heap C' w'.heap)(ho:C.own b u=aa (B,id)) (hl:B.st = .map es)
  (hid:w'.heap[id]? = w.heap[id]?) (GD:¬C'.I id):¬C'.I id/\∃(l:Array MapEntry) (clock:Nat),w'.heap[id]? = aa (.map l clock)/\MR C' w'.heap es l.toList:=by
 obtain⟨_,l,c,h1,h2⟩:=hg.maps b u B id es ho hl;exact⟨GD,l,c,hid.trans h1,h2.mono ev⟩
def mW(h:s = .map es):s.kI=ad:=by subst h;rfl
def Good.aav{C:Ctx}{w:World}(h:Good C w)(hk:owned C k):¬C.I k:=by
 obtain⟨b,u,B,ho,hl⟩:=hk;rcases P9 hl with hl|⟨es,hl⟩
 .exact(h.live b u B k ho hl).1
 .exact(h.maps b u B k es ho hl).1
structure Step (C:Ctx) (w:World) (C' : Ctx) (w' : World):Prop where
 ev:gM C w.heap C' w'.heap
 size:w.heap.size<=w'.heap.size
 frame:∀k,k<w.heap.size->¬owned C k->w'.heap[k]? = w.heap[k]?
 ie:∀k,owned C' k->owned C k\/w.heap.size<=k
 iH:∀k,C'.I k->C.I k\/owned C k\/w.heap.size<=k
 os:w'.os=w.os
 tape:w'.tape=w.tape/\w.drawn<=w'.drawn
 output:w'.output=w.output
def Step.refl (C:Ctx) (w:World):Step C w C w:=
 ⟨gM.refl _ _,bG _,λ_ _ _=>rfl,λ_ h=>.inl h,λ_ h=>.inl h,rfl,⟨rfl,bG _⟩,rfl⟩
def Step.trans{C C' P8 : Ctx}{w w'': World}(h:Step C w C' w') (k:Step C' w' P8 w''):Step C w P8 w'' :=by
 refine⟨h.ev.trans k.ev,oC h.size k.size,λx hx ho=>?_,λx hx=>?_,λx hx=>?_,k.os.trans h.os,⟨k.tape.1.trans h.tape.1,oC h.tape.2 k.tape.2⟩,k.output.trans h.output⟩
 .rw[k.frame x (Nat.lt_of_lt_of_le hx h.size) (λh' =>(h.ie x h').elim ho (λh'' =>absurd hx (Nat.not_lt.2 h'')))]
  exact h.frame x hx ho
 .rcases k.ie x hx with h' | h'
  .exact h.ie x h'
  .exact .inr (oC h.size h')
 .rcases k.iH x hx with h' | h' | h'
  .exact h.iH x h'
  .exact .inr (h.ie x h')
  .exact .inr (.inr (oC h.size h'))
def aI (σ:aq) (ids:Nat->Nat) (I:Nat->Prop):Ctx where
 I:=I
 own:=λb u=>match aQ σ b with
  |some B=>match B.st with
   |.dead=>ab
   |_=>if (ah B.cells)=u then aa (B,ids b)else ab
  |none=>ab
 lim:=λb u=>∃B,aQ σ b=aa B/\u<=ah B.cells
def dX (σ:aq):∀b,aQ σ b=σ[b]?:=by
 induction σ with
 |nil=>intro b;rfl
 |cons x r a=>intro b;cases b<;>simp[aQ,a]
def yW (l:ao):∀b,lU l b=l[b]?:=by
 induction l with
 |nil=>intro b;rfl
 |cons x r a=>intro b;cases b<;>simp[lU,a]
def aaD (σ:aq):∀b y,aV σ b y=σ.set b y:=by
 induction σ with
 |nil=>intro b y;rfl
 |cons x r a=>intro b y;cases b<;>simp[aV,a]
def abW (l:ao):∀b y,eY l b y=l.set b y:=by
 induction l with
 |nil=>intro b y;rfl
 |cons x r a=>intro b y;cases b<;>simp[eY,a]
def uI (l:ao):∀b,nth l b=l[b]?.getD .aW:=by
 induction l with
 |nil=>intro b;rfl
 |cons x r a=>intro b;cases b<;>simp[nth,a]
def pt{σ:aq}(ids:Nat->Nat) (I:Nat->Prop) (h:upto σ b u=aa B):(aI σ ids I).own b u=aa (B,ids b):=by
 unfold upto at h;simp only[aI];cases d:aQ σ b with
 |none=>simp[d]at h
 |some e =>
  simp only[d]at h ⊢;cases g:e.st<;>simp only[g]at h ⊢<;>first
   |(by_cases a:ah e.cells=u
     .simp[a]at h;subst h;simp[a]
     .simp[a]at h)
   |simp at h
def um{σ:aq}(ids:Nat->Nat) (I:Nat->Prop) (h:gI σ b u=aa B):(aI σ ids I).own b u=aa (B,ids b):=by
 unfold gI at h;simp only[aI];cases d:aQ σ b with
 |none=>simp[d]at h
 |some e =>
  simp only[d]at h ⊢;cases g:e.st<;>simp only[g]at h ⊢<;>first
   |(by_cases a:ah e.cells=u
     .simp[a]at h;subst h;simp[a]
     .simp[a]at h)
   |simp at h
def Pe{σ:aq}(h:upto σ b u=aa B):gI σ b u=aa B:=by
 unfold upto at h;unfold gI;cases a:aQ σ b with
 |none=>simp[a]at h
 |some d =>
  simp only[a]at h ⊢;cases e:d.st<;>simp only[e]at h ⊢<;>first
   |exact h
   |simp at h
def AB{σ:aq}(h:upto σ b u=aa B):B.st.isMap=ae:=by
 unfold upto at h;cases a:aQ σ b with
 |none=>simp[a]at h
 |some e =>
  simp only[a]at h;cases d:e.st<;>simp only[d]at h<;>first
   |(split at h<;>simp at h;subst h;simp[d,fR.isMap])
   |simp at h
def AF{σ:aq}{ids:Nat->Nat}{I:Nat->Prop}(h:(aI σ ids I).own b u=aa (B,id)):aQ σ b=aa B/\id=ids b:=by
 simp only[aI]at h;cases a:aQ σ b with
 |none=>simp[a]at h
 |some d =>
  simp only[a]at h;cases g:d.st<;>simp only[g]at h<;>first
   |(by_cases e:ah d.cells=u
     .simp[e]at h;obtain⟨rfl,rfl⟩:=h;exact⟨rfl,rfl⟩
     .simp[e]at h)
   |simp at h
variable{x:AV}{v:Value}
def VR.gJ{C:Ctx}{H:Array Obj}(h:VR C H x v):VR C H (Ab.gJ x) v:=by
 cases x with
 |aJ=>unfold VR at h;unfold Ab.gJ VR;exact⟨rfl,.inl ⟨rfl,ab,h,aA⟩⟩
 |emp=>
  unfold VR at h;unfold Ab.gJ VR;obtain⟨a,h⟩:=h;exact⟨rfl,.inl ⟨rfl,a,h,aA⟩⟩
 |aX nn l=>
  unfold VR at h;unfold Ab.gJ VR;refine⟨h.1,?_⟩;rcases h.2 with h' | h'
  .obtain⟨h1,a,h2,_⟩:=h'; exact .inl ⟨h1,a,h2,aA⟩
  .exact .inr h'
 |_=>exact h
def cH.gJ{C:Ctx}{H:Array Obj}:∀{l:ao}{vs:List Value},cH C H l vs->cH C H (l.map Ab.gJ) vs
 | [],_,h=>h
 |_::_,_,⟨v,s,e,hx,hr⟩=>⟨v,s,e,hx.gJ,cH.gJ hr⟩
def VR.wk{C:Ctx}{H:Array Obj}(h:VR C H x v):VR C H (Ab.wk x) v:=by
 cases x with
 |agg l=>unfold VR at h;obtain⟨vs,e,hl,hc⟩:=h;unfold Ab.wk VR;exact⟨vs,e,hl.gJ,hc⟩
 |_=>exact VR.gJ h
def cH.wk{C:Ctx}{H:Array Obj}:∀{l:ao}{vs:List Value},cH C H l vs->cH C H (l.map Ab.wk) vs
 | [],_,h=>h
 |_::_,_,⟨v,s,e,hx,hr⟩=>⟨v,s,e,hx.wk,cH.wk hr⟩
def acq(h:bC x=ad):bC (gJ x)=ad:=by cases x<;>simp_all [gJ,bC]
def Qa:∀{l:ao},aY l=ad->aY (l.map gJ)=ad
 | [],_=>rfl
 |_::_,h=>by
  simp only[aY,bd,da]at h ⊢;exact⟨acq h.1,Qa h.2⟩
end Ab
namespace Ab
open Go
def Qb{b g:Type}{f:b->Option g}:∀{l:List b}{m:List g},cu f l=aa m->ah m=ah l/\∀(i:Nat) (x:b),l[i]? = aa x->∃y,m[i]? = aa y/\f x=aa y
 | [],m,h=>by
  simp[cu]at h;subst h;simp
 |x::r,m,h=>by
  unfold cu at h;cases a:f x with
  |none=>simp[a]at h
  |some y=>
   cases d:cu f r with
   |none=>simp[a,d]at h
   |some s=>
    simp[a,d]at h;subst h;obtain⟨j,n⟩:=Qb d;refine⟨by simp[j],λi z e=>?_⟩
    cases i with
    |zero=>simp at e;subst e;exact⟨y,rfl,a⟩
    |succ i=>exact n i z iT
def acr (k:Option Nat) (cs:ao):∀(n:Nat),n*ba k<=ah cs->(∀m,k=aa m->True)->ah (chunk k n cs)=n:=by
 intro n
 induction n generalizing cs with
 |zero=>intros;simp[chunk]
 |succ n a=>
  intro h _;cases k with
  |none=>
   cases cs with
   |nil=>simp[ba]at h
   |cons x r=>simp only[chunk,cT];rw[a r (by simp[ba]at h ⊢;omega) (λ_ _=>trivial)]
  |some m=>
   simp only[chunk,cT];rw[a (cs.drop m) (by simp[ba]at h ⊢;rw[fG]at h;omega) (λ_ _=>trivial)]
def Ik (k:Option Nat):∀(n:Nat) (cs:ao),n*ba k<=ah cs->∀i,i<n->∃x,(chunk k n cs)[i]? = aa x/\part cs (i*ba k) k=aa x
 |0,_,_,i,d=>absurd d (Nat.not_lt_zero i)
 |n+1,cs,h,i,d=>by
  cases k with
  |none=>
   cases cs with
   |nil=>simp[ba]at h
   |cons x r=>
    cases i with
    |zero=>exact⟨x,by simp[chunk],by simp[part,ba,lU]⟩
    |succ i=>
     obtain⟨y,b,a⟩:=Ik ab n r (by simp[ba]at h ⊢;omega) i ax
     exact⟨y,by simpa[chunk]using b,by simpa[part,ba,lU]using a⟩
  |some m=>
   simp only[ba]at h;rw[fG]at h;cases i with
   |zero=>exact⟨.agg (cs.take m),by simp[chunk],by simp[part,ba];omega⟩
   |succ i=>
    obtain⟨y,b,a⟩:=Ik (aa m) n (cs.drop m) (by simp[ba];omega) i ax
    refine⟨y,by simpa[chunk]using b,?_⟩
    simp only[part,ba,List.length_drop,List.drop_drop]at a ⊢;split at a
    .have e:(i+1)*m=m+i*m:=by rw[fG];omega
     have:m+i*m+m<=ah cs:=ax
     rw[<-a];simp only[e,this,dM]
    .simp at a
variable{off:Nat}{k:Option Nat}{x:AV}
def Ec{C:Ctx}{H:Array Obj}{cs:ao}{c:Array Value}
  (hc:∀(i:Nat) (x:AV),cs[i]? = aa x->∃y,c[i]? = aa y/\VR C H x y/\y.oneCell' = ad) (h:part cs off k=aa x) :
  ∃v,VR C H x v/\v.cells.size=ba k/\(∀j,j<ba k->c[off+j]? = v.cells[j]?)/\(k=ab->v.cells = #[v])/\(k ≠ ab->∃vs,v = .agg vs):=by
 cases k with
 |none=>
  simp only[part,yW]at h;obtain⟨y,h1,h2,h3⟩:=hc off x h;have h3:=A6 h3;refine⟨y,h2,by simp[h3,ba],λj hj=>?_,λ_=>h3,λh=>absurd rfl h⟩
  simp only[ba]at hj;obtain rfl:j=0:=ax
  simp[h1,h3]
 |some n=>
  simp only[part]at h;split at h
  case isFalse=>simp at h
  rename_i hn;simp at h;subst h;have key:∀m,m<=n->∃vs:List Value,cH C H ((cs.drop off).take m) vs/\ah vs=m/\(∀y,y∈vs->y.oneCell' = ad)/\∀j,j<m->c[off+j]? = vs[j]?:=by
   intro m
   induction m with
   |zero=>intro _;exact⟨[],by simp[cH],rfl,aA,λj hj=>absurd hj (Nat.not_lt_zero j)⟩
   |succ m ih=>
    intro hm;obtain⟨vs,h1,h2,h4,h3⟩:=ih ax
    have hx:∃x,cs[off+m]? = aa x:=⟨cs[off+m],by rw[dG ax]⟩
    obtain⟨x,hx⟩:=hx;obtain⟨y,g1,g2,g3⟩:=hc (off+m) x hx;have ht:(cs.drop off).take (m+1)=(cs.drop off).take m ++ [x]:=by
     rw[pE];simp[hx]
    rw[ht];refine⟨vs ++ [y],h1.append ⟨y,[],rfl,g2,rfl⟩,by simp[h2],λz hz=>(dI.1 hz).elim (h4 z) (λhz=>by simp at hz;subst hz;exact g3),λj hj=>?_⟩
    rcases Nat.lt_or_ge j m with cw|Zn
    .rw[h3 j cw,dq ax]
    .obtain rfl:j=m:=by omega
     rw[g1,<-h2];simp
  obtain⟨vs,h1,h2,h4,h3⟩:=key n (bG n);refine⟨.agg vs.toArray,by unfold VR;exact⟨vs,rfl,h1,h4⟩,by simp[Value.cells,h2,ba],λj hj=>?_,λh=>fE,λ_=>⟨_,rfl⟩⟩
  simp only[ba]at hj;rw[h3 j hj];simp[Value.cells]
def kF.of{C:Ctx}{H:Array Obj}{c:Array Value}{st:Nat}:∀{l:ao}{off:Nat},
  (∀i x,l[i]? = aa x->∃v,VR C H x v/\v.cells.size=st/\∀j,j<st->c[off+i*st+j]? = v.cells[j]?)->kF C H c st l off
 | [],_,_=>trivial
 |x::r,off,h=>by
  refine⟨by simpa using h 0 x rfl,kF.of λi y hi=>?_⟩
  obtain⟨v,h1,h2,h3⟩:=h (i+1) y ox
  refine⟨v,h1,h2,λj hj=>?_⟩;rw[<-h3 j hj]
  congr 1
  rw[fG];omega
def kF.get{C:Ctx}{H:Array Obj}{c:Array Value}{st:Nat}:∀{l:ao}{off:Nat},kF C H c st l off->
  ∀i x,l[i]? = aa x->∃v,VR C H x v/\v.cells.size=st/\∀j,j<st->c[off+i*st+j]? = v.cells[j]?
 | [],_,_,i,x,hi=>by simp at hi
 |y::r,off,⟨hx,hr⟩,0,x,hi=>by simp at hi;subst hi;simpa using hx
 |y::r,off,⟨hx,hr⟩,i+1,x,hi=>by
  obtain⟨v,h1,h2,h3⟩:=kF.get hr i x ox
  refine⟨v,h1,h2,λj hj=>?_⟩;rw[<-h3 j hj]
  congr 1
  rw[fG];omega
def DJ{l:ao}(h:∀x∈l,bC x=ad):aY l=ad:=by
 induction l with
 |nil=>rfl
 |cons x r a=>
  simp only[aY,bd];exact⟨h x aA,a λy b=>h y fS⟩
structure Qc (fr:Bool) (C:Ctx) (C2:Ctx):Prop where
 aX:fr=ae->∀k,C.I k->C2.I k
 own:∀k,owned C k->C2.I k
def Ax{σ:aq}{fr:Bool}{f:Nat}{C C2:Ctx}{H:Array Obj}
  (d:∀x y v,view σ fr f x=aa y->VR C H x v->bC y=ad/\VR C2 H y v) :
  ∀{l m:ao} {vs:List Value},cu (view σ fr f) l=aa m->cH C H l vs->aY m=ad/\cH C2 H m vs
 | [],m,vs,h,g=>by simp[cu]at h;subst h;exact⟨rfl,g⟩
 |x::r,m,vs,h,⟨v,s,e,i,j⟩=>by
  unfold cu at h;cases a:view σ fr f x with
  |none=>simp[a]at h
  |some y=>
   cases b:cu (view σ fr f) r with
   |none=>simp[a,b]at h
   |some t=>
    simp[a,b]at h;subst h;obtain⟨n,o⟩:=d x y v a i;obtain⟨p,q⟩:=Ax d b j;exact⟨by simp[aY,n,p],⟨v,s,e,o,q⟩⟩
variable{fr:Bool}{C2:Ctx}
def DH{σ:aq}{C:Ctx}{w:World}(kJ:∀b u B,C.lim b u->upto σ b u=aa B->∃id,C.own b u=aa (B,id)) (hg:Good C w) (hf:Qc fr C C2) :
  ∀(f:Nat) (x y:AV) (v:Value),view σ fr f x=aa y->VR C w.heap x v->bC y=ad/\VR C2 w.heap y v:=by
 intro f
 induction f with
 |zero=>intro x y v h;simp[view]at h
 |succ f ih=>
  intro x y v h hv;cases x with
  |sl b u off len=>
   simp only[view]at h;cases hu:upto σ b u with
   |none=>simp[hu]at h
   |some B=>
    simp only[hu]at h;split at h
    case isFalse=>simp at h
    rename_i hle;cases hm:cu (view σ fr f) (chunk B.k len (B.cells.drop off))with
    |none=>simp[hm]at h
    |some l=>
     simp[hm]at h;subst h;unfold VR at hv;obtain⟨_,jh,hv⟩:=hv;obtain⟨id,ho⟩:=kJ b u B jh hu;obtain⟨N1,rJ⟩:=Qb hm;obtain⟨_,e1,e3,e4⟩:=hg.mT b u B _ ho;have hv:=hv B _ ho;have hlen:ah (chunk B.k len (B.cells.drop off))=len:=acr _ _ _ aT (λ_ _=>trivial)
     cases hs:B.st with
     |dead=>exact absurd hs e4
     |map es=>have:=AB hu;rw[hs]at this;simp[fR.isMap]at this
     |jN=>
      simp only[hs]at hv;obtain⟨rfl,rfl,rfl⟩:=hv;have:l=[]:=by
       have:ah l=0:=by rw[N1,hlen]
       exact eK this
      subst this;exact⟨rfl,by unfold VR;exact⟨rfl,.inl ⟨rfl,ab,rfl,aA⟩⟩⟩
     |live=>
      simp only[hs]at hv;obtain⟨c,el,o,cap,g1,rfl,g3,g4,g5⟩:=hv;obtain⟨n1,c', Da, n2,n3,n4⟩:=hg.live b u B _ ho hs;rw[g1]at n2;simp only[ct,mw]at n2;obtain⟨rfl,rfl,_⟩:=n2;have yw:∀i x,(B.cells.drop off)[i]? = aa x->∃y,c[off+i]? = aa y/\VR C w.heap x y/\y.oneCell' = ad:=λi x hi=>by
       rw[oB]at hi;exact n4 (off+i) x hi
      have Il:∀i y,l[i]? = aa y->bC y=ad/\∃v,VR C2 w.heap y v/\v.cells.size=ba B.k/\∀j,j<ba B.k->c[off+i*ba B.k+j]? = v.cells[j]?:=λi y hi=>by
       have acs:i<len:=by
        have:=(dp.1 hi).1;omega
       obtain⟨z,z1,z2⟩:=Ik B.k len (B.cells.drop off) aT i acs
       obtain⟨y', y1,y2⟩:=rJ i z z1;rw[hi]at y1;simp at y1;subst y1;have hp:part B.cells (off+i*ba B.k) B.k=aa z:=by
        cases hk:B.k with
        |none=>simp only[hk,part,yW,oB]at z2 ⊢;exact z2
        |some n=>
         simp only[hk,part,List.length_drop,List.drop_drop]at z2 ⊢;split at z2
         .rw[aD ax];exact z2
         .simp at z2
       obtain⟨val,p1,p2,p3,_⟩:=Ec n4 hp;obtain⟨q1,q2⟩:=ih z y val y2 p1;exact⟨q1,val,q2,p2,p3⟩
      refine⟨rfl,?_⟩;unfold VR;refine⟨DJ λx hx=>?_,.inr ⟨id,o,cap,ba B.k,c,el,(0,0),?_,ax,hf.own _ ⟨b,u,B,ho,mZ hs⟩,g1,kF.of λi x hi=>?_⟩⟩
      .obtain⟨i,hi⟩:=List.getElem?_of_mem hx
       exact(Il i x hi).1
      .rw[N1,hlen]
      .have ke :=(dp.1 hi).1
       obtain rfl:=g3 ax
       exact(Il i x hi).2
  |ptr b u off=>
   simp only[view]at h;cases hu:upto σ b u with
   |none=>simp[hu]at h
   |some B=>
    simp only[hu]at h;split at h
    case isFalse=>simp at h
    rename_i hle;simp only[bd,dA]at hle;cases hp:part B.cells 0 B.k with
    |none=>simp[hp]at h
    |some z=>
     cases hz:view σ fr f z with
     |none=>simp[hp,hz]at h
     |some z' =>
      simp[hp,hz]at h;subst h;unfold VR at hv;obtain⟨_,jh,hv⟩:=hv;obtain⟨id,ho⟩:=kJ b u B jh hu;obtain⟨_,e1,e3,e4⟩:=hg.mT b u B _ ho;have hv:=hv B _ ho;have hs:B.st = .live:=by
       have:=hle.2
       revert this
       cases B.st<;>simp[fR.isLive]
      have hv:=hv hs;subst hv;obtain⟨n1,c,el,n2,n3,n4⟩:=hg.live b u B _ ho hs;obtain⟨val,p1,p2,p3,_⟩:=Ec n4 hp;obtain⟨q1,q2⟩:=ih z z' val hz p1;obtain⟨⟨rfl,_⟩,_⟩:=hle;exact⟨rfl,by unfold VR;exact⟨q1,id,0,c,el,(0,0),val,rfl,hf.own _ ⟨b,u,B,ho,mZ hs⟩,n2,q2,λj hj=>p3 j ax⟩⟩
  |agg l=>
   simp only[view]at h;cases hm:cu (view σ fr f) l with
   |none=>simp[hm]at h
   |some m=>
    simp[hm]at h;subst h;unfold VR at hv;obtain⟨vs,e,hl,hc⟩:=hv;obtain⟨h1,h2⟩:=Ax ih hm hl;exact⟨by simpa[bC]using h1,by unfold VR;exact⟨vs,e,h2,hc⟩⟩
  |bY l=>simp[view]at h
  |func g l=>
   simp only[view]at h;cases hm:cu (view σ fr f) l with
   |none=>simp[hm]at h
   |some m=>
    simp[hm]at h;subst h;unfold VR at hv;obtain⟨vs,e,hl⟩:=hv;obtain⟨h1,h2⟩:=Ax ih hm hl;exact⟨by simpa[bC]using h1,by unfold VR;exact⟨vs,e,h2⟩⟩
  |iface t z=>
   simp only[view]at h;cases hm:view σ fr f z with
   |none=>simp[hm]at h
   |some m=>
    simp[hm]at h;subst h;unfold VR at hv;obtain⟨val,e,hl⟩:=hv;obtain⟨h1,h2⟩:=ih z m val hm hl;exact⟨by simpa[bC]using h1,by unfold VR;exact⟨val,e,h2⟩⟩
  |aX nn l=>
   simp only[view]at h;cases fr with
   |true=>simp at h
   |false=>
    simp at h;subst h;refine⟨rfl,?_⟩;exact VR.gJ (x:=.aX nn l) (VR.free ⟨hf.aX rfl,λ_ _=>rfl⟩ _ _ rfl hv)
  |bN z=>
   simp only[view]at h;cases fr with
   |true=>simp at h
   |false=>
    simp at h;subst h;exact⟨rfl,VR.free ⟨hf.aX rfl,λ_ _=>rfl⟩ _ _ rfl hv⟩
  |aJ=>simp[view]at h;subst h;exact⟨rfl,VR.gJ (x:=.aJ) hv⟩
  |emp=>simp[view]at h;subst h;exact⟨rfl,VR.gJ (x:=.emp) hv⟩
  |arr l=>simp[view]at h
  |aW=>simp[view]at h
  |cZ b=>
   simp[view]at h;subst h;unfold VR at hv;obtain⟨⟨a,rfl⟩,_⟩:=hv;exact⟨rfl,rfl⟩
  |_=>simp[view]at h;subst h;exact⟨rfl,hv⟩
def Oy{σ:aq}{C:Ctx}{w:World}(a:∀b u B,C.lim b u->upto σ b u=aa B->∃id,C.own b u=aa (B,id)) (i:Good C w) (j:Qc fr C C2)
  {y:AV} {v:Value} (h:cK σ fr x=aa y) (d:VR C w.heap x v):VR C2 w.heap y v:=by
 by_cases n:∃l,x = .bY l
 .obtain⟨l,rfl⟩:=n
  simp only[cK]at h;cases g:cu (view σ fr vd) l with
  |none=>simp[g]at h
  |some m=>
   simp[g]at h;subst h;unfold VR at d;obtain⟨o,e,p⟩:=d;unfold VR;exact⟨o,e,(Ax (λx y v=>DH a i j vd x y v) g p).2⟩
 .have:cK σ fr x=view σ fr vd x:=by
   cases x<;>first|rfl|exact absurd ⟨_,rfl⟩ n
  rw[this]at h;exact(DH a i j vd x y v h d).2
def acu{C:Ctx}{H:Array Obj}{z:AV}{y:Value}(b:jQ x) (h:VR C H x y) (d:part x.cells off k=aa z) :
  ∃v,VR C H z v/\v.cells.size=ba k/\(∀j,j<ba k->y.cells[off+j]? = v.cells[j]?)/\(k=ab->v.cells = #[v])/\(k ≠ ab->∃vs,v = .agg vs):=by
 obtain⟨e,g⟩:=VR.cells b h;refine Ec (λi l m=>?_) d;obtain⟨v,a,n⟩:=e.get i l m;refine⟨v,iQ,n,g v (ud a)⟩
end Ab
namespace Ab
open Go
def cg (P:Program) (t:TypeId) (k:Option Nat):Bool:=
 match P.underlying t,P.info? t with
 |some d,aa i=>match d,k with
  |.struct _,aa n=>i.size==n
  |.array _ _,aa n=>i.size==n
  |.struct _,ab=>ae
  |.array _ _,ab=>ae
  |_,ab=>i.size==1
  |_,_=>ae
 |_,_=>ae
def cS (P:Program) (t:TypeId) (n:Nat):Bool:=
 match P.info? t with
 |some i=>i.size==n
 |none=>ae
def bF (P:Program) (t:TypeId):Option TypeId:=
 match P.underlying t with
 |some (.slice e)=>aa e
 |_=>ab
def lM:Value->AV->Bool
 |.int .i64 n,.int m=>n==m
 |.int k n,.ik j m=>(match kY j with|some K=>decide (k=K)|none=>ae)&&n==m
 |.bool a,.bool b=>a==b
 |.slice ab 0 0,.aJ=>ad
 |.pointer ab,.jj=>ad
 |.map ab,.rF=>ad
 |.nilFunc,.lS=>ad
 |.nilIface,.iR=>ad
 |.string s,.str l=>s.data.toList==l
 |_,_=>ae
def fA:List Value->ao->Bool
 | [],[]=>ad
 |v::vs,x::xs=>lM v x&&fA vs xs
 |_,_=>ae
def jB (P:Program) (t:TypeId) (z:ao):Bool:=
 match P.info? t with
 |some i=>match i.zero with
  |some v=>fA v.cells.toList z
  |none=>ae
 |none=>ae
def dD (P:Program) (t:TypeId):Bool:=
 match P.info? t with
 |some i=>match i.zero with
  |some v=>v.cells.size==i.size
  |none=>ae
 |none=>ae
def gv (P:Program) (t:TypeId):Bool:=
 match P.info? t with
 |some i=>decide (i.bytes<=4096)
 |none=>ae
def lW (f:Operand->Rf->Bool):List Operand->List Rf->Bool
 | [],[]=>ad
 |x::xs,y::ys=>f x y&&lW f xs ys
 |_,_=>ae
def xR:BinOp->Dg->Bool
 |.add,.add | .add,.wq | .sub,.sub | .mul,.mul | .quo,.quo | .rem,.rem | .lss,.lss | .leq,.leq | .gtr,.gtr | .geq,.geq | .eql,.eql | .neq,.neq=>ad
 |_,_=>ae
def nM (f:Operand->Rf->Bool):Option Operand->Option Rf->Bool
 |none,ab=>ad
 |some x,aa y=>f x y
 |_,_=>ae
def iJ (f:Operand->Rf->Bool) (place:Nat->Option (Nat×Nat)):List (Nat×Operand)->List (Nat×Nat×Rf)->Bool
 | [],[]=>ad
 |(i,x)::xs,(o,n,y)::ys=>(match place i with|some (a,b)=>a==o&&b==n|none=>ae)&&f x y&&iJ f place xs ys
 |_,_=>ae
def placesOf (P:Program):List Field->Option (List (Nat×Nat))
 | []=>aa []
 |f::r=>match P.info? f.type,placesOf P r with
  |some i,aa l=>aa ((f.offset,i.size)::l)
  |_,_=>ab
def ij:Nat->List (Nat×Operand)->Bool
 |_,[]=>ad
 |k,(i,_)::r=>i==k&&ij (k+1) r
def kX:Operand->Bool
 |.const (.slice ab 0 0)=>ad
 |_=>ae
def se (P:Program) (m:String):List (Nat×Nat)->Bool
 | []=>ad
 |(t,f)::r=>(match P.info? t with
  |some i=>(match i.methods.find? (·.name==m)with
   |some x=>x.path.isEmpty&&(match x.func with
    |some (g,ptr)=>g==f&&(match P.underlying t with
     |some (.pointer _)=>ptr
     |some _=>!ptr
     |none=>ae)
    |none=>ae)
   |none=>ae)
  |none=>ae)&&se P m r
def dm (P:Program) (f:Nat):Bool:=
 match P.funcs[f]? with
 |some fn=>fn.body.isSome && !(fn.name == "runtime.NumGoroutine")
 |none=>ae
def mD (o:BinOp) (neg:Bool):Bool:=
 match o with
 |.eql=>!neg
 |.neq=>neg
 |_=>ae
def gU (P:Program):List Field->Nat->Bool
 | [],_=>ad
 |f::r,o=>f.name != "_" && (match P.underlying f.type with|some (.int .i64)=>ad|_=>ae)&&cg P f.type ab&&f.offset==o&&gU P r (o+1)
def A7 (P:Program) (t:TypeId) (n:Nat):Bool:=(match P.underlying t with
 |some (.struct fs)=>fs.size==n&&gU P fs.toList 0
 |_=>ae) && !P.stoodInHeld t && !P.eqGuardType P.depth t
def lN (P:Program):List Field->Nat->Bool
 | [],_=>ad
 |f::r,o=>f.name != "_" && (match P.underlying f.type with|some .string=>ad|_=>ae)&&cg P f.type ab&&f.offset==o&&lN P r (o+1)
def A8 (P:Program) (t:TypeId) (n:Nat):Bool:=(match P.underlying t with
 |some (.struct fs)=>fs.size==n&&lN P fs.toList 0
 |_=>ae) && !P.stoodInHeld t && !P.eqGuardType P.depth t
def eH (P:Program) (t:TypeId) (a:Nat):Bool:=match a,P.underlying t with
 |0,aa (.int .i64)=>ad
 |1,aa .string=>ad
 |n+2,aa (.struct fs)=>fs.size==n&&gU P fs.toList 0 && !P.stoodInHeld t
 |n+2,aa (.array m e)=>m==n&&(match P.underlying e with|some (.int .i64)=>ad|_=>ae)&&cg P e ab
 |_,_=>ae
def p6 (P:Program) (t:TypeId) (z:AV):Bool:=match P.info? t with
 |some i=>match i.zero with
  |some v=>lM v z&&bC z
  |none=>ae
 |none=>ae
def nj (P:Program) (R:Operand->Rf->Bool):Op->dN->Bool
 |.move x,.mv y=>R x y
 |.assign x,.mv y=>R x y
 |.assign x,.nl _=>kX x
 |.binOp o _ x y _,.bin T h r =>xR o T && R x h && R y r
 |.binOp o t x y _,.seq neg n h r =>mD o neg&&A7 P t n&&R x h && R y r
 |.binOp o t x y _,.beq neg h r =>mD o neg&&(match P.underlying t with|some .bool=>ad|_=>ae)&&R x h && R y r
 |.binOp o t x y _,.pI neg z=>mD o neg&&(bF P t).isSome&&((kX y&&R x z)||(kX x&&R y z))
 |.unOp .not _ x,.not y=>R x y
 |.unOp .neg _ x,.bin .sub (.c (.int 0)) y=>R x y
 |.pick c a b,.pick H U V =>R c H && R a U && R b V
 |.call {callee:=.builtin .len,args,argTypes},.len y=>(match args.toList,argTypes.toList with
  | [x],[t]=>(bF P t).isSome&&R x y
  |_,_=>ae)
 |.call {callee:=.builtin .max,args,..},.mx ad h r =>(match args.toList with
  | [x,y]=>R x h && R y r
  |_=>ae)
 |.call {callee:=.builtin .min,args,..},.mx ae h r =>(match args.toList with
  | [x,y]=>R x h && R y r
  |_=>ae)
 |.fieldAddr s x f,.eu y off k=>(match P.underlying s with
  |some (.struct fs)=>(match fs[f]? with
   |some I=>I.offset==off&&cg P I.type k && !cS P I.type 0
   |none=>ae)
  |_=>ae)&&R x y
 |.indexAddr t x i,.cz h F st=>(match bF P t with
  |some e=>cS P e st
  |none=>ae)&&R x h && R i F
 |.indexAddr t x i,.gy h F n k=>(match P.underlying t with
  |some (.array m e)=>m==n&&cg P e k&&decide (2<=m)
  |_=>ae)&&R x h && R i F
 |.nilCheck x,.p7 y=>R x y
 |.box _ x,.ig y=>R x y
 |.box t x,.xB y k=>cg P t k&&R x y
 |.alloc t,.oz z k=>jB P t z&&cg P t k
 |.alloc t,.iA n=>cS P t n&&(match P.info? t with|some i=>(match i.zero with|some v=>v.cells.size==n|none=>ae)|none=>ae)
 |.store t p x,.kP J h n=>cS P t n&&R p J && R x h
 |.store t p x,.st J h n=>cS P t n&&R p J && R x h
 |.load t x,.ld y k=>cg P t k&&R x y
 |.load t x,.ew y k=>cg P t k&&R x y
 |.build t ps,.ju z S=>jB P t z&&(match P.underlying t with
  |some (.struct fs)=>(match placesOf P fs.toList with|some l=>iJ R (λi=>l[i]?) ps.toList S|none=>ae)
  |some (.array _ e)=>(match P.info? e with|some i=>iJ R (λj=>aa (j*i.size,i.size)) ps.toList S|none=>ae)
  |_=>ae)
 |.extract x i,.ext y j=>i==j&&R x y
 |.makeFunc (.func f) fst G,.D4 g q=>fst.isEmpty&&f==g&&lW R G.toList q
 |.makeInterface t x,.NP u y=>t==u&&(match P.underlying t with|some (.interface _)=>ae|some _=>ad|none=>ae)&&R x y
 |.buildSlice t n ps,.cq q st=>(match bF P t with|some e=>cS P e st&&dD P e&&decide (n*st<=2^24)|none=>ae)&&n==ps.size&&ij 0 ps.toList&&lW R (ps.toList.map (·.2)) q
 |.buildSlice t n ps,.dV q st=>(match bF P t with|some e=>cS P e st&&dD P e&&decide (n*st<=2^24)|none=>ae)&&n==ps.size&&ij 0 ps.toList&&lW R (ps.toList.map (·.2)) q
 |.buildSlice t n ps,.oA q k=>(match bF P t with|some e=>cg P e k&&dD P e&&decide (n*ba k<=2^24)|none=>ae)&&n==ps.size&&ij 0 ps.toList&&lW R (ps.toList.map (·.2)) q
 |.slice t x K L ab,.qp y C D st=>(match bF P t with|some e=>cS P e st|none=>ae)&&R x y&&nM R K C && nM R L D
 |.convert s d x,.Gy y=>(match P.underlying s,P.underlying d with|some (.int _),aa (.int .i64)=>ad|_,_=>ae)&&R x y
 |.makeSlice t l c,.kG W H z k=>(match bF P t with|some e=>cg P e k&&jB P e z&&gv P e|none=>ae)&&R l W && R c H
 |.call {callee:=.builtin .append,args,argTypes},.app M h k=>(match args.toList,argTypes.toList with
  | [s,x],[t,N]=>(match bF P t with|some e=>cg P e k&&gv P e&&dD P e|none=>ae)&&(bF P N).isSome&&R s M && R x h
  |_,_=>ae)
 |.call {callee:=.builtin .append,args,argTypes},.dH M h k=>(match args.toList,argTypes.toList with
  | [s,x],[t,N]=>(match bF P t with|some e=>cg P e k&&gv P e&&dD P e|none=>ae)&&(bF P N).isSome&&R s M && R x h
  |_,_=>ae)
 |.call {callee:=.value (.func f),args,..},.ml g q=>f==g&&dm P f&&lW R args.toList q
 |.call {callee:=.value (.func f),args,..},.vC g q=>f==g&&dm P f&&lW R args.toList q
 |.call {callee:=.value (.func f),args,..},.can g q=>f==g&&dm P f&&lW R args.toList q
 |.call {callee:=.value (.func f),args,..},.gm g q=>f==g&&dm P f&&lW R args.toList q
 |.call {callee:=.value x,args,..},.mX y q=>R x y&&lW R args.toList q
 |.call {callee:=.value x,args,..},.mB y q=>R x y&&lW R args.toList q
 |.call {callee:=.invoke x m,args,..},.inv y O q=>R x y&&lW R args.toList q&&se P m O
 |.call {callee:=.builtin .clear,args,argTypes},.xF y z k=>(match args.toList,argTypes.toList with
  | [x],[t]=>(match bF P t with|some e=>cg P e k&&jB P e z|none=>ae)&&R x y
  |_,_=>ae)
 |.makeMap _ ab,.Az=>ad
 |.lookup t x k ok,.xG h w A z Q =>(match P.underlying t with
  |some (.map B e)=>eH P B w&&p6 P e z
  |_=>ae)&&ok==Q && R x h && R k A
 |.call {callee:=.builtin .len,args,argTypes},.De h =>(match args.toList,argTypes.toList with
  | [x],[t]=>(match P.underlying t with|some (.map _ _)=>ad|_=>ae)&&R x h
  |_,_=>ae)
 |.mapUpdate t m k x,.xE E w A h =>(match P.underlying t with
  |some (.map B _)=>eH P B w
  |_=>ae)&&R m E && R k A && R x h
 |.insert t m k x,.xE E w A h =>(match P.underlying t with
  |some (.map B _)=>eH P B w
  |_=>ae)&&R m E && R k A && R x h
 |.convert s d x,.NM y=>(match P.underlying s,P.underlying d with|some (.int _),aa (.int .u8)=>ad|_,_=>ae)&&R x y
 |.convert s d x,.DR y=>(match P.underlying s,P.underlying d with|some (.slice e),aa .string=>(match P.underlying e with|some (.int .u8)=>ad|_=>ae)|_,_=>ae)&&R x y
 |.mapUpdate t m k x,.Af E w A h =>(match P.underlying t with
  |some (.map B _)=>eH P B w&&decide (w<2)
  |_=>ae)&&R m E && R k A && R x h
 |.insert t m k x,.Af E w A h =>(match P.underlying t with
  |some (.map B _)=>eH P B w&&decide (w<2)
  |_=>ae)&&R m E && R k A && R x h
 |.convert s d x,.NH y=>(match P.underlying s,P.underlying d with|some .string,aa (.slice e)=>(match P.underlying e with|some (.int .u8)=>ad|_=>ae)|_,_=>ae)&&R x y
 |.index t x i,.NN h F =>(match P.underlying t with|some .string=>ad|_=>ae)&&R x h && R i F
 |.convert s d x,.DZ y=>(match P.underlying s,P.underlying d with|some (.int _),aa (.int .u8)=>ad|_,_=>ae)&&R x y
 |.binOp .shr _ x y _,.HU h r =>R x h && R y r
 |.binOp o t x y _,.NO neg h r =>mD o neg&&(match P.underlying t with|some (.int _)=>ad|_=>ae)&&R x h && R y r
 |.slice t x K L ab,.NK y C D st=>(match bF P t with|some e=>cS P e st|none=>ae)&&R x y&&nM R K C && nM R L D
 |.buildSlice t n ps,.ue st=>(match bF P t with|some e=>cS P e st&&dD P e|none=>ae)&&n==0&&ps.size==0
 |.binOp o t x y _,.NR neg n h r =>mD o neg&&A8 P t n&&R x h && R y r
 |_,_=>ae
def dN.lj:dN->Bool
 |.pI .. | .ld .. | .qp .. | .can .. | .vC .. | .xB .. | .oz .. | .kG .. | .oA .. | .nl .. | .app .. | .st .. | .dH .. | .gm .. | .mB .. | .uB .. | .xF .. | .Az | .xG .. | .De .. | .xE .. | .NQ .. | .DR .. | .Af ..=>ae
 |_=>ad
end Ab
namespace Ab
open Go
variable{P:Program}
variable{t:TypeId}
def mr{n:Nat}(h:cS P t n=ad) (w:World):(Go.sizeOf t).run P w = .ok n w:=by
 unfold cS at h;cases a:P.info? t with
 |none=>simp[a]at h
 |some i=>
  simp[a]at h;rw[run_sizeOf w a];simp[Program.cellsOf,a,h]
variable{k:Option Nat}
def px(h:cg P t k=ad):cS P t (ba k)=ad:=by
 unfold cg at h;unfold cS;cases a:P.underlying t with
 |none=>simp[a]at h
 |some d=>
  cases b:P.info? t with
  |none=>simp[a,b]at h
  |some i=>
   simp only[a,b]at h ⊢;cases d<;>cases k<;>simp_all [ba]
def vY(h:cg P t k=ad) (w:World):(isAgg t).run P w = .ok k.isSome w:=by
 unfold cg at h;cases a:P.underlying t with
 |none=>simp[a]at h
 |some d=>
  cases b:P.info? t with
  |none=>simp[a,b]at h
  |some i=>
   simp only[a,b]at h;simp only[isAgg,bJ,run_underlying a,bO];cases d<;>cases k<;>simp_all
def oy{e:TypeId}(h:bF P t=aa e) (w:World):(underlying t).run P w = .ok (.slice e) w:=by
 unfold bF at h;cases a:P.underlying t with
 |none=>simp[a]at h
 |some d=>cases d<;>simp[a]at h;subst h;exact run_underlying a w
def Qd{w:World}(e:cg P t k=ad){aQ off:Nat}{c:Array Value}{el:TypeId}{h:Nat×Nat}{v:Value}
  (l:w.heap[aQ]? = aa (.cells c el h)) (g:v.cells.size=ba k) (m:∀j,j<ba k->c[off+j]? = v.cells[j]?) (o:k=ab->v.cells = #[v]) (p:k ≠ ab->∃vs,v = .agg vs) :
  (loadVar t ⟨aQ,off,ab⟩).run P w = .ok v w:=by
 have a:∀j,j<ba k->w.cell? ((⟨aQ,off,ab⟩:Addr).add j)=aa (v.cells.getD j undef):=λj b=>by
  have:((⟨aQ,off,ab⟩:Addr).add j)=⟨aQ,off+j,ab⟩:=by
   unfold Addr.add;split
   .rename_i d;subst d;rfl
   .rfl
  rw[this];simp only[World.cell?,l];simp only[vZ,ff,fv];rw[m j b];have:j<v.cells.size:=ax
  simp[this]
 unfold loadVar;simp only[bJ,vY e,bO];cases k with
 |none=>
  simp only[vZ,ff,fv];have d:=a 0 (by simp[ba])
  simp only[Addr.add,dM]at d;have q:=o rfl;rw[q]at d;simp at d;simp[load,Sem.run,d]
 |some n=>
  obtain⟨vs,rfl⟩:=p aA
  simp only[Option.isSome_some,dM,bJ,mr (px e),bO,ba];have r:=run_loadCells (P:=P) (w:=w) ⟨aQ,off,ab⟩ n (λj=>vs.getD j undef) (λj b=>a j b);rw[r];simp only[bO,bX];simp only[Value.cells,ba]at g
  congr 2
  apply Array.ext
  .simp[g]
  .intro i x s
   have u:i<vs.size:=by simpa using s
   simp[u]
end Ab
namespace Ab
open Go
variable{P:Program}
variable{v:Value}
def acv{P:Program}{s:Sem Value}{w:World}(h:s.run P w = .ok v w):(do pure (Next.value (<-s)):Sem Next).run P w = .ok (.value v) w:=by
 simp only[bJ,h,bO,bX]
def HS{C:Ctx}{H:Array Obj}{x:AV}(h:lM v x=ad):VR C H x v:=by
 unfold lM at h;split at h<;>first
  |(simp at h;done)
  |skip
 .simp at h;subst h;unfold VR;rfl
 .rename_i k n j m
  cases a:kY j with
  |none=>simp[a]at h
  |some K=>
   simp[a]at h;obtain⟨rfl,rfl⟩:=h;unfold VR;exact⟨_,a,rfl⟩
 .simp at h;subst h;unfold VR;rfl
 .unfold VR;rfl
 .unfold VR;rfl
 .unfold VR;rfl
 .unfold VR;rfl
 .unfold VR;rfl
 .simp at h
  unfold VR;rw[<-h]
def Qe{C:Ctx}{H:Array Obj}:∀{vs:List Value}{xs:ao},fA vs xs=ad->cH C H xs vs
 | [],[],_=>rfl
 |v::vs,x::xs,h=>by
  simp only[fA,bd]at h;exact⟨v,vs,rfl,HS h.1,Qe h.2⟩
 | [],_::_,h=>by simp[fA]at h
 |_::_,[],h=>by simp[fA]at h
def oD{C:Ctx}{H:Array Obj}{R:Operand->Rf->Bool}{ρ:Operand->Value}{r:Rf->AV}(a:∀x y,R x y=ad->VR C H (r y) (ρ x)) :
  ∀{xs:List Operand} {ys:List Rf},lW R xs ys=ad->cH C H (ys.map r) (xs.map ρ)
 | [],[],_=>rfl
 |x::xs,y::ys,h=>by
  simp only[lW,bd]at h;exact⟨ρ x,xs.map ρ,rfl,a _ _ h.1,oD a h.2⟩
 | [],_::_,h=>by simp[lW]at h
 |_::_,[],h=>by simp[lW]at h
def yX{n:Int}(h:lA n=ad):IntKind.i64.wrap n=n:=by
 simp only[lA,bd,fy]at h;exact IntWalk.i64_in n ⟨ax,ax⟩
end Ab
namespace Ab
open Go
variable{P:Program}
section plain
variable{ρ:Operand->Value}{r:Rf->AV}{w:World}{C:Ctx}{H:Array Obj}{R:Operand->Rf->Bool}
def Plain (P:Program) (ρ:Operand->Value) (o:Oper) (w:World) (C:Ctx) (H:Array Obj) (x:AV):Prop:=
 ∃v,(execOp ρ o).run P w = .ok (.value v) w/\VR C H x v
variable{x:AV}
def gk{o:Oper}{s:Sem Value}{v:Value}(a:execOp ρ o=(do pure (Next.value (<-s)))) (h:s.run P w = .ok v w) (b:VR C H x v):Plain P ρ o w C H x:=
 ⟨v,by rw[a];exact acv h,b⟩
def acw (n:Int):IntKind.i64.wrap n=wr n:=by
 unfold wr;simp only[IntKind.wrap,IntKind.bits,IntKind.signed,Bool.true_and,fy,show(2:Int)^64=18446744073709551616 by decide,show(2:Int)^(64-1)=9223372036854775808 by decide]
 split<;>omega
def acx{op:BinOp}{b:Dg}{n m:Int}(hb:xR op b=ad) (hx:bin b n m=aa x) (t:TypeId) :
  ∃v,(binOp op t (.int .i64 n) (.int .i64 m)).run P w = .ok v w/\VR C H x v:=by
 unfold xR at hb;split at hb<;>simp only[bin]at hx
 case h_13=>simp at hb
 all_goals simp only[binOp,ne_eq,not_true_eq_false,fv,Op.intArith,Op.intCmp,Op.intDiv]
 case h_1=>split at hx<;>simp at hx;rename_i h;subst hx;exact⟨_,rfl,by unfold VR;rw[yX h]⟩
 case h_2=>simp at hx;subst hx;exact⟨_,rfl,by unfold VR;rw[acw]⟩
 case h_3=>split at hx<;>simp at hx;rename_i h;subst hx;exact⟨_,rfl,by unfold VR;rw[yX h]⟩
 case h_4=>split at hx<;>simp at hx;rename_i h;subst hx;exact⟨_,rfl,by unfold VR;rw[yX h]⟩
 case h_5=>
  by_cases h0:m=0
  .simp[h0]at hx
  .simp[h0]at hx;obtain⟨h,rfl⟩:=hx
   simp only[h0,fv];exact⟨_,rfl,by unfold VR;rw[yX h]⟩
 case h_6=>
  by_cases h0:m=0
  .simp[h0]at hx
  .simp[h0]at hx;subst hx
   simp only[h0,fv];exact⟨_,rfl,iy⟩
 all_goals
  simp at hx;subst hx;refine⟨_,rfl,?_⟩;unfold VR
  first|rfl|(simp[bne])
end plain
end Ab
namespace Ab
open Go
variable{P:Program}
def A9{x:AV}(h:bC x=ad):jQ x:=by
 refine⟨?_,λl=>?_⟩<;>(intro e;subst e;simp[bC]at h)
section
variable{ρ:Operand->Value}{r:Rf->AV}{w:World}{C:Ctx}{R:Operand->Rf->Bool}{ce:CE}{σ:aq}{nl:Nat}{ps:List dd}
def sK (b o n:Nat):(⟨b,o,ab⟩:Addr).add n=⟨b,o+n,ab⟩:=by
 unfold Addr.add;split
 .rename_i h;subst h;rfl
 .rfl
variable{v:Value}
def VR.bV{H:Array Obj}{n:Int}(h:VR C H (.int n) v):v = .int .i64 n:=h
def VR.nP{H:Array Obj}{n:Bool}(h:VR C H (.bool n) v):v = .bool n:=h
variable{o:Oper}{op:BinOp}{t': TypeId}{x:Operand}{x' y': Rf}{z:AV}{p:Option dd}
def aaW{t: TypeId}{y:Operand}{b:Dg}(j:o.op = .binOp op t x y t') (l:xR op b=ad)
  (g:VR C w.heap (r x') (ρ x)) (h:VR C w.heap (r y') (ρ y)) (a:ev ce σ nl ps r (.bin b x' y')=aa (z,p)):Plain P ρ o w C w.heap z/\p=ab:=by
 simp only[ev]at a;cases d : r x' <;>simp only[d]at a<;>try(simp at a;done)
 cases e : r y' <;>simp only[e]at a<;>try(simp at a;done)
 rename_i n m;rw[d]at g;rw[e]at h;have g:=g.bV;have h:=h.bV;cases i:Ab.bin b n m with
 |none=>simp[i]at a
 |some B =>
  simp[i]at a;obtain⟨rfl,rfl⟩:=a;obtain⟨v,q,u⟩:=acx (P:=P) (w:=w) (C:=C) (H:=w.heap) l i t;refine⟨gk (s:=do eqGuard op t x y (ρ x) (ρ y);binOp op t (ρ x) (ρ y)) (by simp only[execOp,j]) ?_ u,rfl⟩
  rw[g,h];have A:(eqGuard op t x y (.int .i64 n) (.int .i64 m)).run P w = .ok () w:=by
   unfold eqGuard;split<;>simp
  simp only[bJ,A,bO,q]
def aaY{t: TypeId}{y:Operand}{neg:Bool}(q:o.op = .binOp op t x y t')
  (d:mD op neg=ad) (l:(match P.underlying t with|some .bool=>ad|_=>ae)=ad)
  (i:VR C w.heap (r x') (ρ x)) (j:VR C w.heap (r y') (ρ y)) (e:ev ce σ nl ps r (.beq neg x' y')=aa (z,p)):Plain P ρ o w C w.heap z/\p=ab:=by
 have u:P.underlying t=aa .bool:=by
  split at l
  .assumption
  .simp at l
 simp only[ev]at e;cases g : r x' <;>simp only[g]at e<;>try(simp at e;done)
 cases h : r y' <;>simp only[h]at e<;>try(simp at e;done)
 rename_i a b;rw[g]at i;rw[h]at j;have i:=i.nP;have j:=j.nP;simp at e;obtain⟨rfl,rfl⟩:=e;refine⟨gk (s:=do eqGuard op t x y (ρ x) (ρ y);binOp op t (ρ x) (ρ y)) (v:=.bool ((a==b) != neg)) (by simp only[execOp,q]) ?_ iy,rfl⟩
 rw[i,j];have m:(eqGuard op t x y (.bool a) (.bool b)).run P w = .ok () w:=by
  unfold eqGuard;split<;>simp
 have n:(Op.equal t (.bool a) (.bool b)).run P w = .ok (a==b) w:=by
  unfold Op.equal Op.maxDepth Op.equalIn;simp only[bJ,run_underlying u,bO,bX]
 unfold mD at d;split at d
 .simp only[bJ,m,bO,binOp,n,bX]
  simp at d;subst d;simp
 .simp only[bJ,m,bO,binOp,n,bX]
  subst d;simp
 .simp at d
def AL:∀{xs ys:ao}{b:Bool},fV xs ys=aa b->∃e g:ak,xs=e.map .int/\ys=g.map .int/\ah e=ah g/\b=decide (e=g)
 | [],[],b,h=>by simp[fV]at h;subst h;exact⟨[],[],rfl,rfl,rfl,aA⟩
 |.int a::xs,.int c::ys,b,h=>by
  simp only[fV]at h;cases i:fV xs ys with
  |none=>rw[i]at h;simp at h
  |some d=>
   rw[i]at h;simp at h;obtain⟨e,g,j,l,m,n⟩:=AL i;refine⟨a::e,c::g,by rw[j];rfl,by rw[l];rfl,by simp[m],?_⟩
   rw[<-h,n,nm];simp
def yI{H:Array Obj}:∀{a:ak}{vs:List Value},cH C H (a.map .int) vs->vs=a.map (Value.int .i64)
 | [],vs,h=>h
 |x::a,vs,h=>by
  obtain⟨v,s,rfl,b,d⟩:=h;rw[yI d,b.bV];rfl
def HP{d:Nat}{a b:ak}{w:World}(q:ah a=ah b):∀{fs:List Field}{o:Nat},gU P fs o=ad->o+ah fs=ah a->
  (Op.eqFields (d+1) (a.map (Value.int .i64)).toArray (b.map (Value.int .i64)).toArray fs).run P w = .ok (decide (a.drop o=b.drop o)) w
 | [],o,_,i=>by
  simp only[Op.eqFields,bX];rw[kf (by simp at i;omega),kf (by simp at i;omega)]
  simp
 |f::fs,o,j,i=>by
  simp only[gU,bd,dA,bne_iff_ne]at j;obtain⟨⟨⟨⟨r,l⟩,s⟩,u⟩,x⟩:=j;have y:P.underlying f.type=aa (.int .i64):=by
   split at l
   .assumption
   .simp at l
  simp only[cT]at i;have m:o<ah a:=ax
  have n:o<ah b:=ax
  have p:∀(Z:ak) (h:o<ah Z),(Go.part f.type (Z.map (Value.int .i64)).toArray f.offset).run P w = .ok (.int .i64 Z[o]) w:=λZ h=>by
   have z:(Z.map (Value.int .i64)).toArray[o]? = aa (.int .i64 Z[o]):=by simp[h]
   simp only[Go.part,bJ,vY s,vZ,bO,ff,fv,u,z,bX]
  simp only[Op.eqFields,aD r,bJ,p a m,p b n,bO,run_equalIn_int w d f.type .i64 .i64 _ _ y];have A:=HP (d:=d) (w:=w) q x ax
  have g:(a.drop o=b.drop o)↔(a[o]=b[o]/\a.drop (o+1)=b.drop (o+1)):=by
   rw[rH m,rH n,List.cons.injEq]
  by_cases e:a[o]=b[o]
  .have hd:decide (a.drop (o+1)=b.drop (o+1))=decide (a.drop o=b.drop o):=by
    rw[nm,decide_eq_true_iff,decide_eq_true_iff,g];exact⟨λh=>⟨e,h⟩,λh=>h.2⟩
   have B:(a[o]==b[o])=ad:=iT
   simp only[B,Bool.not_true,ff,fv,A,hd]
  .have C : (a[o]==b[o])=ae:=by simpa using e
   have hd:decide (a.drop o=b.drop o)=ae:=sP λh=>e (g.1 h).1;simp only[C, Bool.not_false,dM,bX,hd]
variable{n:Nat}
def aaX{t: TypeId}{y:Operand}{neg:Bool}(ho:o.op = .binOp op t x y t')
  (fu:mD op neg=ad) (ht:A7 P t n=ad)
  (hx:VR C w.heap (r x') (ρ x)) (hy:VR C w.heap (r y') (ρ y)) (he:ev ce σ nl ps r (.seq neg n x' y')=aa (z,p)):Plain P ρ o w C w.heap z/\p=ab:=by
 unfold A7 at ht;simp only[bd,Bool.not_eq_true']at ht;obtain⟨⟨vH,Im⟩,ht3⟩:=ht;split at vH
 case h_2=>simp at vH
 rename_i fs hu;simp only[bd,dA]at vH;obtain⟨hn,hi⟩:=vH;simp only[ev]at he;cases lh : r x' <;>simp only[lh]at he<;>try(simp at he;done)
 cases tZ : r y' <;>simp only[tZ]at he<;>try(simp at he;done)
 rename_i xs ys;rw[lh]at hx;rw[tZ]at hy;split at he
 case isFalse=>simp at he
 rename_i Zr;cases hb:fV xs ys with
 |none=>rw[hb]at he;simp at he
 |some b=>
  rw[hb]at he;simp at he;obtain⟨rfl,rfl⟩:=he;obtain⟨Xs,Ys,rfl,rfl,hl,rfl⟩:=AL hb;obtain⟨vs,ex,si,_⟩:=hx;obtain⟨us,ey,Dk,_⟩:=hy;rw[yI si]at ex;rw[yI Dk]at ey;have Qf:P.fieldsOf t=fs:=by unfold Program.fieldsOf;rw[hu]
  have NL:ah Xs=n:=by simpa using Zr
  refine⟨gk (s:=do eqGuard op t x y (ρ x) (ρ y);binOp op t (ρ x) (ρ y)) (v:=.bool ((decide (Xs=Ys)) != neg)) mC ?_ iy,rfl⟩
  rw[ex,ey];have hg:=run_eqGuard_agg w op t x y (Xs.map (Value.int .i64)).toArray (Ys.map (Value.int .i64)).toArray ht3;have hq:(Op.equalIn 10000 t (.agg (Xs.map (Value.int .i64)).toArray) (.agg (Ys.map (Value.int .i64)).toArray)).run P w = .ok (decide (Xs=Ys)) w:=by
   rw[show(10000:Nat)=9999+1 from rfl,run_equalIn_struct w 9999 t _ _ (by rw[Qf];exact hu) Im,Qf]
   have:=HP (P:=P) (d:=9998) (w:=w) hl (fs:=fs.toList) (o:=0) hi (by simp[NL,hn])
   simpa using this
  unfold mD at fu;split at fu
  .simp only[bJ,hg,bO,run_eql_struct,hq]
   simp at fu;subst fu;simp
  .simp only[bJ,hg,bO,run_neq_struct,hq]
   subst fu;simp
  .simp at fu
def strVal (s:List UInt8):Value:=.string ⟨s.toArray⟩
def Qg:∀{xs ys:ao}{b:Bool},jI xs ys=aa b->∃e g:List (List UInt8),xs=e.map .str/\ys=g.map .str/\ah e=ah g/\b=decide (e=g)
 | [],[],b,h=>by simp[jI]at h;subst h;exact⟨[],[],rfl,rfl,rfl,aA⟩
 |.str a::xs,.str c::ys,b,h=>by
  simp only[jI]at h;cases i:jI xs ys with
  |none=>rw[i]at h;simp at h
  |some d=>
   rw[i]at h;simp at h;obtain⟨e,g,j,l,m,n⟩:=Qg i;refine⟨a::e,c::g,by rw[j];rfl,by rw[l];rfl,by simp[m],?_⟩
   rw[<-h,n,nm];simp
def Io{H:Array Obj}:∀{a:List (List UInt8)}{vs:List Value},cH C H (a.map .str) vs->vs=a.map strVal
 | [],vs,h=>h
 |x::a,vs,h=>by
  obtain⟨v,s,rfl,b,d⟩:=h;unfold VR at b;rw[Io d,b];rfl
def Qh{d:Nat}{a b:List (List UInt8)}{w:World}(r:ah a=ah b):∀{fs:List Field}{o:Nat},lN P fs o=ad->o+ah fs=ah a->
  (Op.eqFields (d+1) (a.map strVal).toArray (b.map strVal).toArray fs).run P w = .ok (decide (a.drop o=b.drop o)) w
 | [],o,_,i=>by
  simp only[Op.eqFields,bX];rw[kf (by simp at i;omega),kf (by simp at i;omega)]
  simp
 |f::fs,o,j,i=>by
  simp only[lN,bd,dA,bne_iff_ne]at j;obtain⟨⟨⟨⟨u,l⟩,x⟩,y⟩,z⟩:=j;have A:P.underlying f.type=aa .string:=by
   split at l
   .assumption
   .simp at l
  simp only[cT]at i;have m:o<ah a:=ax
  have n:o<ah b:=ax
  have p:∀(Z:List (List UInt8)) (h:o<ah Z),(Go.part f.type (Z.map strVal).toArray f.offset).run P w = .ok (.string ⟨Z[o].toArray⟩) w:=λZ h=>by
   have B:(Z.map strVal).toArray[o]? = aa (.string ⟨Z[o].toArray⟩):=by simp[h,strVal]
   simp only[Go.part,bJ,vY x,vZ,bO,ff,fv,y,B,bX]
  simp only[Op.eqFields,aD u,bJ,p a m,p b n,bO,run_equalIn_string w d f.type _ _ A];have C:=Qh (d:=d) (w:=w) r z ax
  have g:(a.drop o=b.drop o)↔(a[o]=b[o]/\a.drop (o+1)=b.drop (o+1)):=by
   rw[rH m,rH n,List.cons.injEq]
  have q:∀s:List UInt8,ByteArray.toList ⟨s.toArray⟩=s:=λs=>by rw[ByteArray.toList_eq]
  rw[q,q]
  by_cases e:a[o]=b[o]
  .have hd:decide (a.drop (o+1)=b.drop (o+1))=decide (a.drop o=b.drop o):=by
    rw[nm,decide_eq_true_iff,decide_eq_true_iff,g];exact⟨λh=>⟨e,h⟩,λh=>h.2⟩
   have D:(a[o]==b[o])=ad:=iT
   simp only[D,Bool.not_true,ff,fv,C,hd]
  .have E : (a[o]==b[o])=ae:=by simpa using e
   have hd:decide (a.drop o=b.drop o)=ae:=sP λh=>e (g.1 h).1;simp only[E, Bool.not_false,dM,bX,hd]
def abh{t: TypeId}{y:Operand}{neg:Bool}(ho:o.op = .binOp op t x y t')
  (fu:mD op neg=ad) (ht:A8 P t n=ad)
  (hx:VR C w.heap (r x') (ρ x)) (hy:VR C w.heap (r y') (ρ y)) (he:ev ce σ nl ps r (.NR neg n x' y')=aa (z,p)):Plain P ρ o w C w.heap z/\p=ab:=by
 unfold A8 at ht;simp only[bd,Bool.not_eq_true']at ht;obtain⟨⟨vH,Im⟩,ht3⟩:=ht;split at vH
 case h_2=>simp at vH
 rename_i fs hu;simp only[bd,dA]at vH;obtain⟨hn,hi⟩:=vH;simp only[ev]at he;cases lh : r x' <;>simp only[lh]at he<;>try(simp at he;done)
 cases tZ : r y' <;>simp only[tZ]at he<;>try(simp at he;done)
 rename_i xs ys;rw[lh]at hx;rw[tZ]at hy;split at he
 case isFalse=>simp at he
 rename_i Zr;cases hb:jI xs ys with
 |none=>rw[hb]at he;simp at he
 |some b=>
  rw[hb]at he;simp at he;obtain⟨rfl,rfl⟩:=he;obtain⟨Xs,Ys,rfl,rfl,hl,rfl⟩:=Qg hb;obtain⟨vs,ex,si,_⟩:=hx;obtain⟨us,ey,Dk,_⟩:=hy;rw[Io si]at ex;rw[Io Dk]at ey;have Qf:P.fieldsOf t=fs:=by unfold Program.fieldsOf;rw[hu]
  have NL:ah Xs=n:=by simpa using Zr
  refine⟨gk (s:=do eqGuard op t x y (ρ x) (ρ y);binOp op t (ρ x) (ρ y)) (v:=.bool ((decide (Xs=Ys)) != neg)) mC ?_ iy,rfl⟩
  rw[ex,ey];have hg:=run_eqGuard_agg w op t x y (Xs.map strVal).toArray (Ys.map strVal).toArray ht3;have hq:(Op.equalIn 10000 t (.agg (Xs.map strVal).toArray) (.agg (Ys.map strVal).toArray)).run P w = .ok (decide (Xs=Ys)) w:=by
   rw[show(10000:Nat)=9999+1 from rfl,run_equalIn_struct w 9999 t _ _ (by rw[Qf];exact hu) Im,Qf]
   have:=Qh (P:=P) (d:=9998) (w:=w) hl (fs:=fs.toList) (o:=0) hi (by simp[NL,hn])
   simpa using this
  unfold mD at fu;split at fu
  .simp only[bJ,hg,bO,run_eql_struct,hq]
   simp at fu;subst fu;simp
  .simp only[bJ,hg,bO,run_neq_struct,hq]
   subst fu;simp
  .simp at fu
variable{a:Act}
def HA(h:kX x=ad) (b:ρ=a.eval):ρ x = .slice ab 0 0:=by
 unfold kX at h;split at h
 .subst b;rfl
 .simp at h
def Qi{neg:Bool}(i:∀b u B,C.lim b u->upto σ b u=aa B->∃id,C.own b u=aa (B,id))
  (e:VR C w.heap (r x') v) (d:ev ce σ nl ps r (.pI neg x')=aa (z,p)):p=ab/\∃n:Bool,z = .bool (n != neg)/\((n=ad/\v = .slice ab 0 0)\/(n=ae/\∃a l c,v = .slice (aa a) l c)):=by
 simp only[ev]at d;cases g : r x' <;>simp only[g]at d<;>try(simp at d;done)
 .simp at d;obtain⟨rfl,rfl⟩:=d
  rw[g]at e;exact⟨rfl,ad,by cases neg<;>rfl,.inl ⟨rfl,e⟩⟩
 .rename_i m l
  have key:(z = .bool neg/\p=ab)/\(m=ad\/l ≠ []):=by
   cases m
   .cases l with
    |nil=>simp at d
    |cons a b=>simp at d;exact⟨⟨d.1.symm,d.2.symm⟩,.inr aA⟩
   .simp at d;exact⟨⟨d.1.symm,d.2.symm⟩,.inl rfl⟩
  obtain⟨⟨rfl,rfl⟩,x⟩:=key;rw[g]at e;unfold VR at e;refine⟨rfl,ae,by cases neg<;>rfl,.inr ⟨rfl,?_⟩⟩
  rcases e.2 with⟨y,a,rfl,A⟩|⟨aQ,off,cap,st,c,el,E,rfl,_⟩
  .rcases x with h|h
   .obtain⟨q,rfl⟩:=vS.1 (A h);exact⟨_,_,_,rfl⟩
   .exact absurd y h
  .exact⟨_,_,_,rfl⟩
 .rename_i b u off len
  cases j:upto σ b u with
  |none=>simp[j]at d
  |some B=>
   cases s:B.st<;>simp[j,s]at d;obtain⟨rfl,rfl⟩:=d;rw[g]at e;obtain⟨id,D⟩:=i b u B (DQ e) j;unfold VR at e;have:=e.2.2 B id D;simp only[s]at this;obtain⟨c,el,o,cap,_,rfl,_⟩:=this;exact⟨rfl,ae,by cases neg<;>rfl,.inr ⟨rfl,_,_,_,rfl⟩⟩
def Pf{t: TypeId}{y:Operand}{neg:Bool}{A : Rf}(H:o.op = .binOp op t x y t') (j:ρ=a.eval)
  (d:mD op neg=ad) (I:(bF P t).isSome=ad) (m:∀b u B,C.lim b u->upto σ b u=aa B->∃id,C.own b u=aa (B,id))
  (q:(kX y=ad/\VR C w.heap (r A) (ρ x))\/(kX x=ad/\VR C w.heap (r A) (ρ y))) (G:ev ce σ nl ps r (.pI neg A)=aa (z,p)):Plain P ρ o w C w.heap z/\p=ab:=by
 obtain⟨e,D⟩:=vS.1 I;have J:=oy D w;have main:∀g i:Value,ρ x=g->ρ y=i->(∃n:Bool,z = .bool (n != neg)/\((g = .slice ab 0 0/\((n=ad/\i = .slice ab 0 0)\/(n=ae/\∃a l c,i = .slice (aa a) l c)))\/
   (i = .slice ab 0 0/\((n=ad/\g = .slice ab 0 0)\/(n=ae/\∃a l c,g = .slice (aa a) l c)))))->Plain P ρ o w C w.heap z:=by
  rintro g i K L ⟨n,rfl,h⟩;refine gk (s:=do eqGuard op t x y (ρ x) (ρ y);binOp op t (ρ x) (ρ y)) (v:=.bool (n != neg)) (by simp only[execOp,H]) ?_ iy
  rw[K,L];have M:(eqGuard op t x y g i).run P w = .ok () w:=by
   unfold eqGuard;rcases h with⟨rfl,⟨_,rfl⟩|⟨_,_,_,_,rfl⟩⟩|⟨rfl,⟨_,rfl⟩|⟨_,_,_,_,rfl⟩⟩<;>split<;>simp
  have N:(Op.equal t g i).run P w = .ok n w:=by
   unfold Op.equal Op.maxDepth Op.equalIn;rcases h with⟨rfl,⟨rfl,rfl⟩|⟨rfl,_,_,_,rfl⟩⟩|⟨rfl,⟨rfl,rfl⟩|⟨rfl,_,_,_,rfl⟩⟩<;>simp[bJ,J,bO,bX]
  have O:op = .eql/\neg=ae\/op = .neq/\neg=ad:=by
   unfold mD at d;split at d
   .simp at d;exact .inl ⟨rfl,d⟩
   .exact .inr ⟨rfl,d⟩
   .simp at d
  rcases O with⟨rfl,rfl⟩|⟨rfl,rfl⟩ <;>
   rcases h with⟨rfl,⟨rfl,rfl⟩|⟨rfl,_,_,_,rfl⟩⟩|⟨rfl,⟨rfl,rfl⟩|⟨rfl,_,_,_,rfl⟩⟩ <;>
   simp[bJ,M,bO,binOp,N,bX]
 rcases q with⟨E,q⟩|⟨E,q⟩
 .obtain⟨rfl,n,F,h⟩:=Qi m q G
  exact⟨main _ _ rfl rfl ⟨n,F,.inr ⟨HA E j,h⟩⟩,rfl⟩
 .obtain⟨rfl,n,F,h⟩:=Qi m q G
  exact⟨main _ _ rfl rfl ⟨n,F,.inl ⟨HA E j,h⟩⟩,rfl⟩
variable{t:TypeId}{y:Rf}
def aaZ(g:o.op = .unOp .not t x)
  (e:VR C w.heap (r y) (ρ x)) (a:ev ce σ nl ps r (.not y)=aa (z,p)):Plain P ρ o w C w.heap z/\p=ab:=by
 simp only[ev]at a;cases d : r y<;>simp only[d]at a<;>try(simp at a;done)
 rename_i b;rw[d]at e;simp at a;obtain⟨rfl,rfl⟩:=a;refine⟨gk (s:=Op.unary .not (ρ x)) (v:=.bool !b) (by simp only[execOp,g]) ?_ iy,rfl⟩
 rw[e.nP];rfl
def aa0(e:o.op = .unOp .neg t x)
  (d:VR C w.heap (r y) (ρ x)) (g:r (.c (.int 0)) = .int 0) (a:ev ce σ nl ps r (.bin .sub (.c (.int 0)) y)=aa (z,p)):Plain P ρ o w C w.heap z/\p=ab:=by
 simp only[ev,g]at a;cases b : r y<;>simp only[b]at a<;>try(simp at a;done)
 rename_i n;rw[b]at d;simp only[bin]at a;split at a<;>simp at a
 rename_i h;obtain⟨rfl,rfl⟩:=a;refine⟨gk (s:=Op.unary .neg (ρ x)) (v:=.int .i64 (0-n)) (by simp only[execOp,e]) ?_ (by unfold VR;simp),rfl⟩
 rw[d.bV];simp only[Op.unary,Op.intArith,bX,yX h]
def aa1{c a b:Operand}{c' h i : Rf}(j:o.op = .pick c a b)
  (d:VR C w.heap (r c') (ρ c)) (l:VR C w.heap (r h) (ρ a)) (m:VR C w.heap (r i) (ρ b)) (e:ev ce σ nl ps r (.pick c' h i)=aa (z,p)):Plain P ρ o w C w.heap z/\p=ab:=by
 simp only[ev]at e;cases g : r c' <;>simp only[g]at e<;>try(simp at e;done)
 rename_i q;rw[g]at d;have d:=d.nP;cases q<;>simp at e<;>obtain⟨rfl,rfl⟩:=e
 .exact⟨⟨ρ b,by simp only[execOp,j,d,asBool,bJ,bO,bX];simp,m⟩,rfl⟩
 .exact⟨⟨ρ a,by simp only[execOp,j,d,asBool,bJ,bO,bX];simp,l⟩,rfl⟩
def Ip{H:Array Obj}{x:AV}(d:VR C H x v) (h:x = .aJ/\n=0\/(∃nn l,x = .aX nn l/\n=ah l)\/(∃b u o,x = .sl b u o n)):∃a c,v = .slice a n c:=by
 rcases h with⟨rfl,rfl⟩|⟨nn,l,rfl,rfl⟩|⟨b,u,o,rfl⟩
 .exact⟨_,_,d⟩
 .unfold VR at d
  rcases d.2 with⟨rfl,_,h,_⟩|⟨_,_,_,_,_,_,_,h,_⟩
  .exact⟨_,_,h⟩
  .exact⟨_,_,h⟩
 .unfold VR at d
  obtain⟨⟨a,c,h,_⟩,_⟩:=d;exact⟨a,c,h⟩
variable{ca:Call}
def aa2(A:o.op = .call ca) (B:ca.callee = .builtin .len) (D:ca.args.toList=[x]) (j:ca.argTypes.toList=[t])
  (E:(bF P t).isSome=ad) (h:VR C w.heap (r y) (ρ x)) (d:ev ce σ nl ps r (.len y)=aa (z,p)):Plain P ρ o w C w.heap z/\p=ab:=by
 obtain⟨e,m⟩:=vS.1 E;have F:=oy m w;have key:∃n:Nat,z = .int n/\p=ab/\∃a c,ρ x = .slice a n c:=by
  simp only[ev]at d;cases g : r y<;>simp only[g]at d<;>try(simp at d;done)
  .simp at d;obtain⟨rfl,rfl⟩:=d
   exact⟨0,rfl,rfl,Ip (x:=.aJ) (by rw[<-g];exact h) (.inl ⟨rfl,rfl⟩)⟩
  .simp at d;obtain⟨rfl,rfl⟩:=d
   rw[g]at h;unfold VR at h;obtain⟨G,h⟩:=h;exact⟨0,rfl,rfl,G,0,h⟩
  .rename_i s l
   simp at d;obtain⟨rfl,rfl⟩:=d;exact⟨ah l,rfl,rfl,Ip (x:=.aX s l) (by rw[<-g];exact h) (.inr (.inl ⟨s,l,rfl,rfl⟩))⟩
  .rename_i b u off n
   simp at d;obtain⟨rfl,rfl⟩:=d;exact⟨n,rfl,rfl,Ip (x:=.sl b u off n) (by rw[<-g];exact h) (.inr (.inr ⟨b,u,off,rfl⟩))⟩
 obtain⟨n,rfl,rfl,a,c,H⟩:=key;have q : ca.args = #[x]:=by rw[<-Array.toList_inj];simpa using D
 have i : ca.argTypes = #[t]:=by rw[<-Array.toList_inj];simpa using j
 refine⟨⟨.int .i64 n,?_,iy⟩,rfl⟩
 simp only[execOp,A,resolve,B,q, i, bJ,bX,bO,invoke,builtin,Builtin.len_];simp[H,bJ,F,goInt]
def Gx{y:Operand}{m:Bool}(l:o.op = .call ca) (n:ca.callee = .builtin (if m then .max else .min)) (q:ca.args.toList=[x,y])
  (e:VR C w.heap (r x') (ρ x)) (g:VR C w.heap (r y') (ρ y)) (d:ev ce σ nl ps r (.mx m x' y')=aa (z,p)):Plain P ρ o w C w.heap z/\p=ab:=by
 simp only[ev]at d;cases h : r x' <;>simp only[h]at d<;>try(simp at d;done)
 cases i : r y' <;>simp only[i]at d<;>try(simp at d;done)
 rename_i a b;rw[h]at e;rw[i]at g;have e:=e.bV;have g:=g.bV;simp at d;obtain⟨rfl,rfl⟩:=d;have j : ca.args = #[x,y]:=by rw[<-Array.toList_inj];simpa using q
 refine⟨⟨.int .i64 (if m then(if a<b then b else a)else(if b<a then b else a)),?_,by unfold VR;cases m<;>rfl⟩,rfl⟩
 cases m
 .simp only[execOp,l,resolve,n,j, bJ,bX,bO,invoke,builtin,Builtin.min_]
  simp[e,g,Builtin.min2]
 .simp only[execOp,l,resolve,n,j, bJ,bX,bO,invoke,builtin,Builtin.max_]
  simp[e,g,Builtin.max2]
def Ed{H:Array Obj}{x:AV}(h:VR C H (.bN x) v) :
  bC x=ad/\∃aQ off c el a y,v = .pointer (aa ⟨aQ,off,ab⟩)/\C.I aQ/\H[aQ]? = aa (.cells c el a)/\VR C H x y/\∀j,j<y.cells.size->c[off+j]? = y.cells[j]?:=by
 unfold VR at h;exact h
variable{off:Nat}{k:Option Nat}
def acy{cs:ao}{x:AV}(h:aY cs=ad) (d:part cs off k=aa x):bC x=ad:=by
 have b:∀y∈cs,bC y=ad:=by
  clear d
  induction cs with
  |nil=>simp
  |cons a r g=>
   simp only[aY,bd]at h;intro y e;rcases cC.1 e with rfl|e
   .exact h.1
   .exact g h.2 y e
 cases k with
 |none=>simp only[part,yW]at d;exact b x (ud d)
 |some n=>
  simp only[part]at d;split at d<;>simp at d
  subst d;simp only[bC];exact DJ λy e=>b y (List.mem_of_mem_drop (List.mem_of_mem_take e))
def acz{x:AV}(h:bC x=ad):aY x.cells=ad:=by
 cases x<;>simp_all [AV.cells,bC,aY]
def Qj{H:Array Obj}{x y:AV}{aQ:Nat}{c:Array Value}{el:TypeId}{e:Nat×Nat}{val:Value}{d:Nat}(b:bC x=ad) (h:C.I aQ) (i:H[aQ]? = aa (.cells c el e))
  (g:VR C H x val) (l:∀j,j<val.cells.size->c[off+j]? = val.cells[j]?) (a:part x.cells d k=aa y) :
  VR C H (.bN y) (.pointer (aa ⟨aQ,off+d,ab⟩)):=by
 obtain⟨v,m,r,o,_⟩:=acu (A9 b) g a;have p:=VR.size (A9 b) g;have hle:d+ba k<=val.cells.size:=by
  rw[p];cases k with
  |none=>
   simp only[part,yW]at a;have:=(dp.1 a).1;simp[ba];omega
  |some n=>
   simp only[part]at a;split at a<;>simp at a
   simp[ba];omega
 unfold VR;refine⟨acy (acz b) a,aQ,off+d,c,el,e,v,rfl,h,i,m,λj q =>?_⟩;rw[<-o j ax,<-l (d+j) ax,Nat.add_assoc]
variable{s:TypeId}{f:Nat}
def aa3{fs:Array Field}{l:Field}(A:o.op = .fieldAddr s x f)
  (F:P.underlying s=aa (.struct fs)) (G:fs[f]? = aa l) (i:l.offset=off) (D:cg P l.type k=ad) (E:cS P l.type 0=ae)
  (j:VR C w.heap (r y) (ρ x)) (a:ev ce σ nl ps r (.eu y off k)=aa (z,p)):Plain P ρ o w C w.heap z/\p=ab:=by
 have m:ba k ≠ 0:=by
  intro h;have:=px D;rw[h]at this;rw[this]at E;simp at E
 have d:∀aQ b,ρ x = .pointer (aa ⟨aQ,b,ab⟩)->(Instr.fieldAt s (ρ x) f).run P w = .ok (.pointer (aa ⟨aQ,b+off,ab⟩)) w:=λaQ b e=>by
  rw[e];simp only[Instr.fieldAt,bJ,run_underlying F,bO,G,Instr.sureAddr,bX,fieldPlace,mr (px D),aC m,i,sK]
 simp only[ev]at a;cases g : r y<;>simp only[g]at a<;>try(simp at a;done)
 .rename_i q
  rw[g]at j;cases n:part q.cells off k with
  |none=>simp[n]at a
  |some S =>
   simp[n]at a;obtain⟨rfl,rfl⟩:=a;obtain⟨H,aQ,b,c,el,T,val,e,I,J,K,L⟩:=Ed j;exact⟨gk (s:=Instr.fieldAt s (ρ x) f) (by simp only[execOp,A]) (d aQ b e) (Qj H I J K L n),rfl⟩
 .rename_i b u M
  simp at a;obtain⟨rfl,rfl⟩:=a;rw[g]at j;unfold VR at j;obtain⟨⟨aQ,e⟩,N,O⟩:=j;refine⟨gk (s:=Instr.fieldAt s (ρ x) f) (by simp only[execOp,A]) (d aQ M e) ?_,rfl⟩
  unfold VR;refine⟨⟨aQ,rfl⟩,N,λB id Q R=>?_⟩;have:=O B id Q R;rw[e]at this;simp at this;rw[this]
variable{i:Nat}
def acA{H:Array Obj}{l:ao}{nn:Bool}(h:VR C H (.aX nn l) v){x:AV}(b:l[i]? = aa x) :
  bC x=ad/\∃aQ off cap st c el d val,v = .slice (aa ⟨aQ,off,ab⟩) (ah l) cap/\C.I aQ/\H[aQ]? = aa (.cells c el d)/\VR C H x val/\val.cells.size=st/\∀j,j<st->c[off+i*st+j]? = val.cells[j]?:=by
 unfold VR at h;obtain⟨n,h⟩:=h;have g:bC x=ad:=by
  have:∀{l:ao},aY l=ad->∀y∈l,bC y=ad:=by
   intro l
   induction l with
   |nil=>simp
   |cons a r o=>
    intro h y m;simp only[aY,bd]at h;rcases cC.1 m with rfl|m
    .exact h.1
    .exact o h.2 y m
  exact this n x (ud b)
 rcases h with⟨rfl,_⟩|⟨aQ,off,cap,st,c,el,d,e,_,p,q,s⟩
 .simp at b
 .obtain⟨val,u,w,z⟩:=s.get i x b
  exact⟨g,aQ,off,cap,st,c,el,d,val,e,p,q,u,w,z⟩
variable{e:TypeId}{i': Rf}
def aa4{i:Operand}{st:Nat}(N:o.op = .indexAddr t x i)
  (R:bF P t=aa e) (K:cS P e st=ad)
  (D:VR C w.heap (r x') (ρ x)) (h:VR C w.heap (r i') (ρ i)) (d:ev ce σ nl ps r (.cz x' i' st)=aa (z,p)):Plain P ρ o w C w.heap z/\p=ab:=by
 have m:∀aQ off len cap (n:Int),ρ x = .slice (aa ⟨aQ,off,ab⟩) len cap->ρ i = .int .i64 n->0<=n->n<len->(Instr.indexAt t (ρ x) (ρ i)).run P w = .ok (.pointer (aa ⟨aQ,off+n.toNat*st,ab⟩)) w:=λaQ off len cap n A E L S=>by
  rw[A,E];simp only[Instr.indexAt,bJ,asIntOf,bX,bO,oy R];simp only[L,S,and_self,dM,bJ,mr K,bO,bX,sK]
 simp only[ev]at d;cases q : r x' <;>simp only[q]at d<;>try(simp at d;done)
 .rename_i nn l
  cases g : r i' <;>simp only[g]at d<;>try(simp at d;done)
  rename_i n;rw[g]at h;have h:=h.bV;split at d<;>try(simp at d;done)
  rename_i I;rw[yW]at d;cases J:l[n.toNat]? with
  |none=>simp[J]at d
  |some y=>
   simp[J]at d;obtain⟨M,rfl,rfl⟩:=d;rw[q]at D;obtain⟨F,aQ,off,cap,G, c,el,T,val,A,U,V,O,W,X⟩:=acA D J;have Y:=(dp.1 J).1;have H : G = st:=by rw[<-W,VR.size (A9 F) O,M]
   subst H;refine⟨gk (s:=Instr.indexAt t (ρ x) (ρ i)) (by simp only[execOp,N]) (m aQ off (ah l) cap n A h I ax) ?_,rfl⟩
   unfold VR;exact⟨F,aQ,off+n.toNat*G, c,el,T,val,rfl,U,V,O,λj Z =>X j ax⟩
 .rename_i b u off len
  cases g : r i' <;>simp only[g]at d<;>try(simp at d;done)
  rename_i n;rw[g]at h;have h:=h.bV;split at d<;>simp at d
  rename_i I;obtain⟨rfl,rfl⟩:=d;rw[q]at D;unfold VR at D;obtain⟨⟨a,cap,A,hc,ha⟩,L,h3⟩:=D;obtain⟨aQ,rfl⟩:=ha ax
  refine⟨gk (s:=Instr.indexAt t (ρ x) (ρ i)) (by simp only[execOp,N]) (m aQ off len cap n A h I.1 I.2) ?_,rfl⟩
  unfold VR;refine⟨⟨aQ,rfl⟩,L,λB id hB hl=>?_⟩;have:=h3 B id hB;simp only[hl]at this;obtain⟨c,el,o', Q, _,E,_⟩:=this;rw[A]at E;simp at E;rw[E.1.1]
def aa6(i:o.op = .nilCheck x) (h:VR C w.heap (r y) (ρ x)) (d:ev ce σ nl ps r (.p7 y)=aa (z,p)):Plain P ρ o w C w.heap z/\p=ab:=by
 have key:z=r y/\p=ab/\∃a,ρ x = .pointer (aa a):=by
  simp only[ev]at d;cases g : r y<;>simp only[g]at d<;>try(simp at d;done)
  .simp at d
   rw[g]at h;obtain⟨_,aQ,b,c,el,j,val,e,_⟩:=Ed h;exact⟨d.1.symm,d.2.symm,_,e⟩
  .simp at d
   rw[g]at h;unfold VR at h;obtain⟨⟨aQ,e⟩,_⟩:=h;exact⟨d.1.symm,d.2.symm,_,e⟩
 obtain⟨rfl,rfl,a,e⟩:=key;exact⟨⟨ρ x,by simp only[execOp,i,e,bX],h⟩,rfl⟩
def aa8(h:o.op = .extract x i) (d:VR C w.heap (r y) (ρ x)) (a:ev ce σ nl ps r (.ext y i)=aa (z,p)):Plain P ρ o w C w.heap z/\p=ab:=by
 simp only[ev]at a;cases b : r y<;>simp only[b]at a<;>try(simp at a;done)
 rename_i l;rw[yW]at a;cases g:l[i]? with
 |none=>simp[g]at a
 |some q=>
  simp[g]at a;obtain⟨rfl,rfl⟩:=a;rw[b]at d;unfold VR at d;obtain⟨u,e,j⟩:=d;obtain⟨v,m,n⟩:=j.get i q g;refine⟨gk (s:=Instr.extract (ρ x) i) (v:=v) (by simp only[execOp,h]) ?_ n,rfl⟩
  rw[e];simp[Instr.extract,m]
def aa9{fst a:Array Operand}{ys:List Rf}(d:o.op = .makeFunc (.func f) fst a) (e:fst.isEmpty=ad)
  (g:cH C w.heap (ys.map r) (a.toList.map ρ)) (b:ev ce σ nl ps r (.D4 f ys)=aa (z,p)):Plain P ρ o w C w.heap z/\p=ab:=by
 simp[ev]at b;obtain⟨rfl,rfl⟩:=b;have:fst = #[]:=iT
 refine⟨gk (s:=Instr.makeFunc (.func f) (fst.map ρ) (a.map ρ)) (v:=.func (.func f) #[] (a.toList.map ρ).toArray) (by simp only[execOp,d]) ?_ (by unfold VR;exact⟨_,rfl,g⟩),rfl⟩
 subst this;have:Array.map ρ a=(List.map ρ a.toList).toArray:=sI
 simp[Instr.makeFunc,this]
def aba{t:Nat}(e:o.op = .makeInterface t x)
  (g:(match P.underlying t with|some (.interface _)=>ae|some _=>ad|none=>ae)=ad) (h:VR C w.heap (r y) (ρ x)) (a:ev ce σ nl ps r (.NP t y)=aa (z,p)):Plain P ρ o w C w.heap z/\p=ab:=by
 simp[ev]at a;obtain⟨rfl,rfl⟩:=a;refine⟨gk (s:=Instr.makeInterface t (ρ x)) (v:=.iface t (ρ x)) (by simp only[execOp,e]) ?_ (by unfold VR;exact⟨_,rfl,h⟩),rfl⟩
 cases b:P.underlying t with
 |none=>simp[b]at g
 |some d=>
  simp only[Instr.makeInterface,bJ,run_underlying b,bO];cases d<;>simp_all
def abb{d:TypeId}(m:o.op = .convert s d x)
  (l:(match P.underlying s,P.underlying d with|some (.int _),aa (.int .i64)=>ad|_,_=>ae)=ad) (g:VR C w.heap (r y) (ρ x)) (a:ev ce σ nl ps r (.Gy y)=aa (z,p)):Plain P ρ o w C w.heap z/\p=ab:=by
 have q:∃k,P.underlying s=aa (.int k)/\P.underlying d=aa (.int .i64):=by
  split at l
  .rename_i k u A;exact⟨k,u,A⟩
  .simp at l
 obtain⟨k,i,j⟩:=q;have main:∀K n,ρ x = .int K n->lA n=ad->z = .int n->p=ab->Plain P ρ o w C w.heap z/\p=ab:=by
  intro K n e h B D;subst B D;refine⟨gk (s:=Go.convert s d (ρ x)) (v:=.int .i64 n) (by simp only[execOp,m]) ?_ iy,rfl⟩
  rw[e];simp only[Go.convert,bJ,run_underlying i,run_underlying j,bO,Conv.intToInt,bX,yX h]
 simp only[ev]at a;cases b : r y<;>simp only[b]at a<;>try(simp at a;done)
 .rename_i n
  rw[b]at g;split at a<;>simp at a
  rename_i h;exact main _ n g.bV h a.1.symm a.2.symm
 .rename_i E n
  rw[b]at g;split at a<;>simp at a
  rename_i h;unfold VR at g;obtain⟨K,_,e⟩:=g;exact main K n e h a.1.symm a.2.symm
def aa5{i:Operand}(G:o.op = .indexAddr t x i)
  (H:P.underlying t=aa (.array n e)) (I:cg P e k=ad)
  (y:VR C w.heap (r x') (ρ x)) (g:VR C w.heap (r i') (ρ i)) (a:ev ce σ nl ps r (.gy x' i' n k)=aa (z,p)):Plain P ρ o w C w.heap z/\p=ab:=by
 have h:∀aQ off (j:Int),ρ x = .pointer (aa ⟨aQ,off,ab⟩)->ρ i = .int .i64 j->0<=j->j<n->(Instr.indexAt t (ρ x) (ρ i)).run P w = .ok (.pointer (aa ⟨aQ,off+j.toNat*ba k,ab⟩)) w:=λaQ off j m J D K=>by
  rw[m,J];simp only[Instr.indexAt,bJ,asIntOf,bX,bO,run_underlying H,Instr.sureAddr];simp only[D,K,and_self,dM,bJ,mr (px I),bO,bX,sK]
 simp only[ev]at a;cases l : r x' <;>simp only[l]at a<;>try(simp at a;done)
 .rename_i q
  cases d : r i' <;>simp only[d]at a<;>try(simp at a;done)
  rename_i j;rw[d]at g;have g:=g.bV;split at a<;>try(simp at a;done)
  rename_i A;cases E:part q.cells (j.toNat*ba k) k with
  |none=>simp[E]at a
  |some U =>
   simp[E]at a;obtain⟨rfl,rfl⟩:=a;rw[l]at y;obtain⟨F,aQ,b,c,el,V,val,m,L,M,N,O⟩:=Ed y;exact⟨gk (s:=Instr.indexAt t (ρ x) (ρ i)) (by simp only[execOp,G]) (h aQ b j m g A.1 A.2) (Qj F L M N O E),rfl⟩
 .rename_i b u Q
  cases d : r i' <;>simp only[d]at a<;>try(simp at a;done)
  rename_i j;rw[d]at g;have g:=g.bV;split at a<;>simp at a
  rename_i A;obtain⟨rfl,rfl⟩:=a;rw[l]at y;unfold VR at y;obtain⟨⟨aQ,m⟩,D,R⟩:=y;refine⟨gk (s:=Instr.indexAt t (ρ x) (ρ i)) (by simp only[execOp,G]) (h aQ Q j m g A.1 A.2) ?_,rfl⟩
  unfold VR;refine⟨⟨aQ,rfl⟩,D,λB id S T=>?_⟩;have:=R B id S T;rw[m]at this;simp at this;rw[this]
def Pd(E:o.op = .load t x) (F:cg P t k=ad)
  (A:VR C w.heap (r y) (ρ x)) (a:ev ce σ nl ps r (.ew y k)=aa (z,p)):Plain P ρ o w C w.heap z/\p=ab:=by
 simp only[ev]at a;cases d : r y<;>simp only[d]at a<;>try(simp at a;done)
 rename_i q;rw[d]at A;obtain⟨G,aQ,b,c,el,L,val,e,M,H,g,I⟩:=Ed A;have B:=A9 G;have N:=VR.size B g;have key:z=q/\p=ab/\ah q.cells=ba k/\(k=ab->val.cells = #[val])/\(k ≠ ab->∃D,val = .agg D):=by
  cases k with
  |none=>
   have i:∀l,q ≠ .agg l:=by intro l e;subst e;simp at a
   refine⟨?_,?_,?_,λ_=>A6 (VR.leaf i B g),λh=>absurd rfl h⟩
   .cases q<;>first|exact absurd rfl (i _)|(simp at a;exact a.1.symm)
   .cases q<;>first|exact absurd rfl (i _)|(simp at a;exact a.2.symm)
   .cases q<;>first|exact absurd rfl (i _)|rfl
  |some n=>
   cases q<;>simp at a;obtain⟨J,rfl,rfl⟩:=a;refine⟨rfl,rfl,J,λh=>fE,λ_=>?_⟩
   unfold VR at g;obtain⟨D,e,_⟩:=g;exact⟨_,e⟩
 obtain⟨rfl,rfl,O,m,u⟩:=key;refine⟨gk (s:=Instr.loadAt t (ρ x)) (v:=val) (by simp only[execOp,E]) ?_ g,rfl⟩
 rw[e];simp only[Instr.loadAt,Instr.sureAddr,bJ,bX,bO];exact Qd F H ax (λj K =>I j ax) m u
def AK(n:o.op = .load t x) (A:cg P t k=ad) (F:Good C w) (l:∀b u B,C.lim b u->upto σ b u=aa B->∃id,C.own b u=aa (B,id))
  (i:VR C w.heap (r y) (ρ x)) (a:ev ce σ nl ps r (.ld y k)=aa (z,p)):Plain P ρ o w C w.heap z/\p=ab:=by
 by_cases D:∃q,r y = .bN q
 .obtain⟨q,G⟩:=D
  refine Pd n A i (ce:=ce) (σ:=σ) (nl:=nl) (ps:=ps) ?_;rw[<-a];simp only[ev,G]
 .simp only[ev]at a
  cases d : r y<;>simp only[d]at a<;>try(simp at a;done)
  .exact absurd ⟨_,d⟩ D
  .rename_i b u H
   cases m:upto σ b u with
   |none=>simp[m]at a
   |some B=>
    simp only[m]at a;split at a<;>try(simp at a;done)
    rename_i g;cases h:part B.cells H k with
    |none=>simp[h]at a
    |some q=>
     simp[h]at a;obtain⟨rfl,rfl⟩:=a;rw[d]at i;obtain⟨id,j⟩:=l b u B (acp i) m;unfold VR at i;obtain⟨⟨aQ,e⟩,_,I⟩:=i;have E:B.st = .live:=by revert g;cases B.st<;>simp[fR.isLive]
     have J:=I B id j E;obtain⟨_,c,el,K,hle,L⟩:=F.live b u B id j E;obtain⟨v,M,N,O,Q,R⟩:=Ec L h;refine⟨gk (s:=Instr.loadAt t (ρ x)) (v:=v) (by simp only[execOp,n]) ?_ M,rfl⟩
     rw[J];simp only[Instr.loadAt,Instr.sureAddr,bJ,bX,bO];exact Qd A K N O Q R
def uj (cs new:ao) (off:Nat) (h:off+ah new<=ah cs):ah (putAt cs off new)=ah cs/\
  ∀j,(putAt cs off new)[j]? = if off<=j/\j<off+ah new then new[j-off]? else cs[j]?:=by
 unfold putAt;refine⟨aT,λj=>?_⟩
 by_cases a:j<off
 .rw[aC ax,jg,dq aT,List.getElem?_take_of_lt a]
 .by_cases b:j<off+ah new
  .rw[aD ⟨ax,b⟩,dq aT,dW aT]
   simp[ta (by omega:off<=ah cs)]
  .rw[aC ax,dW aT]
   simp[ta (by omega:off<=ah cs)]
   congr 1;omega
def cH.of{H:Array Obj}:∀{l:ao}{vs:List Value},ah l=ah vs->(∀(i:Nat) x v,l[i]? = aa x->vs[i]? = aa v->VR C H x v)->cH C H l vs
 | [],[],_,_=>rfl
 | [],_::_,h,_=>by simp at h
 |_::_,[],h,_=>by simp at h
 |x::l,v::vs,h,hv=>⟨v,vs,rfl,hv 0 x v rfl rfl,cH.of du λi y u h1 h2=>hv (i+1) y u (by simpa using h1) (by simpa using h2)⟩
def Hw (off:Nat):∀(l:List Value) (k:Nat) (cs:Array Value) (i:Nat),off+k+ah l<=cs.size->
  ((l.zipIdx k).foldl (λcs (c,j)=>cs.setIfInBounds (off+j) c) cs).size=cs.size/\
  ((l.zipIdx k).foldl (λcs (c,j)=>cs.setIfInBounds (off+j) c) cs)[i]? = if off+k<=i/\i<off+k+ah l then l[i-(off+k)]? else cs[i]?
 | [],k,cs,i,_=>by simp;omega
 |c::l,k,cs,i,h=>by
  simp only[List.zipIdx_cons,my];simp only[cT]at h;obtain⟨b,d⟩:=Hw off l (k+1) (cs.setIfInBounds (off+k) c) i aT
  refine⟨by rw[b];simp,?_⟩
  rw[d];simp only[cT]
  by_cases e:i=off+k
  .subst e
   rw[aC ax,aD ax]
   simp[Array.getElem?_setIfInBounds];omega
  .by_cases a:off+(k+1)<=i/\i<off+(k+1)+ah l
   .rw[aD a,aD ax]
    have:i-(off+k)=(i-(off+(k+1)))+1:=ax
    rw[this];simp
   .rw[aC a,aC ax]
    rw[Array.getElem?_setIfInBounds];rw[aC ax]
end
end Ab
namespace Ab
open Go
variable{P:Program}
section
variable{ρ:Operand->Value}{r:Rf->AV}{w:World}{C:Ctx}{R:Operand->Rf->Bool}{ce:CE}{σ:aq}{nl:Nat}{ps:List dd}
variable{x:AV}
def DL(h:bW x=ad):jQ x:=by
 refine⟨?_,λl=>?_⟩<;>(intro e;subst e;simp[bW]at h)
def iW (C:Ctx) (H:Array Obj) (cs:ao) (c:Array Value):Prop:=
 ah cs=c.size/\∀(i:Nat) x v,cs[i]? = aa x->c[i]? = aa v->VR C H x v/\v.oneCell' = ad
variable{v:Value}
def iW.put{H:Array Obj}{cs:ao}{c:Array Value}{off:Nat}(h:iW C H cs c) (hu:jQ x) (hv:VR C H x v) (hb:off+ah x.cells<=ah cs) :
  iW C H (putAt cs off x.cells) ((v.cells.zipIdx.foldl (λcs (c,j)=>cs.setIfInBounds (off+j) c) c)):=by
 obtain⟨h1,h2⟩:=uj cs x.cells off hb;obtain⟨g1,g2⟩:=VR.cells hu hv;have hs:=VR.size hu hv;have hf:∀i,(v.cells.zipIdx.foldl (λcs (c,j)=>cs.setIfInBounds (off+j) c) c).size=c.size/\(v.cells.zipIdx.foldl (λcs (c,j)=>cs.setIfInBounds (off+j) c) c)[i]? = if off<=i/\i<off+v.cells.size then v.cells[i-off]? else c[i]?:=λi=>by
  have:=Hw off v.cells.toList 0 c i (by rw[<-h.1];simp;omega)
  rw[<-Array.foldl_toList];simp only[Array.toList_zipIdx];simpa using this
 refine⟨by rw[h1,(hf 0).1];exact h.1,λi y u hi Ba =>?_⟩
 rw[h2]at hi;rw[(hf i).2]at Ba
 by_cases jl:off<=i/\i<off+ah x.cells
 .rw[aD jl]at hi
  rw[aD ax]at Ba
  obtain⟨u', k1,k2⟩:=g1.get (i-off) y hi;rw[jS]at k1;rw[k1]at Ba;simp at Ba; subst Ba;exact⟨k2,g2 _ (by rw[vO];exact Array.mem_of_getElem? k1)⟩
 .rw[aC jl]at hi
  rw[aC ax]at Ba
  exact h.2 i y u hi Ba
def Iq{H:Array Obj}{place:Nat->Option (Nat×Nat)}(w:∀x y,R x y=ad->VR C H (r y) (ρ x)):∀(xs:List (Nat×Operand)) (ys:List (Nat×Nat×Rf)) (cs d : ao) (c:Array Value),
  iJ R place xs ys=ad->iW C H cs c->iV cs (ys.map λp=>(p.1,p.2.1,r p.2.2))=aa d ->
  ∃c', Instr.fill place c (xs.map λ(i,x)=>(i,ρ x))=aa c' /\iW C H d c'
 | [],[],cs,d, c,_,m,h=>by simp[iV]at h;subst h;exact⟨c,rfl,m⟩
 |(i,x)::xs,(o,n,y)::ys,cs,d, c,l,m,h=>by
  simp only[iJ,bd]at l;obtain⟨⟨g,q⟩,s⟩:=l;have u:place i=aa (o,n):=by
   split at g
   .rename_i a b e;simp at g;rw[e,g.1,g.2]
   .simp at g
  simp only[da,iV]at h;split at h<;>try(simp at h;done)
  rename_i j;simp only[bd,dA,fy]at j;obtain⟨⟨B,F⟩,D⟩:=j;have z:=DL D;have A:=w _ _ q;have E:=VR.size z A;simp only[da,Instr.fill,u];rw[aC (by rw[E,B,<-m.1];simp;omega)]
  exact Iq w xs ys _ d _ s (m.put z A ax) h
 | [],_::_,_,_,_,l,_,_=>by simp[iJ]at l
 |(_,_)::_,[],_,_,_,l,_,_=>by simp[iJ]at l
variable{t:TypeId}
def DN{z:ao}(h:jB P t z=ad) (w:World):∃v,(zeroValue t).run P w = .ok v w/\cH C w.heap z v.cells.toList/\(∀y,y∈v.cells.toList->y.oneCell' = ad):=by
 unfold jB at h;cases b:P.info? t with
 |none=>simp[b]at h
 |some i=>
  simp only[b]at h;cases d:i.zero with
  |none=>simp[d]at h
  |some v=>
   simp only[d]at h;refine⟨v,?_,Qe h,?_⟩
   .simp only[zeroValue,bJ,run_typeInfo w b,bO,d,bX]
   .have:∀{a:List Value} {xs:ao},fA a xs=ad->∀y∈a,y.oneCell' = ad:=by
     intro a
     induction a with
     |nil=>simp
     |cons v a g=>
      intro xs h y e;cases xs with
      |nil=>simp[fA]at h
      |cons x xs=>
       simp only[fA,bd]at h;rcases cC.1 e with rfl|e
       .have:=h.1
        unfold lM at this;split at this<;>first|rfl|(simp at this;done)
       .exact g h.2 y e
    exact this h
def Qk{w:World}:∀{fs:List Field}{l:List (Nat×Nat)},placesOf P fs=aa l->(fs.mapM λf=>do pure (f.offset,<-Go.sizeOf f.type):Sem (List (Nat×Nat))).run P w = .ok l w
 | [],l,h=>by simp[placesOf]at h;subst h;simp
 |f::r,l,h=>by
  simp only[placesOf]at h;cases a:P.info? f.type with
  |none=>simp[a]at h
  |some i=>
   cases b:placesOf P r with
   |none=>simp[a,b]at h
   |some e =>
    simp[a,b]at h;subst h;have d:(Go.sizeOf f.type).run P w = .ok i.size w:=mr (by simp[cS,a]) w
    simp only[List.mapM_cons,bJ,d,bO,bX,Qk b]
variable{o:Oper}{z:AV}{p:Option dd}
def aa7{xs:Array (Nat×Operand)}{B:ao}{D:List (Nat×Nat×Rf)}(Q:o.op = .build t xs) (U:jB P t B=ad)
  (g:(match P.underlying t with
  |some (.struct fs)=>(match placesOf P fs.toList with|some l=>iJ R (λi=>l[i]?) xs.toList D|none=>ae)
  |some (.array _ e)=>(match P.info? e with|some i=>iJ R (λj=>aa (j*i.size,i.size)) xs.toList D|none=>ae)
  |_=>ae)=ad)
  (S:∀x y,R x y=ad->VR C w.heap (r y) (ρ x)) (F:ev ce σ nl ps r (.ju B D)=aa (z,p)):Plain P ρ o w C w.heap z/\p=ab:=by
 simp only[ev]at F;cases G:iV B (D.map λp=>(p.1,p.2.1,r p.2.2))with
 |none=>simp[G]at F
 |some l=>
  simp[G]at F;obtain⟨rfl,rfl⟩:=F;obtain⟨v,H,I,V⟩:=DN (C:=C) U w;have E:iW C w.heap B v.cells:=⟨by have:=cH.length I;simpa using this.symm,λi x u h q=>by
   obtain⟨u', K,W⟩:=I.get i x h;rw[jS,q]at K;simp at K;subst K;exact⟨W,V _ (by rw[vO];exact Array.mem_of_getElem? q)⟩⟩
  have fin:∀b : Array Value,iW C w.heap l b ->VR C w.heap (.agg l) (.agg b):=λb J=>by
   unfold VR;refine⟨b.toList,aA,cH.of (by simp[J.1]) (λi x u H I=>(J.2 i x u H (by simpa using I)).1),λy X=>?_⟩
   obtain⟨i,h⟩:=List.getElem?_of_mem X;have L:i<ah l:=by
    rw[J.1];have:=(dp.1 h).1;simpa using this
   exact(J.2 i l[i] y (by simp[L]) du).2
  have T:(xs.map λ(i,x)=>(i,ρ x)).toList=xs.toList.map λ(i,x)=>(i,ρ x):=aA
  cases q:P.underlying t with
  |none=>simp[q]at g
  |some d=>
   cases d<;>simp only[q]at g<;>try(simp at g;done)
   .rename_i n e
    cases h:P.info? e with
    |none=>simp[h]at g
    |some i=>
     simp only[h]at g;obtain⟨b, M,N⟩:=Iq S xs.toList D B l v.cells g E G;refine⟨gk (s:=Instr.build t (xs.map λ(i,x)=>(i,ρ x))) (v:=.agg b) (by simp only[execOp,Q]) ?_ (fin b N),rfl⟩
     have Y:(Go.sizeOf e).run P w = .ok i.size w:=mr (by simp[cS,h]) w
     simp only[Instr.build,bJ,H,run_underlying q,bO,Y,T,M,bX]
   .rename_i fs
    cases A:placesOf P fs.toList with
    |none=>simp[A]at g
    |some pl=>
     simp only[A]at g;obtain⟨b, M,N⟩:=Iq S xs.toList D B l v.cells g E G;refine⟨gk (s:=Instr.build t (xs.map λ(i,x)=>(i,ρ x))) (v:=.agg b) (by simp only[execOp,Q]) ?_ (fin b N),rfl⟩
     have O:(fs.mapM λf=>do pure (f.offset,<-Go.sizeOf f.type):Sem (Array (Nat×Nat))).run P w = .ok pl.toArray w:=by
      rw[Array.mapM_eq_mapM_toList];have Z:=Qk (w:=w) A;have O:∀m:Sem (List (Nat×Nat)),(List.toArray <$> m).run P w=(m >>= λa=>pure a.toArray).run P w:=λ_=>rfl;rw[O,bJ,Z];simp
     simp only[Instr.build,bJ,H,run_underlying q,bO,O,T];have:(λi:Nat=>pl.toArray[i]?)=λi:Nat=>pl[i]?:=by funext i;simp
     simp only[this,M,bX]
variable{e:TypeId}{st:Nat}
def Ir{b d:Option Value}(n:bF P t=aa e) (g:cS P e st=ad){a:Option Addr}{len cap l h:Nat}(o:v = .slice a len cap)
  (p:b=ab/\l=0\/b=aa (.int .i64 l)) (q:d=ab/\h=len\/d=aa (.int .i64 h)) (r:l<=h) (i:h<=len) (j:len<=cap) :
  (Instr.sliceAt t v b d ab).run P w = .ok (.slice (if cap=l then a else a.map (·.add (l*st))) (h-l) (cap-l)) w:=by
 subst o;have m:=oy n w;have s:=mr g w;have u:(Instr.sliceBounds ad len cap b d ab).run P w = .ok (l,h,cap) w:=by
  have x:((0:Int)<=h/\(h:Int)<=cap):=ax
  have y:((0:Int)<=l/\(l:Int)<=h):=ax
  rcases p with⟨rfl,rfl⟩|rfl<;>rcases q with⟨rfl,rfl⟩|rfl <;>
   simp[Instr.sliceBounds,Instr.sliceBound,asIntOf,x,y,r,i,j,oC i j,bJ,bO]
 have hd:(Instr.sliceAt t (.slice a len cap) b d ab).run P w=(Instr.slice t (.slice a len cap) b d ab).run P w:=by
  simp only[Instr.sliceAt,bJ,m,bO]
 rw[hd];simp only[Instr.slice,bJ,m,bO,u,s,bX]
def acB{l:ao}{a b:Nat}(h:aY l=ad):aY ((l.drop a).take b)=ad:=by
 have:∀{l:ao},aY l=ad->∀y∈l,bC y=ad:=by
  intro l
  induction l with
  |nil=>simp
  |cons a r e=>
   intro h y d;simp only[aY,bd]at h;rcases cC.1 d with rfl|d
   .exact h.1
   .exact e h.2 y d
 exact DJ λy d=>this h y (List.mem_of_mem_drop (List.mem_of_mem_take d))
variable{lo:Option Operand}{Bb: Option Rf}
def acC{n:Int}(h:nM R lo Bb = ad) (d:∀x y,R x y=ad->VR C w.heap (r y) (ρ x))
  (a:uq r Bb = aa n):lo.map ρ=ab/\n=0\/lo.map ρ=aa (.int .i64 n):=by
 cases lo with
 |none=>
  cases Bb with
  |none=>simp[uq,ur]at a;exact .inl ⟨rfl,a.symm⟩
  |some y=>simp[nM]at h
 |some q=>
  cases Bb with
  |none=>simp[nM]at h
  |some y=>
   simp only[nM]at h;have:=d _ _ h;right;simp only[uq,ur]at a;cases b:r y<;>simp[b]at a
   subst a;rw[b]at this;simp[this.bV]
def acD{n:Option Int}(h:nM R lo Bb = ad) (d:∀x y,R x y=ad->VR C w.heap (r y) (ρ x))
  (a:ur r Bb = aa n):(lo.map ρ=ab/\n=ab)\/∃m,n=aa m/\lo.map ρ=aa (.int .i64 m):=by
 cases lo with
 |none=>
  cases Bb with
  |none=>simp[uq,ur]at a;exact .inl ⟨rfl,a.symm⟩
  |some y=>simp[nM]at h
 |some q=>
  cases Bb with
  |none=>simp[nM]at h
  |some y=>
   simp only[nM]at h;have:=d _ _ h;right;simp only[uq,ur]at a;cases b:r y<;>simp[b]at a
   subst a;rw[b]at this;exact⟨_,rfl,by simp[this.bV]⟩
def HN{x:Operand}{K:Option Operand}{y:Rf}{g: Option Rf}(ho:o.op = .slice t x lo K ab)
  (ht:bF P t=aa e) (N:cS P e st=ad) (kJ:∀b u B,C.lim b u->upto σ b u=aa B->∃id,C.own b u=aa (B,id)) (H:VR C w.heap (r y) (ρ x)) (Is:nM R lo Bb = ad) (hhi:nM R K g = ad)
  (hR:∀x y,R x y=ad->VR C w.heap (r y) (ρ x)) (n:ev ce σ nl ps r (.qp y Bb g st)=aa (z,p)):Plain P ρ o w C w.heap z/\p=ab:=by
 simp only[ev]at n;have fin:∀z v,(Instr.sliceAt t (ρ x) (lo.map ρ) (K.map ρ) ab).run P w = .ok v w->VR C w.heap z v->Plain P ρ o w C w.heap z:=λz v d h2=>
  gk (s:=Instr.sliceAt t (ρ x) (lo.map ρ) (K.map ρ) ((ab:Option Operand).map ρ)) (v:=v) mC d h2
 cases V:uq r Bb with
 |none=>simp[V]at n
 |some a=>
  cases hb:ur r g with
  |none=>simp[V,hb]at n
  |some b=>
   simp only[V,hb]at n;have el:=acC Is hR V;have eh:=acD hhi hR hb;cases O : r y<;>simp only[O]at n<;>try(simp at n;done)
   .rename_i nn l
    split at n<;>simp at n;rename_i L;obtain⟨rfl,rfl⟩:=n;rw[O]at H;refine⟨?_,rfl⟩
    -- bounds as natural numbers
    obtain⟨A,rfl⟩:=fU L.1.1;obtain⟨B,I⟩:=fU (by omega:0<=b.getD (ah l))
    rw[I]at L ⊢;have W:K.map ρ=ab/\B=ah l\/K.map ρ=aa (.int .i64 B):=by
     rcases eh with⟨d,rfl⟩|⟨m,rfl,d⟩
     .left;simp at I;exact⟨d,ax⟩
     .right;simp at I;rw[d,I]
    have X:lo.map ρ=ab/\A=0\/lo.map ρ=aa (.int .i64 A):=by
     rcases el with⟨d,h2⟩|d
     .exact .inl ⟨d,ax⟩
     .exact .inr d
    simp only[jT];have hx0:=H;unfold VR at H;obtain⟨hn,H⟩:=H;have hlen:ah ((l.drop A).take (B-A))=B-A:=aT
    rcases H with⟨rfl,a0,Q,GH⟩|⟨aQ,off,cap,S, c,E, fz,Q,F,hI,hH,hl⟩
    .simp at L
     obtain rfl:B=0:=ax
     obtain rfl:A=0:=ax
     have:=Ir (w:=w) ht N Q X W ax aA (bG 0)
     refine fin _ _ this ?_;unfold VR;exact⟨rfl,.inl ⟨aA,a0,aA,aA⟩⟩
    .have:=Ir (w:=w) ht N Q X W ax ax F
     refine fin _ _ this ?_;unfold VR;refine⟨acB hn,.inr ?_⟩
     by_cases D:cap=A
     .refine⟨aQ,off,cap-A,S, c,E, fz,by rw[aD D,hlen],by rw[hlen];omega,hI,hH,?_⟩
      have:(l.drop A).take (B-A)=[]:=by rw[show B-A=0 by omega];simp
      rw[this];trivial
     .refine⟨aQ,off+A*st,cap-A,S, c,E, fz,by rw[aC D,hlen];simp[sK],by rw[hlen];omega,hI,hH,?_⟩
      refine kF.of λi u g =>?_;have M : l[A+i]? = aa u:=by
       have h0:=(dp.1 g).1;rw[List.getElem?_take_of_lt ax,oB]at g
       exact g
      obtain⟨v,Y,T,g3⟩:=hl.get (A+i) u M;have U : S = st:=by
       have hf:=L.2;cases l with
       |nil=>simp at M
       |cons x0 r0=>
        simp only[eL,dA]at hf;obtain⟨v0,k1,k2,_⟩:=hl.get 0 x0 rfl;have:bC x0=ad:=by simp only[aY,bd]at hn;exact hn.1
        rw[<-k2,VR.size (A9 this) k1,hf]
      subst U;refine⟨v,Y,T,λj hj=>?_⟩;rw[<-g3 j hj,fG]
      congr 1;omega
   .rename_i b' u off len
    cases G : upto σ b' u with
    |none=>simp[G]at n
    |some B0=>
    simp only[G]at n;rw[O]at H;obtain⟨id0,hB0⟩:=kJ b' u B0 (DQ H) G;split at n<;>simp at n
    rename_i L;obtain⟨rfl,rfl⟩:=n;refine⟨?_,rfl⟩;obtain⟨A,rfl⟩:=fU L.1.1;obtain⟨B,I⟩:=fU (by omega:0<=b.getD len)
    rw[I]at L ⊢;have W:K.map ρ=ab/\B=len\/K.map ρ=aa (.int .i64 B):=by
     rcases eh with⟨d,rfl⟩|⟨m,rfl,d⟩
     .left;simp at I;exact⟨d,ax⟩
     .right;simp at I;rw[d,I]
    have X:lo.map ρ=ab/\A=0\/lo.map ρ=aa (.int .i64 A):=by
     rcases el with⟨d,h2⟩|d
     .exact .inl ⟨d,ax⟩
     .exact .inr d
    simp only[jT];unfold VR at H;obtain⟨⟨q,cap,Q,F,hq⟩,d,h3⟩:=H;have:=Ir (w:=w) ht N Q X W ax ax F
    refine fin _ _ this ?_;unfold VR;refine⟨⟨_,_,rfl,ax,λcw=>?_⟩,d,λB' id J =>?_⟩
    .obtain⟨aQ,rfl⟩:=hq ax
     exact⟨aQ,by rw[aC ax];simp[sK]⟩
    .have Z:=h3 B' id J
     cases hs:B'.st with
     |dead=>trivial
     |map es=>trivial
     |jN=>
      simp only[hs]at Z;obtain⟨rfl,rfl,e4⟩:=Z;rw[Q]at e4;simp at e4;obtain⟨rfl,rfl⟩:=e4;obtain rfl:B=0:=ax
      obtain rfl:A=0:=ax
      simp
     |live=>
      simp only[hs]at Z;obtain⟨c,E, o', arK, Y,T,g3,g4,g5⟩:=Z;rw[Q]at T;simp at T;obtain⟨rfl,rfl⟩:=T;rw[hB0]at J;simp at J;obtain⟨rfl,rfl⟩:=J;have hk:=L.2;rw[hk]at g5 ⊢;have hmul:A*st+(cap-A)*st=cap*st:=by rw[<-Nat.add_mul,Nat.add_sub_cancel' ax]
      by_cases D:cap=A
      .refine⟨c,E, o', 0,Y,by rw[aD D,show cap-A=0 by omega],λh=>absurd h (Nat.lt_irrefl 0),ax,?_⟩
       subst D;simpa using g5
      .refine⟨c,E, off+A*st,cap-A,Y,?_,λ_=>rfl,ax,?_⟩
       .rw[aC D]
        obtain rfl:=g3 ax
        simp[sK]
       .omega
end
end Ab
