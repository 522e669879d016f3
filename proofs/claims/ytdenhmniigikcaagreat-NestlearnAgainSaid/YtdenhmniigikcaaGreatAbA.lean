/- What an abstract value stands for in a world of the model, and that it goes on to do so. What an owned value reads as, once nobody writes it any more. The check that a line of the small language is an operation of the program. What the model's operations do, in the form that the soundness of the small language wants. The operations that yield a value and turn nothing. Building a struct and taking a part of a slice. Condition: none. -/
import Derived.Calls
import Derived.Laws.Sem
import Derived.Test.YtdenhmniigikcaaGreatAbCore
import Derived.Orders
import Derived.ChangeKeysEq
import Derived.Laws.Cells
import Derived.Laws.NewBlocks
import Derived.IntWalk
import Derived.Laws.StructEq
set_option linter.all false
namespace Ab
open Go
theorem aL:type_of% @Sem.run_bind:=@Sem.run_bind
theorem aR:type_of% @Result.andThen_ok:=@Result.andThen_ok
theorem bh:type_of% @Sem.run_pure:=@Sem.run_pure
theorem kF:type_of% @Obj.cells.injEq:=@Obj.cells.injEq
theorem vY:type_of% @Go.MapKept.run_getObj_map:=@Go.MapKept.run_getObj_map
def jV:Nat->Option IntKind
 |0=>some .i8|1=>some .i16|2=>some .i32|4=>some .u8|5=>some .u16|6=>some .u32|7=>some .u64
 |_=>none
structure Ctx where
 I:Nat->Prop
 own:Nat->Nat->Option (ag×Nat)
 lim:Nat->Nat->Prop
mutual
def VR (C:Ctx) (H:Array Obj):AV->Value->Prop
 |.int n,v=>v = .int .i64 n
 |.ik k n,v=>∃K,jV k=some K/\v = .int K n
 |.bool b,v=>v = .bool b
 |.str s,v=>v = .string ⟨s.toArray⟩
 |.agg l,v=>∃vs:List Value,v = .agg vs.toArray/\cd C H l vs/\∀y,y∈vs->y.oneCell' = true
 |.bQ l,v=>∃vs:List Value,v = .tuple vs.toArray/\cd C H l vs
 |.ah,v=>v = .slice none 0 0
 |.emp,v=>∃a:Option Addr,v = .slice a 0 0
 |.aE nn l,v=>ax l=true/\((l=[]/\∃a:Option Addr,v = .slice a 0 0/\(nn=true->a.isSome=true))\/
   ∃ak off cap st c el fz,v = .slice (some ⟨ak,off,none⟩) l.length cap/\l.length<=cap/\C.I ak/\H[ak]? = some (.cells c el fz)/\je C H c st l off)
 |.arr l,v=>∃ak off st c el fz,v = .slice (some ⟨ak,off,none⟩) l.length l.length/\C.I ak/\H[ak]? = some (.cells c el fz)/\je C H c st l off
 |.sl b u off len,v=>(∃a c,v = .slice a len c/\len<=c/\(0<len->∃ak,a=some ⟨ak,off,none⟩))/\C.lim b u/\∀B id,C.own b u=some (B,id)->
   match B.st with
   |.dead=>True
   |.map _=>True
   |.jN=>off=0/\len=0/\v = .slice none 0 0
   |.live=>∃c el o cap,H[id]? = some (.cells c el (0,0))/\v = .slice (some ⟨id,o,none⟩) len cap/\(0<cap->o=off)/\len<=cap/\off+cap*aC B.k=c.size
 |.ig,v=>v = .pointer none
 |.bd x,v=>aN x=true/\∃ak off c el fz y,v = .pointer (some ⟨ak,off,none⟩)/\C.I ak/\H[ak]? = some (.cells c el fz)/\VR C H x y/\∀j,j<y.cells.size->c[off+j]? = y.cells[j]?
 |.ptr b u off,v=>(∃ak,v = .pointer (some ⟨ak,off,none⟩))/\C.lim b u/\∀B id,C.own b u=some (B,id)->B.st = .live->v = .pointer (some ⟨id,off,none⟩)
 |.kH,v=>v = .nilFunc
 |.func f l,v=>∃vs:List Value,v = .func (.func f) #[] vs.toArray/\cd C H l vs
 |.gQ,v=>v = .nilIface
 |.iface t x,v=>∃y,v = .iface t y/\VR C H x y
 |.cM b,v=>(∃a,v = .map (some a))/\C.lim b 0/\∀B id,C.own b 0=some (B,id)->B.st.iz=true->v = .map (some id)
 |.p7,v=>v.oneCell' = true
 |.aM,_=>True
def cd (C:Ctx) (H:Array Obj):List AV->List Value->Prop
 | [],vs=>vs=[]
 |x::r,vs=>∃v s,vs=v::s/\VR C H x v/\cd C H r s
def je (C:Ctx) (H:Array Obj) (c:Array Value) (st:Nat):List AV->Nat->Prop
 | [],_=>True
 |x::r,off=>(∃v,VR C H x v/\v.cells.size=st/\∀j,j<st->c[off+j]? = v.cells[j]?)/\je C H c st r (off+st)
end
theorem Z2{s t:eo}(h:s.shape=t.shape) (k:t = .live):s = .live:=by
 subst k;cases s<;>simp_all [eo.shape]
theorem Z3{s t:eo}(h:s.shape=t.shape):s.iz=t.iz:=by
 cases s<;>cases t<;>simp_all [eo.shape,eo.iz]
structure fO (C:Ctx) (H:Array Obj) (C' : Ctx) (H' : Array Obj):Prop where
 aE:∀k,C.I k->C'.I k
 same:∀k,C.I k->H'[k]? = H[k]?
 lim:∀b u,C.lim b u->C'.lim b u
 own:∀b u B' id,C.lim b u->C'.own b u=some (B', id)->∃B,C.own b u=some (B,id)/\B.st.shape=B'.st.shape/\B.k=B'.k/\
  ∀c el,H[id]? = some (.cells c el (0,0))->∃c', H'[id]? = some (.cells c' el (0,0))/\c'.size=c.size
theorem fO.refl (C:Ctx) (H:Array Obj):fO C H C H:=
 ⟨λ_ h=>h,λ_ _=>rfl,λ_ _ h=>h,λ_ _ B' _ _ h=>⟨B', h,rfl,rfl,λc _ hc=>⟨c,hc,rfl⟩⟩⟩
theorem fO.trans{C C' Nu : Ctx}{H H' H'' : Array Obj}(h:fO C H C' H') (k:fO C' H' Nu H''):fO C H Nu H'' :=by
 refine⟨λx hx=>k.aE x (h.aE x hx),λx hx=>(k.same x (h.aE x hx)).trans (h.same x hx),λb u hl=>k.lim b u (h.lim b u hl),λb u vb id hl ho=>?_⟩;obtain⟨B', h1,h2,h3,h4⟩:=k.own b u vb id (h.lim b u hl) ho;obtain⟨B,g1,g2,g3,g4⟩:=h.own b u B' id hl h1;refine⟨B,g1,g2.trans h2,g3.trans h3,λc el hc=>?_⟩;obtain⟨c', e1,e2⟩:=g4 c el hc;obtain⟨c'', f1,f2⟩:=h4 c' el e1;exact⟨c'', f1,f2.trans e2⟩
section
variable{C C' : Ctx}{H H' : Array Obj}
mutual
theorem VR.mono (h:fO C H C' H'):∀(x:AV) (v:Value),VR C H x v->VR C' H' x v
 |.int _,_,hv=>hv
 |.ik _ _,_,hv=>hv
 |.bool _,_,hv=>hv
 |.str _,_,hv=>hv
 |.agg l,_,⟨vs,e,hl,hc⟩=>⟨vs,e,cd.mono h l vs hl,hc⟩
 |.bQ l,_,⟨vs,e,hl⟩=>⟨vs,e,cd.mono h l vs hl⟩
 |.ah,_,hv=>hv
 |.emp,_,hv=>hv
 |.aE nn l,v,hv=>by
  unfold VR at hv ⊢;obtain⟨hn,hv⟩:=hv;refine⟨hn,?_⟩;rcases hv with hv|⟨b,off,cap,st,c,el,fz,e,hc,hI,hH,hl⟩
  ·exact .inl hv
  ·exact .inr ⟨b,off,cap,st,c,el,fz,e,hc,h.aE b hI,(h.same b hI).trans hH,je.mono h c st l off hl⟩
 |.arr l,v,hv=>by
  unfold VR at hv ⊢;obtain⟨b,off,st,c,el,fz,e,hI,hH,hl⟩:=hv;exact⟨b,off,st,c,el,fz,e,h.aE b hI,(h.same b hI).trans hH,je.mono h c st l off hl⟩
 |.sl b u off len,v,hv=>by
  unfold VR at hv ⊢;obtain⟨h0,h1,h3⟩:=hv;refine⟨h0,h.lim b u h1,λB' id ho=>?_⟩;obtain⟨B,g1,g2,g3,g4⟩:=h.own b u B' id h1 ho;have:=h3 B id g1;rw[g3]at this
  revert this g2
  cases hB:B.st<;>cases oZ : B'.st<;>intro g2<;>simp only[eo.shape,reduceCtorEq]at g2
  case dead.dead=>exact λ_=>trivial
  case map.map=>exact λ_=>trivial
  case jN.jN=>exact λx=>x
  case live.live=>
   rintro⟨c,el,o,cap,e1,e2,e3,e4,e5⟩;obtain⟨c', f1,f2⟩:=g4 c el e1;exact⟨c', el,o,cap,f1,e2,e3,e4,e5.trans f2.symm⟩
 |.ig,_,hv=>hv
 |.bd x,v,hv=>by
  unfold VR at hv ⊢;obtain⟨hn,b,off,c,el,fz,y,e,hI,hH,hx,hj⟩:=hv;exact⟨hn,b,off,c,el,fz,y,e,h.aE b hI,(h.same b hI).trans hH,VR.mono h x y hx,hj⟩
 |.ptr b u off,v,hv=>by
  unfold VR at hv ⊢;obtain⟨h0,h1,h3⟩:=hv;refine⟨h0,h.lim b u h1,λB' id ho hl=>?_⟩;obtain⟨B,g1,g2,g3,g4⟩:=h.own b u B' id h1 ho;exact h3 B id g1 (Z2 g2 hl)
 |.kH,_,hv=>hv
 |.func _ l,_,⟨vs,e,hl⟩=>⟨vs,e,cd.mono h l vs hl⟩
 |.gQ,_,hv=>hv
 |.iface _ x,_,⟨y,e,hx⟩=>⟨y,e,VR.mono h x y hx⟩
 |.cM b,v,hv=>by
  unfold VR at hv ⊢;obtain⟨h0,h1,h3⟩:=hv;refine⟨h0,h.lim b 0 h1,λB' id ho hl=>?_⟩;obtain⟨B,g1,g2,g3,g4⟩:=h.own b 0 B' id h1 ho;exact h3 B id g1 (by rw[Z3 g2];exact hl)
 |.p7,_,hv=>hv
 |.aM,_,_=>trivial
theorem cd.mono (h:fO C H C' H'):∀(l:List AV) (vs:List Value),cd C H l vs->cd C' H' l vs
 | [],_,hv=>hv
 |x::r,_,⟨v,s,e,hx,hr⟩=>⟨v,s,e,VR.mono h x v hx,cd.mono h r s hr⟩
theorem je.mono (h:fO C H C' H') (c:Array Value) (st:Nat):∀(l:List AV) (off:Nat),je C H c st l off->je C' H' c st l off
 | [],_,_=>trivial
 |x::r,off,⟨⟨v,hx,e,hj⟩,hr⟩=>⟨⟨v,VR.mono h x v hx,e,hj⟩,je.mono h c st r (off+st) hr⟩
end
structure ow (C:Ctx) (H:Array Obj) (C' : Ctx) (H' : Array Obj):Prop where
 aE:∀k,C.I k->C'.I k
 same:∀k,C.I k->H'[k]? = H[k]?
mutual
theorem VR.free (h:ow C H C' H'):∀(x:AV) (v:Value),aN x=true->VR C H x v->VR C' H' x v
 |.int _,_,_,hv=>hv
 |.ik _ _,_,_,hv=>hv
 |.bool _,_,_,hv=>hv
 |.str _,_,_,hv=>hv
 |.agg l,_,hn,⟨vs,e,hl,hc⟩=>⟨vs,e,cd.free h l vs (by simpa[aN]using hn) hl,hc⟩
 |.bQ l,_,hn,_=>by simp[aN]at hn
 |.ah,_,_,hv=>hv
 |.emp,_,_,hv=>hv
 |.aE nn l,v,_,hv=>by
  unfold VR at hv ⊢;obtain⟨hn,hv⟩:=hv;refine⟨hn,?_⟩;rcases hv with hv|⟨b,off,cap,st,c,el,fz,e,hc,hI,hH,hl⟩
  ·exact .inl hv
  ·exact .inr ⟨b,off,cap,st,c,el,fz,e,hc,h.aE b hI,(h.same b hI).trans hH,je.free h c st l off hn hl⟩
 |.arr l,_,hn,_=>by simp[aN]at hn
 |.sl ..,_,hn,_=>by simp[aN]at hn
 |.ig,_,_,hv=>hv
 |.bd x,v,_,hv=>by
  unfold VR at hv ⊢;obtain⟨hn,b,off,c,el,fz,y,e,hI,hH,hx,hj⟩:=hv;exact⟨hn,b,off,c,el,fz,y,e,h.aE b hI,(h.same b hI).trans hH,VR.free h x y hn hx,hj⟩
 |.ptr ..,_,hn,_=>by simp[aN]at hn
 |.kH,_,_,hv=>hv
 |.func _ l,_,hn,⟨vs,e,hl⟩=>⟨vs,e,cd.free h l vs (by simpa[aN]using hn) hl⟩
 |.gQ,_,_,hv=>hv
 |.iface _ x,_,hn,⟨y,e,hx⟩=>⟨y,e,VR.free h x y (by simpa[aN]using hn) hx⟩
 |.cM _,_,hn,_=>by simp[aN]at hn
 |.p7,_,_,hv=>hv
 |.aM,_,hn,_=>by simp[aN]at hn
theorem cd.free (h:ow C H C' H'):∀(l:List AV) (vs:List Value),ax l=true->cd C H l vs->cd C' H' l vs
 | [],_,_,hv=>hv
 |x::r,_,hn,⟨v,s,e,hx,hr⟩=>by
  simp only[ax,aD]at hn;exact⟨v,s,e,VR.free h x v hn.1 hx,cd.free h r s hn.2 hr⟩
theorem je.free (h:ow C H C' H') (c:Array Value) (st:Nat):∀(l:List AV) (off:Nat),ax l=true->je C H c st l off->je C' H' c st l off
 | [],_,_,_=>trivial
 |x::r,off,hn,⟨⟨v,hx,e,hj⟩,hr⟩=>by
  simp only[ax,aD]at hn;exact⟨⟨v,VR.free h x v hn.1 hx,e,hj⟩,je.free h c st r (off+st) hn.2 hr⟩
end
end
section
variable{C:Ctx}{H:Array Obj}
theorem cd.length:∀{l:List AV}{vs:List Value},cd C H l vs->vs.length=l.length
 | [],_,h=>by rw[show _=[]from h];rfl
 |_::_,_,⟨_,_,e,_,hr⟩=>by rw[e];simp[cd.length hr]
theorem cd.get:∀{l:List AV}{vs:List Value},cd C H l vs->∀(i:Nat) (x:AV),l[i]? = some x->∃v,vs[i]? = some v/\VR C H x v
 | [],_,_,i,x,hi=>by simp at hi
 |y::r,_,⟨v,s,e,hx,hr⟩,0,x,hi=>by
  simp at hi;subst hi;rw[e];exact⟨v,rfl,hx⟩
 |y::r,_,⟨v,s,e,hx,hr⟩,i+1,x,hi=>by
  rw[e];exact cd.get hr i x (by simpa using hi)
theorem cd.append:∀{l m:List AV}{vs ws:List Value},cd C H l vs->cd C H m ws->cd C H (l++m) (vs++ws)
 | [],_,_,_,h,k=>by rw[show _=[]from h];exact k
 |_::_,_,_,_,⟨v,s,e,hx,hr⟩,k=>by rw[e];exact⟨v,s++_,rfl,hx,cd.append hr k⟩
theorem cd.drop:∀(n:Nat){l:List AV}{vs:List Value},cd C H l vs->cd C H (l.drop n) (vs.drop n)
 |0,_,_,h=>by simpa using h
 |n+1,[],_,h=>by rw[show _=[]from h];simp[cd]
 |n+1,_::_,_,⟨v,s,e,hx,hr⟩=>by rw[e];simpa using cd.drop n hr
theorem cd.take:∀(n:Nat){l:List AV}{vs:List Value},cd C H l vs->cd C H (l.take n) (vs.take n)
 |0,_,_,h=>by simp[cd]
 |n+1,[],_,h=>by rw[show _=[]from h];simp[cd]
 |n+1,_::_,_,⟨v,s,e,hx,hr⟩=>by rw[e];exact⟨v,s.take n,rfl,hx,cd.take n hr⟩
theorem yd{b u off len:Nat}{v:Value}(h:VR C H (.sl b u off len) v):C.lim b u:=by unfold VR at h;exact h.2.1
theorem Z4{b u off:Nat}{v:Value}(h:VR C H (.ptr b u off) v):C.lim b u:=by unfold VR at h;exact h.2.1
theorem YM{b:Nat}{v:Value}(h:VR C H (.cM b) v):C.lim b 0:=by unfold VR at h;exact h.2.1
def gO (x:AV):Prop:=x ≠ .aM/\∀l,x ≠ .bQ l
theorem yN{v:Value}(h:v.oneCell' = true):v.cells = #[v]:=by
 cases v<;>first|rfl|simp[Value.oneCell']at h
theorem VR.leaf{x:AV}{v:Value}(hx:∀l,x ≠ .agg l) (hu:gO x) (h:VR C H x v):v.oneCell' = true:=by
 cases x with
 |agg l=>exact absurd rfl (hx l)
 |aM=>exact absurd rfl hu.1
 |bQ l=>exact absurd rfl (hu.2 l)
 |p7=>exact h
 |emp=>
  unfold VR at h;obtain⟨_,h⟩:=h;rw[h];rfl
 |_=>
  unfold VR at h
  first
   |(rw[h];rfl)
   |(obtain⟨⟨_,h⟩,_⟩:=h;rw[h];rfl)
   |(obtain⟨_,_,h⟩:=h;rw[h];rfl)
   |(obtain⟨_,h,_⟩:=h;rw[h];rfl)
   |(obtain⟨⟨_,_,h,_⟩,_⟩:=h;rw[h];rfl)
   |(obtain⟨⟨_,h⟩,_⟩:=h;rw[h];rfl)
   |(obtain⟨_,h|h⟩:=h
     ·obtain⟨_,_,h,_⟩:=h;rw[h];rfl
     ·obtain⟨_,_,_,_,_,_,_,h,_⟩:=h;rw[h];rfl)
   |(obtain⟨_,_,_,_,_,_,h,_⟩:=h;rw[h];rfl)
   |(obtain⟨_,_,_,_,_,_,_,h,_⟩:=h;rw[h];rfl)
theorem VR.cells{x:AV}{v:Value}(hu:gO x) (h:VR C H x v):cd C H x.cells v.cells.toList/\∀y,y∈v.cells.toList->y.oneCell' = true:=by
 by_cases hx:∃l,x = .agg l
 ·obtain⟨l,rfl⟩:=hx
  unfold VR at h;obtain⟨vs,rfl,hl,hc⟩:=h;exact⟨by simpa[AV.cells,Value.cells]using hl,by simpa[Value.cells]using hc⟩
 ·have bJ : ∀l,x ≠ .agg l:=λl e=>hx ⟨l,e⟩
  have hlf:=VR.leaf bJ hu h;rw[yN hlf];have:x.cells=[x]:=by
   cases x<;>first|rfl|exact absurd rfl (bJ _)
  rw[this];exact⟨⟨v,[],rfl,h,rfl⟩,by simp[hlf]⟩
theorem VR.size{x:AV}{v:Value}(hu:gO x) (h:VR C H x v):v.cells.size=x.cells.length:=by
 have:=cd.length (VR.cells hu h).1;simpa using this
end
def owned (C:Ctx) (k:Nat):Prop:=∃b u B,C.own b u=some (B,k)/\B.st.jE=true
def MR (C:Ctx) (H:Array Obj):List (AV×AV)->List MapEntry->Prop
 | [],l=>l=[]
 |(k,x)::r,l=>∃e s,l=e::s/\(aN k=true/\VR C H k e.key)/\VR C H x e.val/\MR C H r s
structure Good (C:Ctx) (w:World):Prop where
 I:∀k,C.I k->k<w.heap.size
 kR:∀b u B id,C.own b u=some (B,id)->C.lim b u/\u=B.cells.length/\(B.st = .jN->B.cells=[])/\B.st ≠ .dead
 live:∀b u B id,C.own b u=some (B,id)->B.st = .live->¬C.I id/\∃(c:Array Value) (el:TypeId),w.heap[id]? = some (.cells c el (0,0))/\B.cells.length<=c.size/\
  ∀(i:Nat) (x:AV),B.cells[i]? = some x->∃y,c[i]? = some y/\VR C w.heap x y/\y.oneCell' = true
 apart:∀b u B id b' u' B' id', C.own b u=some (B,id)->B.st.jE=true->C.own b' u' = some (B', id')->B'.st.jE=true->b ≠ b' ->id ≠ id'
 maps:∀b u B id es,C.own b u=some (B,id)->B.st = .map es->¬C.I id/\∃(l:Array MapEntry) (clock:Nat),w.heap[id]? = some (.map l clock)/\MR C w.heap es l.toList
theorem Nv{s:eo}(h:s.jE=true):s = .live\/∃es,s = .map es:=by
 cases s<;>simp_all [eo.jE]
theorem lG{s:eo}(h:s = .live):s.jE=true:=by subst h;rfl
theorem Good.lt{C:Ctx}{w:World}(h:Good C w){k:Nat}(hk:owned C k):k<w.heap.size:=by
 obtain⟨b,u,B,ho,hl⟩:=hk;rcases Nv hl with hl|⟨es,hl⟩
 ·obtain⟨_,c,el,hc,_⟩:=h.live b u B k ho hl
  exact(jd.1 hc).1
 ·obtain⟨_,c,el,hc,_⟩:=h.maps b u B k es ho hl
  exact(jd.1 hc).1
theorem MR.mono{C C' : Ctx}{H H' : Array Obj}(h:fO C H C' H'):∀{es:List (AV×AV)}{l:List MapEntry},MR C H es l->MR C' H' es l
 | [],_,e=>e
 |(k,x)::r,_,⟨e,s,q,⟨k1,k2⟩,x2,hr⟩=>⟨e,s,q,⟨k1,VR.mono h _ _ k2⟩,VR.mono h _ _ x2,MR.mono h hr⟩
theorem Good.cZ{C:Ctx}{w:World}(hg:Good C w){C' : Ctx}{w' : World}(ev:fO C w.heap C' w'.heap){b u id:Nat}{B:ag}{es:List (AV×AV)}(ho:C.own b u=some (B,id)) (hl:B.st = .map es)
  (Bt:w'.heap[id]? = w.heap[id]?) (yn:¬C'.I id):¬C'.I id/\∃(l:Array MapEntry) (clock:Nat),w'.heap[id]? = some (.map l clock)/\MR C' w'.heap es l.toList:=by
 obtain⟨_,l,c,h1,h2⟩:=hg.maps b u B id es ho hl;exact⟨yn,l,c,Bt.trans h1,h2.mono ev⟩
theorem lB{s:eo}{es:List (AV×AV)}(h:s = .map es):s.jE=true:=by subst h;rfl
theorem Good.XG{C:Ctx}{w:World}(h:Good C w){k:Nat}(hk:owned C k):¬C.I k:=by
 obtain⟨b,u,B,ho,hl⟩:=hk;rcases Nv hl with hl|⟨es,hl⟩
 ·exact(h.live b u B k ho hl).1
 ·exact(h.maps b u B k es ho hl).1
structure Step (C:Ctx) (w:World) (C' : Ctx) (w' : World):Prop where
 ev:fO C w.heap C' w'.heap
 size:w.heap.size<=w'.heap.size
 frame:∀k,k<w.heap.size->¬owned C k->w'.heap[k]? = w.heap[k]?
 fX:∀k,owned C' k->owned C k\/w.heap.size<=k
 gA:∀k,C'.I k->C.I k\/owned C k\/w.heap.size<=k
 os:w'.os=w.os
 tape:w'.tape=w.tape/\w.drawn<=w'.drawn
 output:w'.output=w.output
theorem Step.refl (C:Ctx) (w:World):Step C w C w:=
 ⟨fO.refl _ _,bw _,λ_ _ _=>rfl,λ_ h=>.inl h,λ_ h=>.inl h,rfl,⟨rfl,bw _⟩,rfl⟩
theorem Step.trans{C C' Nu : Ctx}{w w' w'' : World}(h:Step C w C' w') (k:Step C' w' Nu w''):Step C w Nu w'' :=by
 refine⟨h.ev.trans k.ev,Nat.le_trans h.size k.size,λx hx ho=>?_,λx hx=>?_,λx hx=>?_,k.os.trans h.os,⟨k.tape.1.trans h.tape.1,Nat.le_trans h.tape.2 k.tape.2⟩,k.output.trans h.output⟩
 ·rw[k.frame x (Nat.lt_of_lt_of_le hx h.size) (λh' =>(h.fX x h').elim ho (λh'' =>absurd hx (Nat.not_lt.2 h'')))]
  exact h.frame x hx ho
 ·rcases k.fX x hx with h' | h'
  ·exact h.fX x h'
  ·exact .inr (Nat.le_trans h.size h')
 ·rcases k.gA x hx with h' | h' | h'
  ·exact h.gA x h'
  ·exact .inr (h.fX x h')
  ·exact .inr (.inr (Nat.le_trans h.size h'))
def af (σ:List ag) (ids:Nat->Nat) (I:Nat->Prop):Ctx where
 I:=I
 own:=λb u=>match ak σ b with
  |some B=>match B.st with
   |.dead=>none
   |_=>if B.cells.length=u then some (B,ids b)else none
  |none=>none
 lim:=λb u=>∃B,ak σ b=some B/\u<=B.cells.length
theorem dh (σ:List ag):∀b,ak σ b=σ[b]?:=by
 induction σ with
 |nil=>intro b;rfl
 |cons x r ih=>intro b;cases b<;>simp[ak,ih]
theorem nN (l:List AV):∀b,oP l b=l[b]?:=by
 induction l with
 |nil=>intro b;rfl
 |cons x r ih=>intro b;cases b<;>simp[oP,ih]
theorem XR (σ:List ag):∀b y,ay σ b y=σ.set b y:=by
 induction σ with
 |nil=>intro b y;rfl
 |cons x r ih=>intro b y;cases b<;>simp[ay,ih]
theorem ZA (l:List AV):∀b y,eT l b y=l.set b y:=by
 induction l with
 |nil=>intro b y;rfl
 |cons x r ih=>intro b y;cases b<;>simp[eT,ih]
theorem sP (l:List AV):∀b,nth l b=l[b]?.getD .aM:=by
 induction l with
 |nil=>intro b;rfl
 |cons x r ih=>intro b;cases b<;>simp[nth,ih]
theorem lC{σ:List ag}{b u:Nat}{B:ag}(ids:Nat->Nat) (I:Nat->Prop) (h:upto σ b u=some B):(af σ ids I).own b u=some (B,ids b):=by
 unfold upto at h;simp only[af];cases hb:ak σ b with
 |none=>simp[hb]at h
 |some B' =>
  simp only[hb]at h ⊢;cases hs:B'.st<;>simp only[hs]at h ⊢<;>first
   |(by_cases hu:B'.cells.length=u
     ·simp[hu]at h;subst h;simp[hu]
     ·simp[hu]at h)
   |simp at h
theorem sB{σ:List ag}{b u:Nat}{B:ag}(ids:Nat->Nat) (I:Nat->Prop) (h:fL σ b u=some B):(af σ ids I).own b u=some (B,ids b):=by
 unfold fL at h;simp only[af];cases hb:ak σ b with
 |none=>simp[hb]at h
 |some B' =>
  simp only[hb]at h ⊢;cases hs:B'.st<;>simp only[hs]at h ⊢<;>first
   |(by_cases hu:B'.cells.length=u
     ·simp[hu]at h;subst h;simp[hu]
     ·simp[hu]at h)
   |simp at h
theorem Mv{σ:List ag}{b u:Nat}{B:ag}(h:upto σ b u=some B):fL σ b u=some B:=by
 unfold upto at h;unfold fL;cases hb:ak σ b with
 |none=>simp[hb]at h
 |some B' =>
  simp only[hb]at h ⊢;cases hs:B'.st<;>simp only[hs]at h ⊢<;>first
   |exact h
   |simp at h
theorem vU{σ:List ag}{b u:Nat}{B:ag}(h:upto σ b u=some B):B.st.iz=false:=by
 unfold upto at h;cases hb:ak σ b with
 |none=>simp[hb]at h
 |some B' =>
  simp only[hb]at h;cases hs:B'.st<;>simp only[hs]at h<;>first
   |(split at h<;>simp at h;subst h;simp[hs,eo.iz])
   |simp at h
theorem yj{σ:List ag}{b u id:Nat}{B:ag}{ids:Nat->Nat}{I:Nat->Prop}(h:(af σ ids I).own b u=some (B,id)):ak σ b=some B/\id=ids b:=by
 simp only[af]at h;cases hb:ak σ b with
 |none=>simp[hb]at h
 |some B' =>
  simp only[hb]at h;cases hs:B'.st<;>simp only[hs]at h<;>first
   |(by_cases hu:B'.cells.length=u
     ·simp[hu]at h;obtain⟨rfl,rfl⟩:=h;exact⟨rfl,rfl⟩
     ·simp[hu]at h)
   |simp at h
theorem VR.fR{C:Ctx}{H:Array Obj}{x:AV}{v:Value}(h:VR C H x v):VR C H (Ab.fR x) v:=by
 cases x with
 |ah=>unfold VR at h;unfold Ab.fR VR;exact⟨rfl,.inl ⟨rfl,none,h,by simp⟩⟩
 |emp=>
  unfold VR at h;unfold Ab.fR VR;obtain⟨a,h⟩:=h;exact⟨rfl,.inl ⟨rfl,a,h,by simp⟩⟩
 |aE nn l=>
  unfold VR at h;unfold Ab.fR VR;refine⟨h.1,?_⟩;rcases h.2 with h' | h'
  ·obtain⟨h1,a,h2,_⟩:=h'; exact .inl ⟨h1,a,h2,by simp⟩
  ·exact .inr h'
 |_=>exact h
theorem cd.fR{C:Ctx}{H:Array Obj}:∀{l:List AV}{vs:List Value},cd C H l vs->cd C H (l.map Ab.fR) vs
 | [],_,h=>h
 |_::_,_,⟨v,s,e,hx,hr⟩=>⟨v,s,e,hx.fR,cd.fR hr⟩
theorem VR.wk{C:Ctx}{H:Array Obj}{x:AV}{v:Value}(h:VR C H x v):VR C H (Ab.wk x) v:=by
 cases x with
 |agg l=>unfold VR at h;obtain⟨vs,e,hl,hc⟩:=h;unfold Ab.wk VR;exact⟨vs,e,hl.fR,hc⟩
 |_=>exact VR.fR h
theorem cd.wk{C:Ctx}{H:Array Obj}:∀{l:List AV}{vs:List Value},cd C H l vs->cd C H (l.map Ab.wk) vs
 | [],_,h=>h
 |_::_,_,⟨v,s,e,hx,hr⟩=>⟨v,s,e,hx.wk,cd.wk hr⟩
theorem Z5{x:AV}(h:aN x=true):aN (fR x)=true:=by cases x<;>simp_all [fR,aN]
theorem Nw:∀{l:List AV},ax l=true->ax (l.map fR)=true
 | [],_=>rfl
 |_::_,h=>by
  simp only[ax,aD,db]at h ⊢;exact⟨Z5 h.1,Nw h.2⟩
end Ab
namespace Ab
open Go
theorem Nx{α β:Type}{f:α->Option β}:∀{l:List α}{m:List β},bV f l=some m->m.length=l.length/\∀(i:Nat) (x:α),l[i]? = some x->∃y,m[i]? = some y/\f x=some y
 | [],m,h=>by
  simp[bV]at h;subst h;simp
 |x::r,m,h=>by
  unfold bV at h;cases hx:f x with
  |none=>simp[hx]at h
  |some y=>
   cases hr:bV f r with
   |none=>simp[hx,hr]at h
   |some s=>
    simp[hx,hr]at h;subst h;obtain⟨h1,h2⟩:=Nx hr;refine⟨by simp[h1],λi z hi=>?_⟩
    cases i with
    |zero=>simp at hi;subst hi;exact⟨y,rfl,hx⟩
    |succ i=>exact h2 i z (by simpa using hi)
theorem Z6 (k:Option Nat) (cs:List AV):∀(n:Nat),n*aC k<=cs.length->(∀m,k=some m->True)->(chunk k n cs).length=n:=by
 intro n
 induction n generalizing cs with
 |zero=>intros;simp[chunk]
 |succ n ih=>
  intro h _;cases k with
  |none=>
   cases cs with
   |nil=>simp[aC]at h
   |cons x r=>simp only[chunk,cw];rw[ih r (by simp[aC]at h ⊢;omega) (λ_ _=>trivial)]
  |some m=>
   simp only[chunk,cw];rw[ih (cs.drop m) (by simp[aC]at h ⊢;rw[fx]at h;omega) (λ_ _=>trivial)]
theorem HN (k:Option Nat):∀(n:Nat) (cs:List AV),n*aC k<=cs.length->∀i,i<n->∃x,(chunk k n cs)[i]? = some x/\part cs (i*aC k) k=some x
 |0,_,_,i,hi=>absurd hi (Nat.not_lt_zero i)
 |n+1,cs,h,i,hi=>by
  cases k with
  |none=>
   cases cs with
   |nil=>simp[aC]at h
   |cons x r=>
    cases i with
    |zero=>exact⟨x,by simp[chunk],by simp[part,aC,oP]⟩
    |succ i=>
     obtain⟨y,h1,h2⟩:=HN none n r (by simp[aC]at h ⊢;omega) i (by omega)
     exact⟨y,by simpa[chunk]using h1,by simpa[part,aC,oP]using h2⟩
  |some m=>
   simp only[aC]at h;rw[fx]at h;cases i with
   |zero=>exact⟨.agg (cs.take m),by simp[chunk],by simp[part,aC];omega⟩
   |succ i=>
    obtain⟨y,h1,h2⟩:=HN (some m) n (cs.drop m) (by simp[aC];omega) i (by omega)
    refine⟨y,by simpa[chunk]using h1,?_⟩
    simp only[part,aC,List.length_drop,List.drop_drop]at h2 ⊢;split at h2
    ·have e:(i+1)*m=m+i*m:=by rw[fx];omega
     have:m+i*m+m<=cs.length:=by omega
     rw[<-h2];simp only[e,this,dC]
    ·simp at h2
theorem BQ{C:Ctx}{H:Array Obj}{cs:List AV}{c:Array Value}{off:Nat}{k:Option Nat}{x:AV}
  (hc:∀(i:Nat) (x:AV),cs[i]? = some x->∃y,c[i]? = some y/\VR C H x y/\y.oneCell' = true) (h:part cs off k=some x) :
  ∃v,VR C H x v/\v.cells.size=aC k/\(∀j,j<aC k->c[off+j]? = v.cells[j]?)/\(k=none->v.cells = #[v])/\(k ≠ none->∃vs,v = .agg vs):=by
 cases k with
 |none=>
  simp only[part,nN]at h;obtain⟨y,h1,h2,h3⟩:=hc off x h;have h3:=yN h3;refine⟨y,h2,by simp[h3,aC],λj hj=>?_,λ_=>h3,λh=>absurd rfl h⟩
  simp only[aC]at hj;obtain rfl:j=0:=by omega
  simp[h1,h3]
 |some n=>
  simp only[part]at h;split at h
  case isFalse=>simp at h
  rename_i hn;simp at h;subst h;have key:∀m,m<=n->∃vs:List Value,cd C H ((cs.drop off).take m) vs/\vs.length=m/\(∀y,y∈vs->y.oneCell' = true)/\∀j,j<m->c[off+j]? = vs[j]?:=by
   intro m
   induction m with
   |zero=>intro _;exact⟨[],by simp[cd],rfl,by simp,λj hj=>absurd hj (Nat.not_lt_zero j)⟩
   |succ m ih=>
    intro hm;obtain⟨vs,h1,h2,h4,h3⟩:=ih (by omega)
    have hx:∃x,cs[off+m]? = some x:=⟨cs[off+m],by rw[dc (by omega)]⟩
    obtain⟨x,hx⟩:=hx;obtain⟨y,g1,g2,g3⟩:=hc (off+m) x hx;have ht:(cs.drop off).take (m+1)=(cs.drop off).take m ++ [x]:=by
     rw[nH];simp[hx]
    rw[ht];refine⟨vs ++ [y],h1.append ⟨y,[],rfl,g2,rfl⟩,by simp[h2],λz hz=>(eI.1 hz).elim (h4 z) (λhz=>by simp at hz;subst hz;exact g3),λj hj=>?_⟩
    rcases Nat.lt_or_ge j m with aK|Wb
    ·rw[h3 j aK,ft (by omega)]
    ·obtain rfl:j=m:=by omega
     rw[g1,<-h2];simp
  obtain⟨vs,h1,h2,h4,h3⟩:=key n (bw n);refine⟨.agg vs.toArray,by unfold VR;exact⟨vs,rfl,h1,h4⟩,by simp[Value.cells,h2,aC],λj hj=>?_,λh=>by simp at h,λ_=>⟨_,rfl⟩⟩
  simp only[aC]at hj;rw[h3 j hj];simp[Value.cells]
theorem je.of{C:Ctx}{H:Array Obj}{c:Array Value}{st:Nat}:∀{l:List AV}{off:Nat},
  (∀i x,l[i]? = some x->∃v,VR C H x v/\v.cells.size=st/\∀j,j<st->c[off+i*st+j]? = v.cells[j]?)->je C H c st l off
 | [],_,_=>trivial
 |x::r,off,h=>by
  refine⟨by simpa using h 0 x rfl,je.of λi y hi=>?_⟩
  obtain⟨v,h1,h2,h3⟩:=h (i+1) y (by simpa using hi)
  refine⟨v,h1,h2,λj hj=>?_⟩;rw[<-h3 j hj]
  congr 1
  rw[fx];omega
theorem je.get{C:Ctx}{H:Array Obj}{c:Array Value}{st:Nat}:∀{l:List AV}{off:Nat},je C H c st l off->
  ∀i x,l[i]? = some x->∃v,VR C H x v/\v.cells.size=st/\∀j,j<st->c[off+i*st+j]? = v.cells[j]?
 | [],_,_,i,x,hi=>by simp at hi
 |y::r,off,⟨hx,hr⟩,0,x,hi=>by simp at hi;subst hi;simpa using hx
 |y::r,off,⟨hx,hr⟩,i+1,x,hi=>by
  obtain⟨v,h1,h2,h3⟩:=je.get hr i x (by simpa using hi)
  refine⟨v,h1,h2,λj hj=>?_⟩;rw[<-h3 j hj]
  congr 1
  rw[fx];omega
theorem Bh{l:List AV}(h:∀x∈l,aN x=true):ax l=true:=by
 induction l with
 |nil=>rfl
 |cons x r ih=>
  simp only[ax,aD];exact⟨h x (by simp),ih λy hy=>h y (by simp[hy])⟩
structure Ny (fr:Bool) (C:Ctx) (C2:Ctx):Prop where
 aE:fr=false->∀k,C.I k->C2.I k
 own:∀k,owned C k->C2.I k
theorem xX{σ:List ag}{fr:Bool}{f:Nat}{C C2:Ctx}{H:Array Obj}
  (ih:∀x y v,view σ fr f x=some y->VR C H x v->aN y=true/\VR C2 H y v) :
  ∀{l m:List AV} {vs:List Value},bV (view σ fr f) l=some m->cd C H l vs->ax m=true/\cd C2 H m vs
 | [],m,vs,h,hv=>by simp[bV]at h;subst h;exact⟨rfl,hv⟩
 |x::r,m,vs,h,⟨v,s,e,hx,hr⟩=>by
  unfold bV at h;cases vc:view σ fr f x with
  |none=>simp[vc]at h
  |some y=>
   cases tV:bV (view σ fr f) r with
   |none=>simp[vc,tV]at h
   |some t=>
    simp[vc,tV]at h;subst h;obtain⟨h1,h2⟩:=ih x y v vc hx;obtain⟨h3,h4⟩:=xX ih tV hr;exact⟨by simp[ax,h1,h3],⟨v,s,e,h2,h4⟩⟩
theorem Bd{σ:List ag}{C:Ctx}{w:World}{fr:Bool}{C2:Ctx}(dg:∀b u B,C.lim b u->upto σ b u=some B->∃id,C.own b u=some (B,id)) (hg:Good C w) (hf:Ny fr C C2) :
  ∀(f:Nat) (x y:AV) (v:Value),view σ fr f x=some y->VR C w.heap x v->aN y=true/\VR C2 w.heap y v:=by
 intro f
 induction f with
 |zero=>intro x y v h;simp[view]at h
 |succ f ih=>
  intro x y v h hv;cases x with
  |sl b u off len=>
   simp only[view]at h;cases hu:upto σ b u with
   |none=>simp[hu]at h
   |some B=>
    simp only[hu]at h;split at h
    case isFalse=>simp at h
    rename_i hle;cases hm:bV (view σ fr f) (chunk B.k len (B.cells.drop off))with
    |none=>simp[hm]at h
    |some l=>
     simp[hm]at h;subst h;unfold VR at hv;obtain⟨_,fI,hv⟩:=hv;obtain⟨id,ho⟩:=dg b u B fI hu;obtain⟨r8,lU⟩:=Nx hm;obtain⟨_,e1,e3,e4⟩:=hg.kR b u B _ ho;have hv:=hv B _ ho;have hlen:(chunk B.k len (B.cells.drop off)).length=len:=Z6 _ _ _ (by simp;omega) (λ_ _=>trivial)
     cases hs:B.st with
     |dead=>exact absurd hs e4
     |map es=>have:=vU hu;rw[hs]at this;simp[eo.iz]at this
     |jN=>
      simp only[hs]at hv;obtain⟨rfl,rfl,rfl⟩:=hv;have:l=[]:=by
       have:l.length=0:=by rw[r8,hlen]
       exact dW this
      subst this;exact⟨rfl,by unfold VR;exact⟨rfl,.inl ⟨rfl,none,rfl,by simp⟩⟩⟩
     |live=>
      simp only[hs]at hv;obtain⟨c,el,o,cap,g1,rfl,g3,g4,g5⟩:=hv;obtain⟨n1,c', mg, n2,n3,n4⟩:=hg.live b u B _ ho hs;rw[g1]at n2;simp only[bF,kF]at n2;obtain⟨rfl,rfl,_⟩:=n2;have fH:∀i x,(B.cells.drop off)[i]? = some x->∃y,c[off+i]? = some y/\VR C w.heap x y/\y.oneCell' = true:=λi x hi=>by
       rw[lE]at hi;exact n4 (off+i) x hi
      have sg:∀i y,l[i]? = some y->aN y=true/\∃v,VR C2 w.heap y v/\v.cells.size=aC B.k/\∀j,j<aC B.k->c[off+i*aC B.k+j]? = v.cells[j]?:=λi y hi=>by
       have HJ:i<len:=by
        have:=(cT.1 hi).1;omega
       obtain⟨z,z1,z2⟩:=HN B.k len (B.cells.drop off) (by simp;omega) i HJ
       obtain⟨y', y1,y2⟩:=lU i z z1;rw[hi]at y1;simp at y1;subst y1;have hp:part B.cells (off+i*aC B.k) B.k=some z:=by
        cases hk:B.k with
        |none=>simp only[hk,part,nN,lE]at z2 ⊢;exact z2
        |some n=>
         simp only[hk,part,List.length_drop,List.drop_drop]at z2 ⊢;split at z2
         ·rw[ab (by omega)];exact z2
         ·simp at z2
       obtain⟨val,p1,p2,p3,_⟩:=BQ n4 hp;obtain⟨q1,q2⟩:=ih z y val y2 p1;exact⟨q1,val,q2,p2,p3⟩
      refine⟨rfl,?_⟩;unfold VR;refine⟨Bh λx hx=>?_,.inr ⟨id,o,cap,aC B.k,c,el,(0,0),?_,by omega,hf.own _ ⟨b,u,B,ho,lG hs⟩,g1,je.of λi x hi=>?_⟩⟩
      ·obtain⟨i,hi⟩:=List.getElem?_of_mem hx
       exact(sg i x hi).1
      ·rw[r8,hlen]
      ·have dw :=(cT.1 hi).1
       obtain rfl:=g3 (by omega)
       exact(sg i x hi).2
  |ptr b u off=>
   simp only[view]at h;cases hu:upto σ b u with
   |none=>simp[hu]at h
   |some B=>
    simp only[hu]at h;split at h
    case isFalse=>simp at h
    rename_i hle;simp only[aD,cL]at hle;cases hp:part B.cells 0 B.k with
    |none=>simp[hp]at h
    |some z=>
     cases hz:view σ fr f z with
     |none=>simp[hp,hz]at h
     |some z' =>
      simp[hp,hz]at h;subst h;unfold VR at hv;obtain⟨_,fI,hv⟩:=hv;obtain⟨id,ho⟩:=dg b u B fI hu;obtain⟨_,e1,e3,e4⟩:=hg.kR b u B _ ho;have hv:=hv B _ ho;have hs:B.st = .live:=by
       have:=hle.2
       revert this
       cases B.st<;>simp[eo.isLive]
      have hv:=hv hs;subst hv;obtain⟨n1,c,el,n2,n3,n4⟩:=hg.live b u B _ ho hs;obtain⟨val,p1,p2,p3,_⟩:=BQ n4 hp;obtain⟨q1,q2⟩:=ih z z' val hz p1;obtain⟨⟨rfl,_⟩,_⟩:=hle;exact⟨rfl,by unfold VR;exact⟨q1,id,0,c,el,(0,0),val,rfl,hf.own _ ⟨b,u,B,ho,lG hs⟩,n2,q2,λj hj=>p3 j (by omega)⟩⟩
  |agg l=>
   simp only[view]at h;cases hm:bV (view σ fr f) l with
   |none=>simp[hm]at h
   |some m=>
    simp[hm]at h;subst h;unfold VR at hv;obtain⟨vs,e,hl,hc⟩:=hv;obtain⟨h1,h2⟩:=xX ih hm hl;exact⟨by simpa[aN]using h1,by unfold VR;exact⟨vs,e,h2,hc⟩⟩
  |bQ l=>simp[view]at h
  |func g l=>
   simp only[view]at h;cases hm:bV (view σ fr f) l with
   |none=>simp[hm]at h
   |some m=>
    simp[hm]at h;subst h;unfold VR at hv;obtain⟨vs,e,hl⟩:=hv;obtain⟨h1,h2⟩:=xX ih hm hl;exact⟨by simpa[aN]using h1,by unfold VR;exact⟨vs,e,h2⟩⟩
  |iface t z=>
   simp only[view]at h;cases hm:view σ fr f z with
   |none=>simp[hm]at h
   |some m=>
    simp[hm]at h;subst h;unfold VR at hv;obtain⟨val,e,hl⟩:=hv;obtain⟨h1,h2⟩:=ih z m val hm hl;exact⟨by simpa[aN]using h1,by unfold VR;exact⟨val,e,h2⟩⟩
  |aE nn l=>
   simp only[view]at h;cases fr with
   |true=>simp at h
   |false=>
    simp at h;subst h;refine⟨rfl,?_⟩;exact VR.fR (x:=.aE nn l) (VR.free ⟨hf.aE rfl,λ_ _=>rfl⟩ _ _ rfl hv)
  |bd z=>
   simp only[view]at h;cases fr with
   |true=>simp at h
   |false=>
    simp at h;subst h;exact⟨rfl,VR.free ⟨hf.aE rfl,λ_ _=>rfl⟩ _ _ rfl hv⟩
  |ah=>simp[view]at h;subst h;exact⟨rfl,VR.fR (x:=.ah) hv⟩
  |emp=>simp[view]at h;subst h;exact⟨rfl,VR.fR (x:=.emp) hv⟩
  |arr l=>simp[view]at h
  |aM=>simp[view]at h
  |cM b=>
   simp[view]at h;subst h;unfold VR at hv;obtain⟨⟨a,rfl⟩,_⟩:=hv;exact⟨rfl,rfl⟩
  |_=>simp[view]at h;subst h;exact⟨rfl,hv⟩
theorem LD{σ:List ag}{C:Ctx}{w:World}{fr:Bool}{C2:Ctx}(dg:∀b u B,C.lim b u->upto σ b u=some B->∃id,C.own b u=some (B,id)) (hg:Good C w) (hf:Ny fr C C2)
  {x y:AV} {v:Value} (h:cv σ fr x=some y) (hv:VR C w.heap x v):VR C2 w.heap y v:=by
 by_cases hx:∃l,x = .bQ l
 ·obtain⟨l,rfl⟩:=hx
  simp only[cv]at h;cases hm:bV (view σ fr vd) l with
  |none=>simp[hm]at h
  |some m=>
   simp[hm]at h;subst h;unfold VR at hv;obtain⟨vs,e,hl⟩:=hv;unfold VR;exact⟨vs,e,(xX (λx y v=>Bd dg hg hf vd x y v) hm hl).2⟩
 ·have:cv σ fr x=view σ fr vd x:=by
   cases x<;>first|rfl|exact absurd ⟨_,rfl⟩ hx
  rw[this]at h;exact(Bd dg hg hf vd x y v h hv).2
theorem HO{C:Ctx}{H:Array Obj}{x z:AV}{y:Value}{off:Nat}{k:Option Nat}(hu:gO x) (h:VR C H x y) (hp:part x.cells off k=some z) :
  ∃v,VR C H z v/\v.cells.size=aC k/\(∀j,j<aC k->y.cells[off+j]? = v.cells[j]?)/\(k=none->v.cells = #[v])/\(k ≠ none->∃vs,v = .agg vs):=by
 obtain⟨h1,h2⟩:=VR.cells hu h;refine BQ (λi x' hi=>?_) hp;obtain⟨v,g1,g2⟩:=h1.get i x' hi;refine⟨v,by simpa using g1,g2,h2 v (qU g1)⟩
end Ab
namespace Ab
open Go
def bt (P:Program) (t:TypeId) (k:Option Nat):Bool:=
 match P.underlying t,P.info? t with
 |some d,some i=>match d,k with
  |.struct _,some n=>i.size==n
  |.array _ _,some n=>i.size==n
  |.struct _,none=>false
  |.array _ _,none=>false
  |_,none=>i.size==1
  |_,_=>false
 |_,_=>false
def bW (P:Program) (t:TypeId) (n:Nat):Bool:=
 match P.info? t with
 |some i=>i.size==n
 |none=>false
def aF (P:Program) (t:TypeId):Option TypeId:=
 match P.underlying t with
 |some (.slice e)=>some e
 |_=>none
def kv:Value->AV->Bool
 |.int .i64 n,.int m=>n==m
 |.int k n,.ik j m=>(match jV j with|some K=>decide (k=K)|none=>false)&&n==m
 |.bool a,.bool b=>a==b
 |.slice none 0 0,.ah=>true
 |.pointer none,.ig=>true
 |.map none,.p7=>true
 |.nilFunc,.kH=>true
 |.nilIface,.gQ=>true
 |.string s,.str l=>s.data.toList==l
 |_,_=>false
def eJ:List Value->List AV->Bool
 | [],[]=>true
 |v::vs,x::xs=>kv v x&&eJ vs xs
 |_,_=>false
def iE (P:Program) (t:TypeId) (z:List AV):Bool:=
 match P.info? t with
 |some i=>match i.zero with
  |some v=>eJ v.cells.toList z
  |none=>false
 |none=>false
def cV (P:Program) (t:TypeId):Bool:=
 match P.info? t with
 |some i=>match i.zero with
  |some v=>v.cells.size==i.size
  |none=>false
 |none=>false
def fy (P:Program) (t:TypeId):Bool:=
 match P.info? t with
 |some i=>decide (i.bytes<=4096)
 |none=>false
def ki (f:Operand->Rf->Bool):List Operand->List Rf->Bool
 | [],[]=>true
 |x::xs,y::ys=>f x y&&ki f xs ys
 |_,_=>false
def vB:BinOp->BG->Bool
 |.add,.add | .add,.uq | .sub,.sub | .mul,.mul | .quo,.quo | .rem,.rem | .lss,.lss | .leq,.leq | .gtr,.gtr | .geq,.geq | .eql,.eql | .neq,.neq=>true
 |_,_=>false
def lW (f:Operand->Rf->Bool):Option Operand->Option Rf->Bool
 |none,none=>true
 |some x,some y=>f x y
 |_,_=>false
def gH (f:Operand->Rf->Bool) (place:Nat->Option (Nat×Nat)):List (Nat×Operand)->List (Nat×Nat×Rf)->Bool
 | [],[]=>true
 |(i,x)::xs,(o,n,y)::ys=>(match place i with|some (a,b)=>a==o&&b==n|none=>false)&&f x y&&gH f place xs ys
 |_,_=>false
def placesOf (P:Program):List Field->Option (List (Nat×Nat))
 | []=>some []
 |f::r=>match P.info? f.type,placesOf P r with
  |some i,some l=>some ((f.offset,i.size)::l)
  |_,_=>none
def fY:Nat->List (Nat×Operand)->Bool
 |_,[]=>true
 |k,(i,_)::r=>i==k&&fY (k+1) r
def jU:Operand->Bool
 |.const (.slice none 0 0)=>true
 |_=>false
def mW (P:Program) (m:String):List (Nat×Nat)->Bool
 | []=>true
 |(t,f)::r=>(match P.info? t with
  |some i=>(match i.methods.find? (·.name==m)with
   |some x=>x.path.isEmpty&&(match x.func with
    |some (g,ptr)=>g==f&&(match P.underlying t with
     |some (.pointer _)=>ptr
     |some _=>!ptr
     |none=>false)
    |none=>false)
   |none=>false)
  |none=>false)&&mW P m r
def cJ (P:Program) (f:Nat):Bool:=
 match P.funcs[f]? with
 |some fn=>fn.body.isSome && !(fn.name == "runtime.NumGoroutine")
 |none=>false
def kU (o:BinOp) (neg:Bool):Bool:=
 match o with
 |.eql=>!neg
 |.neq=>neg
 |_=>false
def fQ (P:Program):List Field->Nat->Bool
 | [],_=>true
 |f::r,o=>f.name != "_" && (match P.underlying f.type with|some (.int .i64)=>true|_=>false)&&bt P f.type none&&f.offset==o&&fQ P r (o+1)
def yO (P:Program) (t:TypeId) (n:Nat):Bool:=(match P.underlying t with
 |some (.struct fs)=>fs.size==n&&fQ P fs.toList 0
 |_=>false) && !P.stoodInHeld t && !P.eqGuardType P.depth t
def kz (P:Program):List Field->Nat->Bool
 | [],_=>true
 |f::r,o=>f.name != "_" && (match P.underlying f.type with|some .string=>true|_=>false)&&bt P f.type none&&f.offset==o&&kz P r (o+1)
def yP (P:Program) (t:TypeId) (n:Nat):Bool:=(match P.underlying t with
 |some (.struct fs)=>fs.size==n&&kz P fs.toList 0
 |_=>false) && !P.stoodInHeld t && !P.eqGuardType P.depth t
def dF (P:Program) (t:TypeId) (kd:Nat):Bool:=match kd,P.underlying t with
 |0,some (.int .i64)=>true
 |1,some .string=>true
 |n+2,some (.struct fs)=>fs.size==n&&fQ P fs.toList 0 && !P.stoodInHeld t
 |n+2,some (.array m e)=>m==n&&(match P.underlying e with|some (.int .i64)=>true|_=>false)&&bt P e none
 |_,_=>false
def od (P:Program) (t:TypeId) (z:AV):Bool:=match P.info? t with
 |some i=>match i.zero with
  |some v=>kv v z&&aN z
  |none=>false
 |none=>false
def iW:Operand->Bool
 |.const (.int .i64 0)=>true
 |_=>false
def lJ (P:Program) (R:Operand->Rf->Bool):Op->cU->Bool
 |.move x,.mv y=>R x y
 |.assign x,.mv y=>R x y
 |.assign x,.nl _=>jU x
 |.binOp o _ x y _,.bin o' x' y' =>vB o o' && R x x' && R y y'
 |.binOp o t x y _,.seq neg n x' y' =>kU o neg&&yO P t n&&R x x' && R y y'
 |.binOp o t x y _,.beq neg x' y' =>kU o neg&&(match P.underlying t with|some .bool=>true|_=>false)&&R x x' && R y y'
 |.binOp o t x y _,.nK neg z=>kU o neg&&(aF P t).isSome&&((jU y&&R x z)||(jU x&&R y z))
 |.unOp .not _ x,.not y=>R x y
 |.unOp .neg _ x,.bin .sub (.c (.int 0)) y=>R x y
 |.pick c a b,.pick c' a' b' =>R c c' && R a a' && R b b'
 |.call {callee:=.builtin .len,args,argTypes},.len y=>(match args.toList,argTypes.toList with
  | [x],[t]=>(aF P t).isSome&&R x y
  |_,_=>false)
 |.call {callee:=.builtin .max,args,..},.mx true x' y' =>(match args.toList with
  | [x,y]=>R x x' && R y y'
  |_=>false)
 |.call {callee:=.builtin .min,args,..},.mx false x' y' =>(match args.toList with
  | [x,y]=>R x x' && R y y'
  |_=>false)
 |.fieldAddr s x f,.b5 y off k=>(match P.underlying s with
  |some (.struct fs)=>(match fs[f]? with
   |some fl=>fl.offset==off&&bt P fl.type k && !bW P fl.type 0
   |none=>false)
  |_=>false)&&R x y
 |.field s x f,.Zd y off k=>(match P.underlying s with
  |some (.struct fs)=>(match fs[f]? with
   |some fl=>fl.offset==off&&bt P fl.type k
   |none=>false)
  |_=>false)&&R x y
 |.indexAddr t x i,.bU x' i' st=>(match aF P t with
  |some e=>bW P e st
  |none=>false)&&R x x' && R i i'
 |.indexAddr t x i,.fS x' i' n k=>(match P.underlying t with
  |some (.array m e)=>m==n&&bt P e k&&decide (2<=m)
  |_=>false)&&R x x' && R i i'
 |.nilCheck x,.oO y=>R x y
 |.box _ x,.iD y=>R x y
 |.box t x,.u9 y k=>bt P t k&&R x y
 |.alloc t,.ox z k=>iE P t z&&bt P t k
 |.alloc t,.gn n=>bW P t n&&(match P.info? t with|some i=>(match i.zero with|some v=>v.cells.size==n|none=>false)|none=>false)
 |.store t p x,.ku p' x' n=>bW P t n&&R p p' && R x x'
 |.store t p x,.st p' x' n=>bW P t n&&R p p' && R x x'
 |.load t x,.ld y k=>bt P t k&&R x y
 |.load t x,.cg y k=>bt P t k&&R x y
 |.build t ps,.jI z qs=>iE P t z&&(match P.underlying t with
  |some (.struct fs)=>(match placesOf P fs.toList with|some l=>gH R (λi=>l[i]?) ps.toList qs|none=>false)
  |some (.array _ e)=>(match P.info? e with|some i=>gH R (λj=>some (j*i.size,i.size)) ps.toList qs|none=>false)
  |_=>false)
 |.index t x i,.idx x' i' n k=>(match P.underlying t with
  |some (.array m e)=>m==n&&bt P e k
  |_=>false)&&R x x' && R i i'
 |.extract x i,.ext y j=>i==j&&R x y
 |.makeFunc (.func f) fst aI,.BH g ys=>fst.isEmpty&&f==g&&ki R aI.toList ys
 |.makeInterface t x,.KU u y=>t==u&&(match P.underlying t with|some (.interface _)=>false|some _=>true|none=>false)&&R x y
 |.buildSlice t n ps,.bX ys st=>(match aF P t with|some e=>bW P e st&&cV P e&&decide (n*st<=2^24)|none=>false)&&n==ps.size&&fY 0 ps.toList&&ki R (ps.toList.map (·.2)) ys
 |.buildSlice t n ps,.dI ys st=>(match aF P t with|some e=>bW P e st&&cV P e&&decide (n*st<=2^24)|none=>false)&&n==ps.size&&fY 0 ps.toList&&ki R (ps.toList.map (·.2)) ys
 |.buildSlice t n ps,.mw ys k=>(match aF P t with|some e=>bt P e k&&cV P e&&decide (n*aC k<=2^24)|none=>false)&&n==ps.size&&fY 0 ps.toList&&ki R (ps.toList.map (·.2)) ys
 |.slice t x lo hi none,.pK y sU dw st=>(match aF P t with|some e=>bW P e st|none=>false)&&R x y&&lW R lo sU && lW R hi dw
 |.slice t x none (some hi) (some mx),.Hz y dw Nz st=>(match aF P t with|some e=>bW P e st|none=>false)&&R x y&&R hi dw && R mx Nz
 |.convert s d x,.FT y=>(match P.underlying s,P.underlying d with|some (.int _),some (.int .i64)=>true|_,_=>false)&&R x y
 |.makeSlice t l c,.jT l' c' z k=>(match aF P t with|some e=>bt P e k&&iE P e z&&fy P e|none=>false)&&R l l' && R c c'
 |.call {callee:=.builtin .append,args,argTypes},.app s' x' k=>(match args.toList,argTypes.toList with
  | [s,x],[t,t']=>(match aF P t with|some e=>bt P e k&&fy P e&&cV P e|none=>false)&&(aF P t').isSome&&R s s' && R x x'
  |_,_=>false)
 |.call {callee:=.builtin .append,args,argTypes},.dm s' x' k=>(match args.toList,argTypes.toList with
  | [s,x],[t,t']=>(match aF P t with|some e=>bt P e k&&fy P e&&cV P e|none=>false)&&(aF P t').isSome&&R s s' && R x x'
  |_,_=>false)
 |.call {callee:=.value (.func f),args,..},.cu g ys=>f==g&&cJ P f&&ki R args.toList ys
 |.call {callee:=.value (.func f),args,..},.tO g ys=>f==g&&cJ P f&&ki R args.toList ys
 |.call {callee:=.value (.func f),args,..},.can g ys=>f==g&&cJ P f&&ki R args.toList ys
 |.call {callee:=.value (.func f),args,..},.fF g ys=>f==g&&cJ P f&&ki R args.toList ys
 |.call {callee:=.value x,args,..},.lD y ys=>R x y&&ki R args.toList ys
 |.call {callee:=.value x,args,..},.kT y ys=>R x y&&ki R args.toList ys
 |.call {callee:=.invoke x m,args,..},.inv y gB ys=>R x y&&ki R args.toList ys&&mW P m gB
 |.call {callee:=.invoke x m,args,..},.p8 y gB ys=>R x y&&ki R args.toList ys&&mW P m gB
 |.call {callee:=.builtin .cap,args,argTypes},.Hf y=>(match args.toList,argTypes.toList with
  | [x],[t]=>(aF P t).isSome&&R x y
  |_,_=>false)
 |.call {callee:=.builtin .clear,args,argTypes},.vi y z k=>(match args.toList,argTypes.toList with
  | [x],[t]=>(match aF P t with|some e=>bt P e k&&iE P e z|none=>false)&&R x y
  |_,_=>false)
 |.makeMap _ none,.ya=>true
 |.lookup t x k ok,.vj x' kd k' z ok' =>(match P.underlying t with
  |some (.map kt e)=>dF P kt kd&&od P e z
  |_=>false)&&ok==ok' && R x x' && R k k'
 |.call {callee:=.builtin .len,args,argTypes},.AH x' =>(match args.toList,argTypes.toList with
  | [x],[t]=>(match P.underlying t with|some (.map _ _)=>true|_=>false)&&R x x'
  |_,_=>false)
 |.mapUpdate t m k x,.vh m' kd k' x' =>(match P.underlying t with
  |some (.map kt _)=>dF P kt kd
  |_=>false)&&R m m' && R k k' && R x x'
 |.insert t m k x,.vh m' kd k' x' =>(match P.underlying t with
  |some (.map kt _)=>dF P kt kd
  |_=>false)&&R m m' && R k k' && R x x'
 |.convert s d x,.YP y=>(match P.underlying s,P.underlying d with|some (.int _),some (.int .u64)=>true|_,_=>false)&&R x y
 |.binOp .gtr _ x y _,.YS x' y' =>R x x' && R y y'
 |.binOp .shr _ x y _,.YT x' y' =>R x x' && R y y'
 |.convert s d x,.KR y=>(match P.underlying s,P.underlying d with|some (.int _),some (.int .u8)=>true|_,_=>false)&&R x y
 |.convert s d x,.Bp y=>(match P.underlying s,P.underlying d with|some (.slice e),some .string=>(match P.underlying e with|some (.int .u8)=>true|_=>false)|_,_=>false)&&R x y
 |.call {callee:=.builtin .copy,args,argTypes},.FN x' y' k=>(match args.toList,argTypes.toList with
  | [x,y],[t,_]=>(match aF P t with|some e=>bt P e k|none=>false)&&R x x' && R y y'
  |_,_=>false)
 |.mapUpdate t m k x,.xu m' kd k' x' =>(match P.underlying t with
  |some (.map kt _)=>dF P kt kd&&decide (kd<2)
  |_=>false)&&R m m' && R k k' && R x x'
 |.insert t m k x,.xu m' kd k' x' =>(match P.underlying t with
  |some (.map kt _)=>dF P kt kd&&decide (kd<2)
  |_=>false)&&R m m' && R k k' && R x x'
 |.convert s d x,.KM y=>(match P.underlying s,P.underlying d with|some .string,some (.slice e)=>(match P.underlying e with|some (.int .u8)=>true|_=>false)|_,_=>false)&&R x y
 |.index t x i,.KS x' i' =>(match P.underlying t with|some .string=>true|_=>false)&&R x x' && R i i'
 |.convert s d x,.BD y=>(match P.underlying s,P.underlying d with|some (.int _),some (.int .u8)=>true|_,_=>false)&&R x y
 |.binOp .shr _ x y _,.Hn x' y' =>R x x' && R y y'
 |.binOp o t x y _,.KT neg x' y' =>kU o neg&&(match P.underlying t with|some (.int _)=>true|_=>false)&&R x x' && R y y'
 |.slice t x lo hi none,.Ya y sU dw st=>(match aF P t with|some e=>bW P e st|none=>false)&&R x y&&lW R lo sU && lW R hi dw
 |.buildSlice t n ps,.si st=>(match aF P t with|some e=>bW P e st&&cV P e|none=>false)&&n==0&&ps.size==0
 |.slice t x none (some hi) (some mx),.Ze y st=>(match aF P t with|some e=>bW P e st|none=>false)&&iW hi&&iW mx&&R x y
 |.binOp o t x y _,.KV neg n x' y' =>kU o neg&&yP P t n&&R x x' && R y y'
 |_,_=>false
def cU.jG:cU->Bool
 |.nK .. | .ld .. | .pK .. | .can .. | .tO .. | .u9 .. | .ox .. | .jT .. | .mw .. | .nl .. | .app .. | .st .. | .dm .. | .fF .. | .kT .. | .p8 .. | .vi .. | .ya | .vj .. | .AH .. | .vh .. | .FN .. | .Bp .. | .xu ..=>false
 |_=>true
end Ab
namespace Ab
open Go
variable{P:Program}
theorem iP{t:TypeId}{n:Nat}(h:bW P t n=true) (w:World):(Go.sizeOf t).run P w = .ok n w:=by
 unfold bW at h;cases hi:P.info? t with
 |none=>simp[hi]at h
 |some i=>
  simp[hi]at h;rw[run_sizeOf w hi];simp[Program.cellsOf,hi,h]
theorem kD{t:TypeId}{k:Option Nat}(h:bt P t k=true):bW P t (aC k)=true:=by
 unfold bt at h;unfold bW;cases hu:P.underlying t with
 |none=>simp[hu]at h
 |some d=>
  cases hi:P.info? t with
  |none=>simp[hu,hi]at h
  |some i=>
   simp only[hu,hi]at h ⊢;cases d<;>cases k<;>simp_all [aC]
theorem re{t:TypeId}{k:Option Nat}(h:bt P t k=true) (w:World):(isAgg t).run P w = .ok k.isSome w:=by
 unfold bt at h;cases hu:P.underlying t with
 |none=>simp[hu]at h
 |some d=>
  cases hi:P.info? t with
  |none=>simp[hu,hi]at h
  |some i=>
   simp only[hu,hi]at h;simp only[isAgg,aL,run_underlying hu,aR];cases d<;>cases k<;>simp_all
theorem jS{t e:TypeId}(h:aF P t=some e) (w:World):(underlying t).run P w = .ok (.slice e) w:=by
 unfold aF at h;cases hu:P.underlying t with
 |none=>simp[hu]at h
 |some d=>cases d<;>simp[hu]at h;subst h;exact run_underlying hu w
theorem NA{w:World}{t:TypeId}{k:Option Nat}(hk:bt P t k=true){ak off:Nat}{c:Array Value}{el:TypeId}{fz:Nat×Nat}{v:Value}
  (hH:w.heap[ak]? = some (.cells c el fz)) (hs:v.cells.size=aC k) (hj:∀j,j<aC k->c[off+j]? = v.cells[j]?) (hn:k=none->v.cells = #[v]) (ha:k ≠ none->∃vs,v = .agg vs) :
  (loadVar t ⟨ak,off,none⟩).run P w = .ok v w:=by
 have FZ:∀j,j<aC k->w.cell? ((⟨ak,off,none⟩:Addr).add j)=some (v.cells.getD j undef):=λj aK=>by
  have:((⟨ak,off,none⟩:Addr).add j)=⟨ak,off+j,none⟩:=by
   unfold Addr.add;split
   ·rename_i h0;subst h0;rfl
   ·rfl
  rw[this];simp only[World.cell?,hH];simp only[rf,eE,eG];rw[hj j aK];have:j<v.cells.size:=by omega
  simp[this]
 unfold loadVar;simp only[aL,re hk,aR];cases k with
 |none=>
  simp only[rf,eE,eG];have h0:=FZ 0 (by simp[aC])
  simp only[Addr.add,dC]at h0;have hv:=hn rfl;rw[hv]at h0;simp at h0;simp[load,Sem.run,h0]
 |some n=>
  obtain⟨vs,rfl⟩:=ha (by simp)
  simp only[Option.isSome_some,dC,aL,iP (kD hk),aR,aC];have hl:=run_loadCells (P:=P) (w:=w) ⟨ak,off,none⟩ n (λj=>vs.getD j undef) (λj aK=>FZ j aK);rw[hl];simp only[aR,bh];simp only[Value.cells,aC]at hs
  congr 2
  apply Array.ext
  ·simp[hs]
  ·intro i h1 h2
   have h3:i<vs.size:=by simpa using h2
   simp[h3]
end Ab
namespace Ab
open Go
variable{P:Program}
theorem Z7{P:Program}{s:Sem Value}{w:World}{v:Value}(h:s.run P w = .ok v w):(do pure (Next.value (<-s)):Sem Next).run P w = .ok (.value v) w:=by
 simp only[aL,h,aR,bh]
theorem Hl{C:Ctx}{H:Array Obj}{v:Value}{x:AV}(h:kv v x=true):VR C H x v:=by
 unfold kv at h;split at h<;>first
  |(simp at h;done)
  |skip
 ·simp at h;subst h;unfold VR;rfl
 ·rename_i k n j m
  cases hk:jV j with
  |none=>simp[hk]at h
  |some K=>
   simp[hk]at h;obtain⟨rfl,rfl⟩:=h;unfold VR;exact⟨_,hk,rfl⟩
 ·simp at h;subst h;unfold VR;rfl
 ·unfold VR;rfl
 ·unfold VR;rfl
 ·unfold VR;rfl
 ·unfold VR;rfl
 ·unfold VR;rfl
 ·simp at h
  unfold VR;rw[<-h]
theorem NB{C:Ctx}{H:Array Obj}:∀{vs:List Value}{xs:List AV},eJ vs xs=true->cd C H xs vs
 | [],[],_=>rfl
 |v::vs,x::xs,h=>by
  simp only[eJ,aD]at h;exact⟨v,vs,rfl,Hl h.1,NB h.2⟩
 | [],_::_,h=>by simp[eJ]at h
 |_::_,[],h=>by simp[eJ]at h
theorem lK{C:Ctx}{H:Array Obj}{R:Operand->Rf->Bool}{ρ:Operand->Value}{r:Rf->AV}(hR:∀x y,R x y=true->VR C H (r y) (ρ x)) :
  ∀{xs:List Operand} {ys:List Rf},ki R xs ys=true->cd C H (ys.map r) (xs.map ρ)
 | [],[],_=>rfl
 |x::xs,y::ys,h=>by
  simp only[ki,aD]at h;exact⟨ρ x,xs.map ρ,rfl,hR _ _ h.1,lK hR h.2⟩
 | [],_::_,h=>by simp[ki]at h
 |_::_,[],h=>by simp[ki]at h
theorem wv{n:Int}(h:kZ n=true):IntKind.i64.wrap n=n:=by
 simp only[kZ,aD,eP]at h;exact IntWalk.i64_in n ⟨by omega,by omega⟩
end Ab
namespace Ab
open Go
variable{P:Program}
section plain
variable{ρ:Operand->Value}{r:Rf->AV}{w:World}{C:Ctx}{H:Array Obj}{R:Operand->Rf->Bool}
def Plain (P:Program) (ρ:Operand->Value) (o:Oper) (w:World) (C:Ctx) (H:Array Obj) (x:AV):Prop:=
 ∃v,(execOp ρ o).run P w = .ok (.value v) w/\VR C H x v
theorem dX{o:Oper}{s:Sem Value}{v:Value}{x:AV}(he:execOp ρ o=(do pure (Next.value (<-s)))) (h:s.run P w = .ok v w) (hv:VR C H x v):Plain P ρ o w C H x:=
 ⟨v,by rw[he];exact Z7 h,hv⟩
theorem Z8 (n:Int):IntKind.i64.wrap n=wr n:=by
 unfold wr;simp only[IntKind.wrap,IntKind.bits,IntKind.signed,Bool.true_and,eP,show(2:Int)^64=18446744073709551616 by decide,show(2:Int)^(64-1)=9223372036854775808 by decide]
 split<;>omega
theorem Z9{op:BinOp}{b:BG}{n m:Int}{x:AV}(hb:vB op b=true) (hx:bin b n m=some x) (t:TypeId) :
  ∃v,(binOp op t (.int .i64 n) (.int .i64 m)).run P w = .ok v w/\VR C H x v:=by
 unfold vB at hb;split at hb<;>simp only[bin]at hx
 case h_13=>simp at hb
 all_goals simp only[binOp,ne_eq,not_true_eq_false,eG,Op.intArith,Op.intCmp,Op.intDiv]
 case h_1=>split at hx<;>simp at hx;rename_i h;subst hx;exact⟨_,rfl,by unfold VR;rw[wv h]⟩
 case h_2=>simp at hx;subst hx;exact⟨_,rfl,by unfold VR;rw[Z8]⟩
 case h_3=>split at hx<;>simp at hx;rename_i h;subst hx;exact⟨_,rfl,by unfold VR;rw[wv h]⟩
 case h_4=>split at hx<;>simp at hx;rename_i h;subst hx;exact⟨_,rfl,by unfold VR;rw[wv h]⟩
 case h_5=>
  by_cases h0:m=0
  ·simp[h0]at hx
  ·simp[h0]at hx;obtain⟨h,rfl⟩:=hx
   simp only[h0,eG];exact⟨_,rfl,by unfold VR;rw[wv h]⟩
 case h_6=>
  by_cases h0:m=0
  ·simp[h0]at hx
  ·simp[h0]at hx;subst hx
   simp only[h0,eG];exact⟨_,rfl,by unfold VR;rfl⟩
 all_goals
  simp at hx;subst hx;refine⟨_,rfl,?_⟩;unfold VR
  first|rfl|(simp[bne])
end plain
end Ab
namespace Ab
open Go
variable{P:Program}
theorem yQ{x:AV}(h:aN x=true):gO x:=by
 refine⟨?_,λl=>?_⟩<;>(intro e;subst e;simp[aN]at h)
section
variable{ρ:Operand->Value}{r:Rf->AV}{w:World}{C:Ctx}{R:Operand->Rf->Bool}{ce:CE}{σ:List ag}{nl:Nat}{ps:List aX}
theorem p6 (b o n:Nat):(⟨b,o,none⟩:Addr).add n=⟨b,o+n,none⟩:=by
 unfold Addr.add;split
 ·rename_i h;subst h;rfl
 ·rfl
theorem VR.aY{H:Array Obj}{n:Int}{v:Value}(h:VR C H (.int n) v):v = .int .i64 n:=h
theorem VR.lY{H:Array Obj}{n:Bool}{v:Value}(h:VR C H (.bool n) v):v = .bool n:=h
theorem Yb{o:Oper}{op:BinOp}{t t' : TypeId}{x y:Operand}{b:BG}{x' y' : Rf}{z:AV}{p:Option aX}(ho:o.op = .binOp op t x y t') (hb:vB op b=true)
  (hx:VR C w.heap (r x') (ρ x)) (hy:VR C w.heap (r y') (ρ y)) (he:ev ce σ nl ps r (.bin b x' y')=some (z,p)):Plain P ρ o w C w.heap z/\p=none:=by
 simp only[ev]at he;cases bJ : r x' <;>simp only[bJ]at he<;>try(simp at he;done)
 cases kj : r y' <;>simp only[kj]at he<;>try(simp at he;done)
 rename_i n m;rw[bJ]at hx;rw[kj]at hy;have hx:=hx.aY;have hy:=hy.aY;cases hz:Ab.bin b n m with
 |none=>simp[hz]at he
 |some z' =>
  simp[hz]at he;obtain⟨rfl,rfl⟩:=he;obtain⟨v,h1,h2⟩:=Z9 (P:=P) (w:=w) (C:=C) (H:=w.heap) hb hz t;refine⟨dX (s:=do eqGuard op t x y (ρ x) (ρ y);binOp op t (ρ x) (ρ y)) (by simp only[execOp,ho]) ?_ h2,rfl⟩
  rw[hx,hy];have hg:(eqGuard op t x y (.int .i64 n) (.int .i64 m)).run P w = .ok () w:=by
   unfold eqGuard;split<;>simp
  simp only[aL,hg,aR,h1]
theorem Yd{o:Oper}{op:BinOp}{t t' : TypeId}{x y:Operand}{neg:Bool}{x' y' : Rf}{z:AV}{p:Option aX}(ho:o.op = .binOp op t x y t')
  (cY:kU op neg=true) (ht:(match P.underlying t with|some .bool=>true|_=>false)=true)
  (hx:VR C w.heap (r x') (ρ x)) (hy:VR C w.heap (r y') (ρ y)) (he:ev ce σ nl ps r (.beq neg x' y')=some (z,p)):Plain P ρ o w C w.heap z/\p=none:=by
 have hu:P.underlying t=some .bool:=by
  split at ht
  ·assumption
  ·simp at ht
 simp only[ev]at he;cases bJ : r x' <;>simp only[bJ]at he<;>try(simp at he;done)
 cases kj : r y' <;>simp only[kj]at he<;>try(simp at he;done)
 rename_i a b;rw[bJ]at hx;rw[kj]at hy;have hx:=hx.lY;have hy:=hy.lY;simp at he;obtain⟨rfl,rfl⟩:=he;refine⟨dX (s:=do eqGuard op t x y (ρ x) (ρ y);binOp op t (ρ x) (ρ y)) (v:=.bool ((a==b) != neg)) (by simp only[execOp,ho]) ?_ (by unfold VR;rfl),rfl⟩
 rw[hx,hy];have hg:(eqGuard op t x y (.bool a) (.bool b)).run P w = .ok () w:=by
  unfold eqGuard;split<;>simp
 have hq:(Op.equal t (.bool a) (.bool b)).run P w = .ok (a==b) w:=by
  unfold Op.equal Op.maxDepth Op.equalIn;simp only[aL,run_underlying hu,aR,bh]
 unfold kU at cY;split at cY
 ·simp only[aL,hg,aR,binOp,hq,bh]
  simp at cY;subst cY;simp
 ·simp only[aL,hg,aR,binOp,hq,bh]
  subst cY;simp
 ·simp at cY
theorem yq:∀{xs ys:List AV}{b:Bool},fg xs ys=some b->∃Xs Ys:List Int,xs=Xs.map .int/\ys=Ys.map .int/\Xs.length=Ys.length/\b=decide (Xs=Ys)
 | [],[],b,h=>by simp[fg]at h;subst h;exact⟨[],[],rfl,rfl,rfl,by simp⟩
 |.int a::xs,.int c::ys,b,h=>by
  simp only[fg]at h;cases hr:fg xs ys with
  |none=>rw[hr]at h;simp at h
  |some d=>
   rw[hr]at h;simp at h;obtain⟨Xs,Ys,h1,h2,h3,h4⟩:=yq hr;refine⟨a::Xs,c::Ys,by rw[h1];rfl,by rw[h2];rfl,by simp[h3],?_⟩
   rw[<-h,h4,oL];simp
theorem v7{H:Array Obj}:∀{Xs:List Int}{vs:List Value},cd C H (Xs.map .int) vs->vs=Xs.map (Value.int .i64)
 | [],vs,h=>h
 |x::Xs,vs,h=>by
  obtain⟨v,s,rfl,h1,h2⟩:=h;rw[v7 h2,h1.aY];rfl
theorem Hi{d:Nat}{Xs Ys:List Int}{w:World}(hl:Xs.length=Ys.length):∀{fs:List Field}{o:Nat},fQ P fs o=true->o+fs.length=Xs.length->
  (Op.eqFields (d+1) (Xs.map (Value.int .i64)).toArray (Ys.map (Value.int .i64)).toArray fs).run P w = .ok (decide (Xs.drop o=Ys.drop o)) w
 | [],o,_,ho=>by
  simp only[Op.eqFields,bh];rw[jH (by simp at ho;omega),jH (by simp at ho;omega)]
  simp
 |f::fs,o,hi,ho=>by
  simp only[fQ,aD,cL,bne_iff_ne]at hi;obtain⟨⟨⟨⟨h1,h2⟩,h3⟩,h4⟩,h5⟩:=hi;have hu:P.underlying f.type=some (.int .i64):=by
   split at h2
   ·assumption
   ·simp at h2
  simp only[cw]at ho;have hX:o<Xs.length:=by omega
  have hY:o<Ys.length:=by omega
  have hp:∀(Z:List Int) (h:o<Z.length),(Go.part f.type (Z.map (Value.int .i64)).toArray f.offset).run P w = .ok (.int .i64 Z[o]) w:=λZ h=>by
   have hg:(Z.map (Value.int .i64)).toArray[o]? = some (.int .i64 Z[o]):=by simp[h]
   simp only[Go.part,aL,re h3,rf,aR,eE,eG,h4,hg,bh]
  simp only[Op.eqFields,ab h1,aL,hp Xs hX,hp Ys hY,aR,run_equalIn_int w d f.type .i64 .i64 _ _ hu];have ih:=Hi (d:=d) (w:=w) hl h5 (by omega)
  have sH:(Xs.drop o=Ys.drop o)↔(Xs[o]=Ys[o]/\Xs.drop (o+1)=Ys.drop (o+1)):=by
   rw[rh hX,rh hY,List.cons.injEq]
  by_cases e:Xs[o]=Ys[o]
  ·have hd:decide (Xs.drop (o+1)=Ys.drop (o+1))=decide (Xs.drop o=Ys.drop o):=by
    rw[oL,decide_eq_true_iff,decide_eq_true_iff,sH];exact⟨λh=>⟨e,h⟩,λh=>h.2⟩
   have eb:(Xs[o]==Ys[o])=true:=by simpa using e
   simp only[eb,Bool.not_true,eE,eG,ih,hd]
  ·have e' : (Xs[o]==Ys[o])=false:=by simpa using e
   have hd:decide (Xs.drop o=Ys.drop o)=false:=rj λh=>e (sH.1 h).1;simp only[e', Bool.not_false,dC,bh,hd]
theorem Yc{o:Oper}{op:BinOp}{t t' : TypeId}{x y:Operand}{neg:Bool}{n:Nat}{x' y' : Rf}{z:AV}{p:Option aX}(ho:o.op = .binOp op t x y t')
  (cY:kU op neg=true) (ht:yO P t n=true)
  (hx:VR C w.heap (r x') (ρ x)) (hy:VR C w.heap (r y') (ρ y)) (he:ev ce σ nl ps r (.seq neg n x' y')=some (z,p)):Plain P ρ o w C w.heap z/\p=none:=by
 unfold yO at ht;simp only[aD,Bool.not_eq_true']at ht;obtain⟨⟨BR,ht2⟩,ht3⟩:=ht;split at BR
 case h_2=>simp at BR
 rename_i fs hu;simp only[aD,cL]at BR;obtain⟨hn,hi⟩:=BR;simp only[ev]at he;cases bJ : r x' <;>simp only[bJ]at he<;>try(simp at he;done)
 cases kj : r y' <;>simp only[kj]at he<;>try(simp at he;done)
 rename_i xs ys;rw[bJ]at hx;rw[kj]at hy;split at he
 case isFalse=>simp at he
 rename_i Wg;cases hb:fg xs ys with
 |none=>rw[hb]at he;simp at he
 |some b=>
  rw[hb]at he;simp at he;obtain⟨rfl,rfl⟩:=he;obtain⟨Xs,Ys,rfl,rfl,hl,rfl⟩:=yq hb;obtain⟨vs,ex,dQ,_⟩:=hx;obtain⟨us,ey,nG,_⟩:=hy;rw[v7 dQ]at ex;rw[v7 nG]at ey;have AA:P.fieldsOf t=fs:=by unfold Program.fieldsOf;rw[hu]
  have BC:Xs.length=n:=by simpa using Wg
  refine⟨dX (s:=do eqGuard op t x y (ρ x) (ρ y);binOp op t (ρ x) (ρ y)) (v:=.bool ((decide (Xs=Ys)) != neg)) (by simp only[execOp,ho]) ?_ (by unfold VR;rfl),rfl⟩
  rw[ex,ey];have hg:=run_eqGuard_agg w op t x y (Xs.map (Value.int .i64)).toArray (Ys.map (Value.int .i64)).toArray ht3;have hq:(Op.equalIn 10000 t (.agg (Xs.map (Value.int .i64)).toArray) (.agg (Ys.map (Value.int .i64)).toArray)).run P w = .ok (decide (Xs=Ys)) w:=by
   rw[show(10000:Nat)=9999+1 from rfl,run_equalIn_struct w 9999 t _ _ (by rw[AA];exact hu) ht2,AA]
   have:=Hi (P:=P) (d:=9998) (w:=w) hl (fs:=fs.toList) (o:=0) hi (by simp[BC,hn])
   simpa using this
  unfold kU at cY;split at cY
  ·simp only[aL,hg,aR,run_eql_struct,hq]
   simp at cY;subst cY;simp
  ·simp only[aL,hg,aR,run_neq_struct,hq]
   subst cY;simp
  ·simp at cY
def strVal (s:List UInt8):Value:=.string ⟨s.toArray⟩
theorem NC:∀{xs ys:List AV}{b:Bool},iG xs ys=some b->∃Xs Ys:List (List UInt8),xs=Xs.map .str/\ys=Ys.map .str/\Xs.length=Ys.length/\b=decide (Xs=Ys)
 | [],[],b,h=>by simp[iG]at h;subst h;exact⟨[],[],rfl,rfl,rfl,by simp⟩
 |.str a::xs,.str c::ys,b,h=>by
  simp only[iG]at h;cases hr:iG xs ys with
  |none=>rw[hr]at h;simp at h
  |some d=>
   rw[hr]at h;simp at h;obtain⟨Xs,Ys,h1,h2,h3,h4⟩:=NC hr;refine⟨a::Xs,c::Ys,by rw[h1];rfl,by rw[h2];rfl,by simp[h3],?_⟩
   rw[<-h,h4,oL];simp
theorem HP{H:Array Obj}:∀{Xs:List (List UInt8)}{vs:List Value},cd C H (Xs.map .str) vs->vs=Xs.map strVal
 | [],vs,h=>h
 |x::Xs,vs,h=>by
  obtain⟨v,s,rfl,h1,h2⟩:=h;unfold VR at h1;rw[HP h2,h1];rfl
theorem ND{d:Nat}{Xs Ys:List (List UInt8)}{w:World}(hl:Xs.length=Ys.length):∀{fs:List Field}{o:Nat},kz P fs o=true->o+fs.length=Xs.length->
  (Op.eqFields (d+1) (Xs.map strVal).toArray (Ys.map strVal).toArray fs).run P w = .ok (decide (Xs.drop o=Ys.drop o)) w
 | [],o,_,ho=>by
  simp only[Op.eqFields,bh];rw[jH (by simp at ho;omega),jH (by simp at ho;omega)]
  simp
 |f::fs,o,hi,ho=>by
  simp only[kz,aD,cL,bne_iff_ne]at hi;obtain⟨⟨⟨⟨h1,h2⟩,h3⟩,h4⟩,h5⟩:=hi;have hu:P.underlying f.type=some .string:=by
   split at h2
   ·assumption
   ·simp at h2
  simp only[cw]at ho;have hX:o<Xs.length:=by omega
  have hY:o<Ys.length:=by omega
  have hp:∀(Z:List (List UInt8)) (h:o<Z.length),(Go.part f.type (Z.map strVal).toArray f.offset).run P w = .ok (.string ⟨Z[o].toArray⟩) w:=λZ h=>by
   have hg:(Z.map strVal).toArray[o]? = some (.string ⟨Z[o].toArray⟩):=by simp[h,strVal]
   simp only[Go.part,aL,re h3,rf,aR,eE,eG,h4,hg,bh]
  simp only[Op.eqFields,ab h1,aL,hp Xs hX,hp Ys hY,aR,run_equalIn_string w d f.type _ _ hu];have ih:=ND (d:=d) (w:=w) hl h5 (by omega)
  have sH:(Xs.drop o=Ys.drop o)↔(Xs[o]=Ys[o]/\Xs.drop (o+1)=Ys.drop (o+1)):=by
   rw[rh hX,rh hY,List.cons.injEq]
  have e1:∀s:List UInt8,ByteArray.toList ⟨s.toArray⟩=s:=λs=>by rw[ByteArray.toList_eq]
  rw[e1,e1]
  by_cases e:Xs[o]=Ys[o]
  ·have hd:decide (Xs.drop (o+1)=Ys.drop (o+1))=decide (Xs.drop o=Ys.drop o):=by
    rw[oL,decide_eq_true_iff,decide_eq_true_iff,sH];exact⟨λh=>⟨e,h⟩,λh=>h.2⟩
   have eb:(Xs[o]==Ys[o])=true:=by simpa using e
   simp only[eb,Bool.not_true,eE,eG,ih,hd]
  ·have e' : (Xs[o]==Ys[o])=false:=by simpa using e
   have hd:decide (Xs.drop o=Ys.drop o)=false:=rj λh=>e (sH.1 h).1;simp only[e', Bool.not_false,dC,bh,hd]
theorem YE{o:Oper}{op:BinOp}{t t' : TypeId}{x y:Operand}{neg:Bool}{n:Nat}{x' y' : Rf}{z:AV}{p:Option aX}(ho:o.op = .binOp op t x y t')
  (cY:kU op neg=true) (ht:yP P t n=true)
  (hx:VR C w.heap (r x') (ρ x)) (hy:VR C w.heap (r y') (ρ y)) (he:ev ce σ nl ps r (.KV neg n x' y')=some (z,p)):Plain P ρ o w C w.heap z/\p=none:=by
 unfold yP at ht;simp only[aD,Bool.not_eq_true']at ht;obtain⟨⟨BR,ht2⟩,ht3⟩:=ht;split at BR
 case h_2=>simp at BR
 rename_i fs hu;simp only[aD,cL]at BR;obtain⟨hn,hi⟩:=BR;simp only[ev]at he;cases bJ : r x' <;>simp only[bJ]at he<;>try(simp at he;done)
 cases kj : r y' <;>simp only[kj]at he<;>try(simp at he;done)
 rename_i xs ys;rw[bJ]at hx;rw[kj]at hy;split at he
 case isFalse=>simp at he
 rename_i Wg;cases hb:iG xs ys with
 |none=>rw[hb]at he;simp at he
 |some b=>
  rw[hb]at he;simp at he;obtain⟨rfl,rfl⟩:=he;obtain⟨Xs,Ys,rfl,rfl,hl,rfl⟩:=NC hb;obtain⟨vs,ex,dQ,_⟩:=hx;obtain⟨us,ey,nG,_⟩:=hy;rw[HP dQ]at ex;rw[HP nG]at ey;have AA:P.fieldsOf t=fs:=by unfold Program.fieldsOf;rw[hu]
  have BC:Xs.length=n:=by simpa using Wg
  refine⟨dX (s:=do eqGuard op t x y (ρ x) (ρ y);binOp op t (ρ x) (ρ y)) (v:=.bool ((decide (Xs=Ys)) != neg)) (by simp only[execOp,ho]) ?_ (by unfold VR;rfl),rfl⟩
  rw[ex,ey];have hg:=run_eqGuard_agg w op t x y (Xs.map strVal).toArray (Ys.map strVal).toArray ht3;have hq:(Op.equalIn 10000 t (.agg (Xs.map strVal).toArray) (.agg (Ys.map strVal).toArray)).run P w = .ok (decide (Xs=Ys)) w:=by
   rw[show(10000:Nat)=9999+1 from rfl,run_equalIn_struct w 9999 t _ _ (by rw[AA];exact hu) ht2,AA]
   have:=ND (P:=P) (d:=9998) (w:=w) hl (fs:=fs.toList) (o:=0) hi (by simp[BC,hn])
   simpa using this
  unfold kU at cY;split at cY
  ·simp only[aL,hg,aR,run_eql_struct,hq]
   simp at cY;subst cY;simp
  ·simp only[aL,hg,aR,run_neq_struct,hq]
   subst cY;simp
  ·simp at cY
theorem G6{a:Act}{x:Operand}(h:jU x=true) (HQ:ρ=a.eval):ρ x = .slice none 0 0:=by
 unfold jU at h;split at h
 ·subst HQ;rfl
 ·simp at h
theorem NF{neg:Bool}{x' : Rf}{z:AV}{p:Option aX}{v:Value}(dg:∀b u B,C.lim b u->upto σ b u=some B->∃id,C.own b u=some (B,id))
  (hx:VR C w.heap (r x') v) (he:ev ce σ nl ps r (.nK neg x')=some (z,p)):p=none/\∃n:Bool,z = .bool (n != neg)/\((n=true/\v = .slice none 0 0)\/(n=false/\∃a l c,v = .slice (some a) l c)):=by
 simp only[ev]at he;cases bJ : r x' <;>simp only[bJ]at he<;>try(simp at he;done)
 ·simp at he;obtain⟨rfl,rfl⟩:=he
  rw[bJ]at hx;exact⟨rfl,true,by cases neg<;>rfl,.inl ⟨rfl,hx⟩⟩
 ·rename_i nn l
  have key:(z = .bool neg/\p=none)/\(nn=true\/l ≠ []):=by
   cases nn
   ·cases l with
    |nil=>simp at he
    |cons a b=>simp at he;exact⟨⟨he.1.symm,he.2.symm⟩,.inr (by simp)⟩
   ·simp at he;exact⟨⟨he.1.symm,he.2.symm⟩,.inl rfl⟩
  obtain⟨⟨rfl,rfl⟩,hn⟩:=key;rw[bJ]at hx;unfold VR at hx;refine⟨rfl,false,by cases neg<;>rfl,.inr ⟨rfl,?_⟩⟩
  rcases hx.2 with⟨h2,a,rfl,h1⟩|⟨ak,off,cap,st,c,el,fz,rfl,_⟩
  ·rcases hn with h|h
   ·obtain⟨q,rfl⟩:=ss.1 (h1 h);exact⟨_,_,_,rfl⟩
   ·exact absurd h2 h
  ·exact⟨_,_,_,rfl⟩
 ·rename_i b u off len
  cases hu:upto σ b u with
  |none=>simp[hu]at he
  |some B=>
   cases hs:B.st<;>simp[hu,hs]at he;obtain⟨rfl,rfl⟩:=he;rw[bJ]at hx;obtain⟨id,ho⟩:=dg b u B (yd hx) hu;unfold VR at hx;have:=hx.2.2 B id ho;simp only[hs]at this;obtain⟨c,el,o,cap,_,rfl,_⟩:=this;exact⟨rfl,false,by cases neg<;>rfl,.inr ⟨rfl,_,_,_,rfl⟩⟩
theorem Mw{a:Act}{o:Oper}{op:BinOp}{t t' : TypeId}{x y:Operand}{neg:Bool}{z' : Rf}{z:AV}{p:Option aX}(ho:o.op = .binOp op t x y t') (HQ:ρ=a.eval)
  (cY:kU op neg=true) (ht:(aF P t).isSome=true) (dg:∀b u B,C.lim b u->upto σ b u=some B->∃id,C.own b u=some (B,id))
  (hx:(jU y=true/\VR C w.heap (r z') (ρ x))\/(jU x=true/\VR C w.heap (r z') (ρ y))) (he:ev ce σ nl ps r (.nK neg z')=some (z,p)):Plain P ρ o w C w.heap z/\p=none:=by
 obtain⟨e,xp⟩:=ss.1 ht;have hu:=jS xp w;have main:∀v1 v2:Value,ρ x=v1->ρ y=v2->(∃n:Bool,z = .bool (n != neg)/\((v1 = .slice none 0 0/\((n=true/\v2 = .slice none 0 0)\/(n=false/\∃a l c,v2 = .slice (some a) l c)))\/
   (v2 = .slice none 0 0/\((n=true/\v1 = .slice none 0 0)\/(n=false/\∃a l c,v1 = .slice (some a) l c)))))->Plain P ρ o w C w.heap z:=by
  rintro v1 v2 e1 e2 ⟨n,rfl,h⟩;refine dX (s:=do eqGuard op t x y (ρ x) (ρ y);binOp op t (ρ x) (ρ y)) (v:=.bool (n != neg)) (by simp only[execOp,ho]) ?_ (by unfold VR;rfl)
  rw[e1,e2];have hg:(eqGuard op t x y v1 v2).run P w = .ok () w:=by
   unfold eqGuard;rcases h with⟨rfl,⟨_,rfl⟩|⟨_,_,_,_,rfl⟩⟩|⟨rfl,⟨_,rfl⟩|⟨_,_,_,_,rfl⟩⟩<;>split<;>simp
  have hq:(Op.equal t v1 v2).run P w = .ok n w:=by
   unfold Op.equal Op.maxDepth Op.equalIn;rcases h with⟨rfl,⟨rfl,rfl⟩|⟨rfl,_,_,_,rfl⟩⟩|⟨rfl,⟨rfl,rfl⟩|⟨rfl,_,_,_,rfl⟩⟩<;>simp[aL,hu,aR,bh]
  have hb:op = .eql/\neg=false\/op = .neq/\neg=true:=by
   unfold kU at cY;split at cY
   ·simp at cY;exact .inl ⟨rfl,cY⟩
   ·exact .inr ⟨rfl,cY⟩
   ·simp at cY
  rcases hb with⟨rfl,rfl⟩|⟨rfl,rfl⟩ <;>
   rcases h with⟨rfl,⟨rfl,rfl⟩|⟨rfl,_,_,_,rfl⟩⟩|⟨rfl,⟨rfl,rfl⟩|⟨rfl,_,_,_,rfl⟩⟩ <;>
   simp[aL,hg,aR,binOp,hq,bh]
 rcases hx with⟨hn,hx⟩|⟨hn,hx⟩
 ·obtain⟨rfl,n,hz,h⟩:=NF dg hx he
  exact⟨main _ _ rfl rfl ⟨n,hz,.inr ⟨G6 hn HQ,h⟩⟩,rfl⟩
 ·obtain⟨rfl,n,hz,h⟩:=NF dg hx he
  exact⟨main _ _ rfl rfl ⟨n,hz,.inl ⟨G6 hn HQ,h⟩⟩,rfl⟩
theorem Ye{o:Oper}{t:TypeId}{x:Operand}{y:Rf}{z:AV}{p:Option aX}(ho:o.op = .unOp .not t x)
  (hx:VR C w.heap (r y) (ρ x)) (he:ev ce σ nl ps r (.not y)=some (z,p)):Plain P ρ o w C w.heap z/\p=none:=by
 simp only[ev]at he;cases bJ : r y<;>simp only[bJ]at he<;>try(simp at he;done)
 rename_i b;rw[bJ]at hx;simp at he;obtain⟨rfl,rfl⟩:=he;refine⟨dX (s:=Op.unary .not (ρ x)) (v:=.bool !b) (by simp only[execOp,ho]) ?_ (by unfold VR;rfl),rfl⟩
 rw[hx.lY];rfl
theorem Yf{o:Oper}{t:TypeId}{x:Operand}{y:Rf}{z:AV}{p:Option aX}(ho:o.op = .unOp .neg t x)
  (hx:VR C w.heap (r y) (ρ x)) (hr:r (.c (.int 0)) = .int 0) (he:ev ce σ nl ps r (.bin .sub (.c (.int 0)) y)=some (z,p)):Plain P ρ o w C w.heap z/\p=none:=by
 simp only[ev,hr]at he;cases bJ : r y<;>simp only[bJ]at he<;>try(simp at he;done)
 rename_i n;rw[bJ]at hx;simp only[bin]at he;split at he<;>simp at he
 rename_i h;obtain⟨rfl,rfl⟩:=he;refine⟨dX (s:=Op.unary .neg (ρ x)) (v:=.int .i64 (0-n)) (by simp only[execOp,ho]) ?_ (by unfold VR;simp),rfl⟩
 rw[hx.aY];simp only[Op.unary,Op.intArith,bh,wv h]
theorem Yg{o:Oper}{c a b:Operand}{c' a' b' : Rf}{z:AV}{p:Option aX}(ho:o.op = .pick c a b)
  (hc:VR C w.heap (r c') (ρ c)) (ha:VR C w.heap (r a') (ρ a)) (hb:VR C w.heap (r b') (ρ b)) (he:ev ce σ nl ps r (.pick c' a' b')=some (z,p)):Plain P ρ o w C w.heap z/\p=none:=by
 simp only[ev]at he;cases bJ : r c' <;>simp only[bJ]at he<;>try(simp at he;done)
 rename_i q;rw[bJ]at hc;have hc:=hc.lY;cases q<;>simp at he<;>obtain⟨rfl,rfl⟩:=he
 ·exact⟨⟨ρ b,by simp only[execOp,ho,hc,asBool,aL,aR,bh];simp,hb⟩,rfl⟩
 ·exact⟨⟨ρ a,by simp only[execOp,ho,hc,asBool,aL,aR,bh];simp,ha⟩,rfl⟩
theorem HR{H:Array Obj}{x:AV}{v:Value}{n:Nat}(hv:VR C H x v) (h:x = .ah/\n=0\/(∃nn l,x = .aE nn l/\n=l.length)\/(∃b u o,x = .sl b u o n)):∃a c,v = .slice a n c:=by
 rcases h with⟨rfl,rfl⟩|⟨nn,l,rfl,rfl⟩|⟨b,u,o,rfl⟩
 ·exact⟨_,_,hv⟩
 ·unfold VR at hv
  rcases hv.2 with⟨rfl,_,h,_⟩|⟨_,_,_,_,_,_,_,h,_⟩
  ·exact⟨_,_,h⟩
  ·exact⟨_,_,h⟩
 ·unfold VR at hv
  obtain⟨⟨a,c,h,_⟩,_⟩:=hv;exact⟨a,c,h⟩
theorem Yh{o:Oper}{ca:Call}{x:Operand}{t:TypeId}{y:Rf}{z:AV}{p:Option aX}(ho:o.op = .call ca) (hc:ca.callee = .builtin .len) (ha:ca.args.toList=[x]) (eX:ca.argTypes.toList=[t])
  (ht:(aF P t).isSome=true) (hx:VR C w.heap (r y) (ρ x)) (he:ev ce σ nl ps r (.len y)=some (z,p)):Plain P ρ o w C w.heap z/\p=none:=by
 obtain⟨e,xp⟩:=ss.1 ht;have hu:=jS xp w;have key:∃n:Nat,z = .int n/\p=none/\∃a c,ρ x = .slice a n c:=by
  simp only[ev]at he;cases bJ : r y<;>simp only[bJ]at he<;>try(simp at he;done)
  ·simp at he;obtain⟨rfl,rfl⟩:=he
   exact⟨0,rfl,rfl,HR (x:=.ah) (by rw[<-bJ];exact hx) (.inl ⟨rfl,rfl⟩)⟩
  ·simp at he;obtain⟨rfl,rfl⟩:=he
   rw[bJ]at hx;unfold VR at hx;obtain⟨a0,hx⟩:=hx;exact⟨0,rfl,rfl,a0,0,hx⟩
  ·rename_i nn l
   simp at he;obtain⟨rfl,rfl⟩:=he;exact⟨l.length,rfl,rfl,HR (x:=.aE nn l) (by rw[<-bJ];exact hx) (.inr (.inl ⟨nn,l,rfl,rfl⟩))⟩
  ·rename_i b u off n
   simp at he;obtain⟨rfl,rfl⟩:=he;exact⟨n,rfl,rfl,HR (x:=.sl b u off n) (by rw[<-bJ];exact hx) (.inr (.inr ⟨b,u,off,rfl⟩))⟩
 obtain⟨n,rfl,rfl,a,c,hv⟩:=key;have ny : ca.args = #[x]:=by rw[<-Array.toList_inj];simpa using ha
 have nA : ca.argTypes = #[t]:=by rw[<-Array.toList_inj];simpa using eX
 refine⟨⟨.int .i64 n,?_,by unfold VR;rfl⟩,rfl⟩
 simp only[execOp,ho,resolve,hc,ny, nA, aL,bh,aR,invoke,builtin,Builtin.len_];simp[hv,aL,hu,goInt]
theorem FP{o:Oper}{ca:Call}{x y:Operand}{m:Bool}{x' y' : Rf}{z:AV}{p:Option aX}(ho:o.op = .call ca) (hc:ca.callee = .builtin (if m then .max else .min)) (ha:ca.args.toList=[x,y])
  (hx:VR C w.heap (r x') (ρ x)) (hy:VR C w.heap (r y') (ρ y)) (he:ev ce σ nl ps r (.mx m x' y')=some (z,p)):Plain P ρ o w C w.heap z/\p=none:=by
 simp only[ev]at he;cases bJ : r x' <;>simp only[bJ]at he<;>try(simp at he;done)
 cases kj : r y' <;>simp only[kj]at he<;>try(simp at he;done)
 rename_i a b;rw[bJ]at hx;rw[kj]at hy;have hx:=hx.aY;have hy:=hy.aY;simp at he;obtain⟨rfl,rfl⟩:=he;have ny : ca.args = #[x,y]:=by rw[<-Array.toList_inj];simpa using ha
 refine⟨⟨.int .i64 (if m then(if a<b then b else a)else(if b<a then b else a)),?_,by unfold VR;cases m<;>rfl⟩,rfl⟩
 cases m
 ·simp only[execOp,ho,resolve,hc,ny, aL,bh,aR,invoke,builtin,Builtin.min_]
  simp[hx,hy,Builtin.min2]
 ·simp only[execOp,ho,resolve,hc,ny, aL,bh,aR,invoke,builtin,Builtin.max_]
  simp[hx,hy,Builtin.max2]
theorem BS{H:Array Obj}{x:AV}{v:Value}(h:VR C H (.bd x) v) :
  aN x=true/\∃ak off c el fz y,v = .pointer (some ⟨ak,off,none⟩)/\C.I ak/\H[ak]? = some (.cells c el fz)/\VR C H x y/\∀j,j<y.cells.size->c[off+j]? = y.cells[j]?:=by
 unfold VR at h;exact h
theorem aaa{cs:List AV}{off:Nat}{k:Option Nat}{x:AV}(h:ax cs=true) (hp:part cs off k=some x):aN x=true:=by
 have il:∀y∈cs,aN y=true:=by
  clear hp
  induction cs with
  |nil=>simp
  |cons a r ih=>
   simp only[ax,aD]at h;intro y hy;rcases cB.1 hy with rfl|hy
   ·exact h.1
   ·exact ih h.2 y hy
 cases k with
 |none=>simp only[part,nN]at hp;exact il x (qU hp)
 |some n=>
  simp only[part]at hp;split at hp<;>simp at hp
  subst hp;simp only[aN];exact Bh λy hy=>il y (List.mem_of_mem_drop (List.mem_of_mem_take hy))
theorem aab{x:AV}(h:aN x=true):ax x.cells=true:=by
 cases x<;>simp_all [AV.cells,aN,ax]
theorem NG{H:Array Obj}{x y:AV}{ak off:Nat}{c:Array Value}{el:TypeId}{fz:Nat×Nat}{val:Value}{d:Nat}{k:Option Nat}(hn:aN x=true) (hI:C.I ak) (hH:H[ak]? = some (.cells c el fz))
  (hv:VR C H x val) (hj:∀j,j<val.cells.size->c[off+j]? = val.cells[j]?) (hp:part x.cells d k=some y) :
  VR C H (.bd y) (.pointer (some ⟨ak,off+d,none⟩)):=by
 obtain⟨v,h1,h2,h3,_⟩:=HO (yQ hn) hv hp;have hs:=VR.size (yQ hn) hv;have hle:d+aC k<=val.cells.size:=by
  rw[hs];cases k with
  |none=>
   simp only[part,nN]at hp;have:=(cT.1 hp).1;simp[aC];omega
  |some n=>
   simp only[part]at hp;split at hp<;>simp at hp
   simp[aC];omega
 unfold VR;refine⟨aaa (aab hn) hp,ak,off+d,c,el,fz,v,rfl,hI,hH,h1,λj tP =>?_⟩;rw[<-h3 j (by omega),<-hj (d+j) (by omega),Nat.add_assoc]
theorem Yi{o:Oper}{s:TypeId}{x:Operand}{f:Nat}{fs:Array Field}{fl:Field}{y:Rf}{off:Nat}{k:Option Nat}{z:AV}{p:Option aX}(ho:o.op = .fieldAddr s x f)
  (hs:P.underlying s=some (.struct fs)) (hf:fs[f]? = some fl) (mB:fl.offset=off) (hk:bt P fl.type k=true) (h0:bW P fl.type 0=false)
  (hx:VR C w.heap (r y) (ρ x)) (he:ev ce σ nl ps r (.b5 y off k)=some (z,p)):Plain P ρ o w C w.heap z/\p=none:=by
 have jY:aC k ≠ 0:=by
  intro h;have:=kD hk;rw[h]at this;rw[this]at h0;simp at h0
 have cD:∀ak b,ρ x = .pointer (some ⟨ak,b,none⟩)->(Instr.fieldAt s (ρ x) f).run P w = .ok (.pointer (some ⟨ak,b+off,none⟩)) w:=λak b e=>by
  rw[e];simp only[Instr.fieldAt,aL,run_underlying hs,aR,hf,Instr.sureAddr,bh,fieldPlace,iP (kD hk),aa jY,mB,p6]
 simp only[ev]at he;cases bJ : r y<;>simp only[bJ]at he<;>try(simp at he;done)
 ·rename_i q
  rw[bJ]at hx;cases hp:part q.cells off k with
  |none=>simp[hp]at he
  |some q' =>
   simp[hp]at he;obtain⟨rfl,rfl⟩:=he;obtain⟨hn,ak,b,c,el,fz,val,e,hI,hH,hv,hj⟩:=BS hx;exact⟨dX (s:=Instr.fieldAt s (ρ x) f) (by simp only[execOp,ho]) (cD ak b e) (NG hn hI hH hv hj hp),rfl⟩
 ·rename_i b u o'
  simp at he;obtain⟨rfl,rfl⟩:=he;rw[bJ]at hx;unfold VR at hx;obtain⟨⟨ak,e⟩,h1,h3⟩:=hx;refine⟨dX (s:=Instr.fieldAt s (ρ x) f) (by simp only[execOp,ho]) (cD ak o' e) ?_,rfl⟩
  unfold VR;refine⟨⟨ak,rfl⟩,h1,λB id hB hl=>?_⟩;have:=h3 B id hB hl;rw[e]at this;simp at this;rw[this]
theorem Yj{o:Oper}{s:TypeId}{x:Operand}{f:Nat}{fs:Array Field}{fl:Field}{y:Rf}{off:Nat}{k:Option Nat}{z:AV}{p:Option aX}(ho:o.op = .field s x f)
  (hs:P.underlying s=some (.struct fs)) (hf:fs[f]? = some fl) (mB:fl.offset=off) (hk:bt P fl.type k=true)
  (hx:VR C w.heap (r y) (ρ x)) (he:ev ce σ nl ps r (.Zd y off k)=some (z,p)):Plain P ρ o w C w.heap z/\p=none:=by
 simp only[ev]at he;cases hl:r y<;>simp only[hl]at he<;>try(simp at he;done)
 rename_i l;cases hp:part l off k with
 |none=>simp[hp]at he
 |some q' =>
  simp[hp]at he;obtain⟨rfl,rfl⟩:=he;have V7 :=hp;rw[show l=(r y).cells from by rw[hl]]at hp
  have hu:gO (r y):=by rw[hl];exact⟨by simp,by simp⟩
  obtain⟨v,h1,h2,h3,h4,h5⟩:=HO hu hx hp;rw[hl]at hx;unfold VR at hx;obtain⟨vs,e,pI,_⟩:=hx;refine⟨dX (s:=Instr.field s (ρ x) f) (by simp only[execOp,ho]) (v:=v) ?_ h1,rfl⟩
  rw[e]at h3 ⊢;simp only[Instr.field,aL,run_underlying hs,aR,hf,asAgg,bh,mB,Go.part,re hk];cases k with
  |none=>
   simp only[rf,eE,eG];have:=h3 0 (by simp[aC])
   rw[h4 rfl]at this;simp[Value.cells]at this;simp[this]
  |some n=>
   obtain⟨us,rfl⟩:=h5 (by simp)
   simp only[Option.isSome_some,dC,aL,iP (kD hk),aR,bh,aC]
   congr 2
   simp only[Value.cells,aC]at h2 h3;apply Array.ext
   ·simp
    have:off+n<=vs.length:=by
     rcases Nat.eq_zero_or_pos n with h0|h0
     ·subst h0
      simp only[part]at hp;split at hp<;>simp at hp
      rename_i hle;have hlen:=cd.length pI;rw[hl]at hle;simp[AV.cells]at hle;omega
     ·have:=h3 (n-1) (by omega)
      rw[jg (by omega:n-1<us.size)]at this
      have:=(jd.1 this).1;simp at this;omega
    omega
   ·intro i Bg r5
    have:=h3 i (by omega)
    rw[jg r5]at this;simp at this;simp;rw[cT]at this;obtain⟨h,e'⟩:=this;exact e'
theorem aac{l:List AV}{v:Value}{q' : AV}{off:Nat}{t:TypeId}{k:Option Nat}(hk:bt P t k=true) (hx:VR C w.heap (.agg l) v) (hp:part l off k=some q') :
  ∃cs v', v = .agg cs/\(Go.part t cs off).run P w = .ok v' w/\VR C w.heap q' v' :=by
 have V7 :=hp;have hu:gO (AV.agg l):=⟨by simp,by simp⟩
 obtain⟨v', h1,h2,h3,h4,h5⟩:=HO (x:=.agg l) hu hx hp;unfold VR at hx;obtain⟨vs,e,pI,_⟩:=hx;refine⟨_,v', e,?_,h1⟩;rw[e]at h3;simp only[Go.part,aL,re hk,aR];cases k with
 |none=>
  simp only[rf,eE,eG];have:=h3 0 (by simp[aC])
  rw[h4 rfl]at this;simp[Value.cells]at this;simp[this]
 |some n=>
  obtain⟨us,rfl⟩:=h5 (by simp)
  simp only[Option.isSome_some,dC,aL,iP (kD hk),aR,bh,aC]
  congr 2
  simp only[Value.cells,aC]at h2 h3;apply Array.ext
  ·simp
   have:off+n<=vs.length:=by
    rcases Nat.eq_zero_or_pos n with h0|h0
    ·subst h0
     simp only[part]at hp;split at hp<;>simp at hp
     rename_i hle;have hlen:=cd.length pI;omega
    ·have:=h3 (n-1) (by omega)
     rw[jg (by omega:n-1<us.size)]at this
     have:=(jd.1 this).1;simp at this;omega
   omega
  ·intro i Bg r5
   have:=h3 i (by omega)
   rw[jg r5]at this;simp at this;simp;rw[cT]at this;obtain⟨h,e'⟩:=this;exact e'
theorem Yo{o:Oper}{t:TypeId}{x i:Operand}{m:Nat}{e:TypeId}{x' i' : Rf}{k:Option Nat}{z:AV}{p:Option aX}(ho:o.op = .index t x i)
  (ht:P.underlying t=some (.array m e)) (hk:bt P e k=true)
  (hx:VR C w.heap (r x') (ρ x)) (hi:VR C w.heap (r i') (ρ i)) (he:ev ce σ nl ps r (.idx x' i' m k)=some (z,p)):Plain P ρ o w C w.heap z/\p=none:=by
 simp only[ev]at he;cases bJ : r x' <;>simp only[bJ]at he<;>try(simp at he;done)
 cases dw : r i' <;>simp only[dw]at he<;>try(simp at he;done)
 rename_i l j;split at he
 case isFalse=>simp at he
 rename_i hj;cases hp:part l (j.toNat*aC k) k with
 |none=>simp[hp]at he
 |some q' =>
  simp[hp]at he;obtain⟨rfl,rfl⟩:=he;rw[bJ]at hx;rw[dw]at hi;have hi:=hi.aY;obtain⟨cs,v', e1,h1,h2⟩:=aac hk hx hp;refine⟨dX (s:=Instr.index t (ρ x) (ρ i)) (v:=v') (by simp only[execOp,ho]) ?_ h2,rfl⟩
  rw[e1,hi];simp only[Instr.index,asIntOf,aL,bh,aR,run_underlying ht,ab hj,iP (kD hk)];exact h1
theorem aad{H:Array Obj}{l:List AV}{nn:Bool}{v:Value}(h:VR C H (.aE nn l) v){i:Nat}{x:AV}(hi:l[i]? = some x) :
  aN x=true/\∃ak off cap st c el fz val,v = .slice (some ⟨ak,off,none⟩) l.length cap/\C.I ak/\H[ak]? = some (.cells c el fz)/\VR C H x val/\val.cells.size=st/\∀j,j<st->c[off+i*st+j]? = val.cells[j]?:=by
 unfold VR at h;obtain⟨hn,h⟩:=h;have hnx:aN x=true:=by
  have:∀{l:List AV},ax l=true->∀y∈l,aN y=true:=by
   intro l
   induction l with
   |nil=>simp
   |cons a r ih=>
    intro h y hy;simp only[ax,aD]at h;rcases cB.1 hy with rfl|hy
    ·exact h.1
    ·exact ih h.2 y hy
  exact this hn x (qU hi)
 rcases h with⟨rfl,_⟩|⟨ak,off,cap,st,c,el,fz,e,_,hI,hH,hl⟩
 ·simp at hi
 ·obtain⟨val,h1,h2,h3⟩:=hl.get i x hi
  exact⟨hnx,ak,off,cap,st,c,el,fz,val,e,hI,hH,h1,h2,h3⟩
theorem Yk{o:Oper}{t e:TypeId}{x i:Operand}{x' i' : Rf}{st:Nat}{z:AV}{p:Option aX}(ho:o.op = .indexAddr t x i)
  (ht:aF P t=some e) (bR:bW P e st=true)
  (hx:VR C w.heap (r x') (ρ x)) (hi:VR C w.heap (r i') (ρ i)) (he:ev ce σ nl ps r (.bU x' i' st)=some (z,p)):Plain P ρ o w C w.heap z/\p=none:=by
 have cD:∀ak off len cap (n:Int),ρ x = .slice (some ⟨ak,off,none⟩) len cap->ρ i = .int .i64 n->0<=n->n<len->(Instr.indexAt t (ρ x) (ρ i)).run P w = .ok (.pointer (some ⟨ak,off+n.toNat*st,none⟩)) w:=λak off len cap n e1 e2 h1 h2=>by
  rw[e1,e2];simp only[Instr.indexAt,aL,asIntOf,bh,aR,jS ht];simp only[h1,h2,and_self,dC,aL,iP bR,aR,bh,p6]
 simp only[ev]at he;cases bJ : r x' <;>simp only[bJ]at he<;>try(simp at he;done)
 ·rename_i nn l
  cases dw : r i' <;>simp only[dw]at he<;>try(simp at he;done)
  rename_i n;rw[dw]at hi;have hi:=hi.aY;split at he<;>try(simp at he;done)
  rename_i hn;rw[nN]at he;cases hy:l[n.toNat]? with
  |none=>simp[hy]at he
  |some y=>
   simp[hy]at he;obtain⟨mh,rfl,rfl⟩:=he;rw[bJ]at hx;obtain⟨sh,ak,off,cap,nY, c,el,fz,val,e1,hI,hH,hv,hs,hj⟩:=aad hx hy;have aK:=(cT.1 hy).1;have yR : nY = st:=by rw[<-hs,VR.size (yQ sh) hv,mh]
   subst yR;refine⟨dX (s:=Instr.indexAt t (ρ x) (ρ i)) (by simp only[execOp,ho]) (cD ak off l.length cap n e1 hi hn (by omega)) ?_,rfl⟩
   unfold VR;exact⟨sh,ak,off+n.toNat*nY, c,el,fz,val,rfl,hI,hH,hv,λj tP =>hj j (by omega)⟩
 ·rename_i b u off len
  cases dw : r i' <;>simp only[dw]at he<;>try(simp at he;done)
  rename_i n;rw[dw]at hi;have hi:=hi.aY;split at he<;>simp at he
  rename_i hn;obtain⟨rfl,rfl⟩:=he;rw[bJ]at hx;unfold VR at hx;obtain⟨⟨a,cap,e1,hc,ha⟩,h1,h3⟩:=hx;obtain⟨ak,rfl⟩:=ha (by omega)
  refine⟨dX (s:=Instr.indexAt t (ρ x) (ρ i)) (by simp only[execOp,ho]) (cD ak off len cap n e1 hi hn.1 hn.2) ?_,rfl⟩
  unfold VR;refine⟨⟨ak,rfl⟩,h1,λB id hB hl=>?_⟩;have:=h3 B id hB;simp only[hl]at this;obtain⟨c,el,o', aae, _,e2,_⟩:=this;rw[e1]at e2;simp at e2;rw[e2.1.1]
theorem Ym{o:Oper}{x:Operand}{y:Rf}{z:AV}{p:Option aX}(ho:o.op = .nilCheck x) (hx:VR C w.heap (r y) (ρ x)) (he:ev ce σ nl ps r (.oO y)=some (z,p)):Plain P ρ o w C w.heap z/\p=none:=by
 have key:z=r y/\p=none/\∃a,ρ x = .pointer (some a):=by
  simp only[ev]at he;cases bJ : r y<;>simp only[bJ]at he<;>try(simp at he;done)
  ·simp at he
   rw[bJ]at hx;obtain⟨_,ak,b,c,el,fz,val,e,_⟩:=BS hx;exact⟨he.1.symm,he.2.symm,_,e⟩
  ·simp at he
   rw[bJ]at hx;unfold VR at hx;obtain⟨⟨ak,e⟩,_⟩:=hx;exact⟨he.1.symm,he.2.symm,_,e⟩
 obtain⟨rfl,rfl,a,e⟩:=key;exact⟨⟨ρ x,by simp only[execOp,ho,e,bh],hx⟩,rfl⟩
theorem Yp{o:Oper}{x:Operand}{i:Nat}{y:Rf}{z:AV}{p:Option aX}(ho:o.op = .extract x i) (hx:VR C w.heap (r y) (ρ x)) (he:ev ce σ nl ps r (.ext y i)=some (z,p)):Plain P ρ o w C w.heap z/\p=none:=by
 simp only[ev]at he;cases bJ : r y<;>simp only[bJ]at he<;>try(simp at he;done)
 rename_i l;rw[nN]at he;cases hy:l[i]? with
 |none=>simp[hy]at he
 |some q=>
  simp[hy]at he;obtain⟨rfl,rfl⟩:=he;rw[bJ]at hx;unfold VR at hx;obtain⟨vs,e,hl⟩:=hx;obtain⟨v,h1,h2⟩:=hl.get i q hy;refine⟨dX (s:=Instr.extract (ρ x) i) (v:=v) (by simp only[execOp,ho]) ?_ h2,rfl⟩
  rw[e];simp[Instr.extract,h1]
theorem Yq{o:Oper}{f:Nat}{fst aI:Array Operand}{ys:List Rf}{z:AV}{p:Option aX}(ho:o.op = .makeFunc (.func f) fst aI) (h0:fst.isEmpty=true)
  (hx:cd C w.heap (ys.map r) (aI.toList.map ρ)) (he:ev ce σ nl ps r (.BH f ys)=some (z,p)):Plain P ρ o w C w.heap z/\p=none:=by
 simp[ev]at he;obtain⟨rfl,rfl⟩:=he;have:fst = #[]:=by simpa using h0
 refine⟨dX (s:=Instr.makeFunc (.func f) (fst.map ρ) (aI.map ρ)) (v:=.func (.func f) #[] (aI.toList.map ρ).toArray) (by simp only[execOp,ho]) ?_ (by unfold VR;exact⟨_,rfl,hx⟩),rfl⟩
 subst this;have:Array.map ρ aI=(List.map ρ aI.toList).toArray:=by rw[<-Array.toList_inj];simp
 simp[Instr.makeFunc,this]
theorem Yr{o:Oper}{t:Nat}{x:Operand}{y:Rf}{z:AV}{p:Option aX}(ho:o.op = .makeInterface t x)
  (ht:(match P.underlying t with|some (.interface _)=>false|some _=>true|none=>false)=true) (hx:VR C w.heap (r y) (ρ x)) (he:ev ce σ nl ps r (.KU t y)=some (z,p)):Plain P ρ o w C w.heap z/\p=none:=by
 simp[ev]at he;obtain⟨rfl,rfl⟩:=he;refine⟨dX (s:=Instr.makeInterface t (ρ x)) (v:=.iface t (ρ x)) (by simp only[execOp,ho]) ?_ (by unfold VR;exact⟨_,rfl,hx⟩),rfl⟩
 cases hu:P.underlying t with
 |none=>simp[hu]at ht
 |some d=>
  simp only[Instr.makeInterface,aL,run_underlying hu,aR];cases d<;>simp_all
theorem Yu{o:Oper}{s d:TypeId}{x:Operand}{y:Rf}{z:AV}{p:Option aX}(ho:o.op = .convert s d x)
  (ht:(match P.underlying s,P.underlying d with|some (.int _),some (.int .i64)=>true|_,_=>false)=true) (hx:VR C w.heap (r y) (ρ x)) (he:ev ce σ nl ps r (.FT y)=some (z,p)):Plain P ρ o w C w.heap z/\p=none:=by
 have hu:∃k,P.underlying s=some (.int k)/\P.underlying d=some (.int .i64):=by
  split at ht
  ·rename_i k h1 h2;exact⟨k,h1,h2⟩
  ·simp at ht
 obtain⟨k,xx,Hm⟩:=hu;have main:∀K n,ρ x = .int K n->kZ n=true->z = .int n->p=none->Plain P ρ o w C w.heap z/\p=none:=by
  intro K n e h hz hp;subst hz hp;refine⟨dX (s:=Go.convert s d (ρ x)) (v:=.int .i64 n) (by simp only[execOp,ho]) ?_ (by unfold VR;rfl),rfl⟩
  rw[e];simp only[Go.convert,aL,run_underlying xx,run_underlying Hm,aR,Conv.intToInt,bh,wv h]
 simp only[ev]at he;cases bJ : r y<;>simp only[bJ]at he<;>try(simp at he;done)
 ·rename_i n
  rw[bJ]at hx;split at he<;>simp at he
  rename_i h;exact main _ n hx.aY h he.1.symm he.2.symm
 ·rename_i k' n
  rw[bJ]at hx;split at he<;>simp at he
  rename_i h;unfold VR at hx;obtain⟨K,_,e⟩:=hx;exact main K n e h he.1.symm he.2.symm
theorem Yl{o:Oper}{t e:TypeId}{x i:Operand}{x' i' : Rf}{n:Nat}{k:Option Nat}{z:AV}{p:Option aX}(ho:o.op = .indexAddr t x i)
  (ht:P.underlying t=some (.array n e)) (hk:bt P e k=true)
  (hx:VR C w.heap (r x') (ρ x)) (hi:VR C w.heap (r i') (ρ i)) (he:ev ce σ nl ps r (.fS x' i' n k)=some (z,p)):Plain P ρ o w C w.heap z/\p=none:=by
 have cD:∀ak off (j:Int),ρ x = .pointer (some ⟨ak,off,none⟩)->ρ i = .int .i64 j->0<=j->j<n->(Instr.indexAt t (ρ x) (ρ i)).run P w = .ok (.pointer (some ⟨ak,off+j.toNat*aC k,none⟩)) w:=λak off j e1 e2 h1 h2=>by
  rw[e1,e2];simp only[Instr.indexAt,aL,asIntOf,bh,aR,run_underlying ht,Instr.sureAddr];simp only[h1,h2,and_self,dC,aL,iP (kD hk),aR,bh,p6]
 simp only[ev]at he;cases bJ : r x' <;>simp only[bJ]at he<;>try(simp at he;done)
 ·rename_i q
  cases dw : r i' <;>simp only[dw]at he<;>try(simp at he;done)
  rename_i j;rw[dw]at hi;have hi:=hi.aY;split at he<;>try(simp at he;done)
  rename_i hj;cases hp:part q.cells (j.toNat*aC k) k with
  |none=>simp[hp]at he
  |some q' =>
   simp[hp]at he;obtain⟨rfl,rfl⟩:=he;rw[bJ]at hx;obtain⟨sh,ak,b,c,el,fz,val,e1,hI,hH,hv,hc⟩:=BS hx;exact⟨dX (s:=Instr.indexAt t (ρ x) (ρ i)) (by simp only[execOp,ho]) (cD ak b j e1 hi hj.1 hj.2) (NG sh hI hH hv hc hp),rfl⟩
 ·rename_i b u o'
  cases dw : r i' <;>simp only[dw]at he<;>try(simp at he;done)
  rename_i j;rw[dw]at hi;have hi:=hi.aY;split at he<;>simp at he
  rename_i hj;obtain⟨rfl,rfl⟩:=he;rw[bJ]at hx;unfold VR at hx;obtain⟨⟨ak,e1⟩,h1,h3⟩:=hx;refine⟨dX (s:=Instr.indexAt t (ρ x) (ρ i)) (by simp only[execOp,ho]) (cD ak o' j e1 hi hj.1 hj.2) ?_,rfl⟩
  unfold VR;refine⟨⟨ak,rfl⟩,h1,λB id hB hl=>?_⟩;have:=h3 B id hB hl;rw[e1]at this;simp at this;rw[this]
theorem Mu{o:Oper}{t:TypeId}{x:Operand}{y:Rf}{k:Option Nat}{z:AV}{p:Option aX}(ho:o.op = .load t x) (hk:bt P t k=true)
  (hx:VR C w.heap (r y) (ρ x)) (he:ev ce σ nl ps r (.cg y k)=some (z,p)):Plain P ρ o w C w.heap z/\p=none:=by
 simp only[ev]at he;cases bJ : r y<;>simp only[bJ]at he<;>try(simp at he;done)
 rename_i q;rw[bJ]at hx;obtain⟨hn,ak,b,c,el,fz,val,e,hI,hH,hv,hj⟩:=BS hx;have hu:=yQ hn;have hs:=VR.size hu hv;have key:z=q/\p=none/\q.cells.length=aC k/\(k=none->val.cells = #[val])/\(k ≠ none->∃vs,val = .agg vs):=by
  cases k with
  |none=>
   have hq:∀l,q ≠ .agg l:=by intro l e;subst e;simp at he
   refine⟨?_,?_,?_,λ_=>yN (VR.leaf hq hu hv),λh=>absurd rfl h⟩
   ·cases q<;>first|exact absurd rfl (hq _)|(simp at he;exact he.1.symm)
   ·cases q<;>first|exact absurd rfl (hq _)|(simp at he;exact he.2.symm)
   ·cases q<;>first|exact absurd rfl (hq _)|rfl
  |some n=>
   cases q<;>simp at he;obtain⟨h1,rfl,rfl⟩:=he;refine⟨rfl,rfl,h1,λh=>by simp at h,λ_=>?_⟩
   unfold VR at hv;obtain⟨vs,e,_⟩:=hv;exact⟨_,e⟩
 obtain⟨rfl,rfl,hl,V5,FW⟩:=key;refine⟨dX (s:=Instr.loadAt t (ρ x)) (v:=val) (by simp only[execOp,ho]) ?_ hv,rfl⟩
 rw[e];simp only[Instr.loadAt,Instr.sureAddr,aL,bh,aR];exact NA hk hH (by omega) (λj tP =>hj j (by omega)) V5 FW
theorem yo{o:Oper}{t:TypeId}{x:Operand}{y:Rf}{k:Option Nat}{z:AV}{p:Option aX}(ho:o.op = .load t x) (hk:bt P t k=true) (hg:Good C w) (dg:∀b u B,C.lim b u->upto σ b u=some B->∃id,C.own b u=some (B,id))
  (hx:VR C w.heap (r y) (ρ x)) (he:ev ce σ nl ps r (.ld y k)=some (z,p)):Plain P ρ o w C w.heap z/\p=none:=by
 by_cases hp:∃q,r y = .bd q
 ·obtain⟨q,hq⟩:=hp
  refine Mu ho hk hx (ce:=ce) (σ:=σ) (nl:=nl) (ps:=ps) ?_;rw[<-he];simp only[ev,hq]
 ·simp only[ev]at he
  cases bJ : r y<;>simp only[bJ]at he<;>try(simp at he;done)
  ·exact absurd ⟨_,bJ⟩ hp
  ·rename_i b u o'
   cases hu:upto σ b u with
   |none=>simp[hu]at he
   |some B=>
    simp only[hu]at he;split at he<;>try(simp at he;done)
    rename_i dP;cases xC:part B.cells o' k with
    |none=>simp[xC]at he
    |some q=>
     simp[xC]at he;obtain⟨rfl,rfl⟩:=he;rw[bJ]at hx;obtain⟨id,aW⟩:=dg b u B (Z4 hx) hu;unfold VR at hx;obtain⟨⟨ak,e⟩,_,h3⟩:=hx;have hs:B.st = .live:=by revert dP;cases B.st<;>simp[eo.isLive]
     have e2:=h3 B id aW hs;obtain⟨_,c,el,hH,hle,hc⟩:=hg.live b u B id aW hs;obtain⟨v,g1,g2,g3,g4,g5⟩:=BQ hc xC;refine⟨dX (s:=Instr.loadAt t (ρ x)) (v:=v) (by simp only[execOp,ho]) ?_ g1,rfl⟩
     rw[e2];simp only[Instr.loadAt,Instr.sureAddr,aL,bh,aR];exact NA hk hH g2 g3 g4 g5
theorem q8 (cs new:List AV) (off:Nat) (h:off+new.length<=cs.length):(putAt cs off new).length=cs.length/\
  ∀j,(putAt cs off new)[j]? = if off<=j/\j<off+new.length then new[j-off]? else cs[j]?:=by
 unfold putAt;refine⟨by simp;omega,λj=>?_⟩
 by_cases h1:j<off
 ·rw[aa (by omega),iS,ft (by simp;omega),sj h1]
 ·by_cases h2:j<off+new.length
  ·rw[ab ⟨by omega,h2⟩,ft (by simp;omega),gm (by simp;omega)]
   simp[qX (by omega:off<=cs.length)]
  ·rw[aa (by omega),gm (by simp;omega)]
   simp[qX (by omega:off<=cs.length)]
   congr 1;omega
theorem cd.of{H:Array Obj}:∀{l:List AV}{vs:List Value},l.length=vs.length->(∀(i:Nat) x v,l[i]? = some x->vs[i]? = some v->VR C H x v)->cd C H l vs
 | [],[],_,_=>rfl
 | [],_::_,h,_=>by simp at h
 |_::_,[],h,_=>by simp at h
 |x::l,v::vs,h,hv=>⟨v,vs,rfl,hv 0 x v rfl rfl,cd.of (by simpa using h) λi y u h1 h2=>hv (i+1) y u (by simpa using h1) (by simpa using h2)⟩
theorem GY (off:Nat):∀(l:List Value) (k:Nat) (cs:Array Value) (i:Nat),off+k+l.length<=cs.size->
  ((l.zipIdx k).foldl (λcs (c,j)=>cs.setIfInBounds (off+j) c) cs).size=cs.size/\
  ((l.zipIdx k).foldl (λcs (c,j)=>cs.setIfInBounds (off+j) c) cs)[i]? = if off+k<=i/\i<off+k+l.length then l[i-(off+k)]? else cs[i]?
 | [],k,cs,i,_=>by simp;omega
 |c::l,k,cs,i,h=>by
  simp only[List.zipIdx_cons,oA];simp only[cw]at h;obtain⟨h1,h2⟩:=GY off l (k+1) (cs.setIfInBounds (off+k) c) i (by simp;omega)
  refine⟨by rw[h1];simp,?_⟩
  rw[h2];simp only[cw]
  by_cases e:i=off+k
  ·subst e
   rw[aa (by omega),ab (by omega)]
   simp[Array.getElem?_setIfInBounds];omega
  ·by_cases fc:off+(k+1)<=i/\i<off+(k+1)+l.length
   ·rw[ab fc,ab (by omega)]
    have:i-(off+k)=(i-(off+(k+1)))+1:=by omega
    rw[this];simp
   ·rw[aa fc,aa (by omega)]
    rw[Array.getElem?_setIfInBounds];rw[aa (by omega)]
end
end Ab
namespace Ab
open Go
variable{P:Program}
section
variable{ρ:Operand->Value}{r:Rf->AV}{w:World}{C:Ctx}{R:Operand->Rf->Bool}{ce:CE}{σ:List ag}{nl:Nat}{ps:List aX}
theorem Bk{x:AV}(h:bz x=true):gO x:=by
 refine⟨?_,λl=>?_⟩<;>(intro e;subst e;simp[bz]at h)
def gW (C:Ctx) (H:Array Obj) (cs:List AV) (c:Array Value):Prop:=
 cs.length=c.size/\∀(i:Nat) x v,cs[i]? = some x->c[i]? = some v->VR C H x v/\v.oneCell' = true
theorem gW.put{H:Array Obj}{cs:List AV}{c:Array Value}{x:AV}{v:Value}{off:Nat}(h:gW C H cs c) (hu:gO x) (hv:VR C H x v) (hb:off+x.cells.length<=cs.length) :
  gW C H (putAt cs off x.cells) ((v.cells.zipIdx.foldl (λcs (c,j)=>cs.setIfInBounds (off+j) c) c)):=by
 obtain⟨h1,h2⟩:=q8 cs x.cells off hb;obtain⟨g1,g2⟩:=VR.cells hu hv;have hs:=VR.size hu hv;have hf:∀i,(v.cells.zipIdx.foldl (λcs (c,j)=>cs.setIfInBounds (off+j) c) c).size=c.size/\(v.cells.zipIdx.foldl (λcs (c,j)=>cs.setIfInBounds (off+j) c) c)[i]? = if off<=i/\i<off+v.cells.size then v.cells[i-off]? else c[i]?:=λi=>by
  have:=GY off v.cells.toList 0 c i (by rw[<-h.1];simp;omega)
  rw[<-Array.foldl_toList];simp only[Array.toList_zipIdx];simpa using this
 refine⟨by rw[h1,(hf 0).1];exact h.1,λi y u hi r9 =>?_⟩
 rw[h2]at hi;rw[(hf i).2]at r9
 by_cases fc:off<=i/\i<off+x.cells.length
 ·rw[ab fc]at hi
  rw[ab (by omega)]at r9
  obtain⟨u', k1,k2⟩:=g1.get (i-off) y hi;rw[iR]at k1;rw[k1]at r9;simp at r9; subst r9;exact⟨k2,g2 _ (by rw[ub];exact Array.mem_of_getElem? k1)⟩
 ·rw[aa fc]at hi
  rw[aa (by omega)]at r9
  exact h.2 i y u hi r9
theorem HS{H:Array Obj}{place:Nat->Option (Nat×Nat)}(hR:∀x y,R x y=true->VR C H (r y) (ρ x)):∀(xs:List (Nat×Operand)) (ys:List (Nat×Nat×Rf)) (cs nO : List AV) (c:Array Value),
  gH R place xs ys=true->gW C H cs c->gS cs (ys.map λp=>(p.1,p.2.1,r p.2.2))=some nO ->
  ∃c', Instr.fill place c (xs.map λ(i,x)=>(i,ρ x))=some c' /\gW C H nO c'
 | [],[],cs,nO, c,_,hc,h=>by simp[gS]at h;subst h;exact⟨c,rfl,hc⟩
 |(i,x)::xs,(o,n,y)::ys,cs,nO, c,hp,hc,h=>by
  simp only[gH,aD]at hp;obtain⟨⟨jA,nP⟩,mJ⟩:=hp;have gV:place i=some (o,n):=by
   split at jA
   ·rename_i a b e;simp at jA;rw[e,jA.1,jA.2]
   ·simp at jA
  simp only[db,gS]at h;split at h<;>try(simp at h;done)
  rename_i fk;simp only[aD,cL,eP]at fk;obtain⟨⟨e1,e2⟩,e3⟩:=fk;have hu:=Bk e3;have hv:=hR _ _ nP;have hs:=VR.size hu hv;simp only[db,Instr.fill,gV];rw[aa (by rw[hs,e1,<-hc.1];simp;omega)]
  exact HS hR xs ys _ nO _ mJ (hc.put hu hv (by omega)) h
 | [],_::_,_,_,_,hp,_,_=>by simp[gH]at hp
 |(_,_)::_,[],_,_,_,hp,_,_=>by simp[gH]at hp
theorem Bn{t:TypeId}{z:List AV}(h:iE P t z=true) (w:World):∃v,(zeroValue t).run P w = .ok v w/\cd C w.heap z v.cells.toList/\(∀y,y∈v.cells.toList->y.oneCell' = true):=by
 unfold iE at h;cases hi:P.info? t with
 |none=>simp[hi]at h
 |some i=>
  simp only[hi]at h;cases hz:i.zero with
  |none=>simp[hz]at h
  |some v=>
   simp only[hz]at h;refine⟨v,?_,NB h,?_⟩
   ·simp only[zeroValue,aL,run_typeInfo w hi,aR,hz,bh]
   ·have:∀{vs:List Value} {xs:List AV},eJ vs xs=true->∀y∈vs,y.oneCell' = true:=by
     intro vs
     induction vs with
     |nil=>simp
     |cons v vs ih=>
      intro xs h y hy;cases xs with
      |nil=>simp[eJ]at h
      |cons x xs=>
       simp only[eJ,aD]at h;rcases cB.1 hy with rfl|hy
       ·have:=h.1
        unfold kv at this;split at this<;>first|rfl|(simp at this;done)
       ·exact ih h.2 y hy
    exact this h
theorem NH{w:World}:∀{fs:List Field}{l:List (Nat×Nat)},placesOf P fs=some l->(fs.mapM λf=>do pure (f.offset,<-Go.sizeOf f.type):Sem (List (Nat×Nat))).run P w = .ok l w
 | [],l,h=>by simp[placesOf]at h;subst h;simp
 |f::r,l,h=>by
  simp only[placesOf]at h;cases hi:P.info? f.type with
  |none=>simp[hi]at h
  |some i=>
   cases hl:placesOf P r with
   |none=>simp[hi,hl]at h
   |some l' =>
    simp[hi,hl]at h;subst h;have hs:(Go.sizeOf f.type).run P w = .ok i.size w:=iP (by simp[bW,hi]) w
    simp only[List.mapM_cons,aL,hs,aR,bh,NH hl]
theorem Yn{o:Oper}{t:TypeId}{xs:Array (Nat×Operand)}{z0:List AV}{qs:List (Nat×Nat×Rf)}{z:AV}{p:Option aX}(ho:o.op = .build t xs) (hz:iE P t z0=true)
  (ht:(match P.underlying t with
  |some (.struct fs)=>(match placesOf P fs.toList with|some l=>gH R (λi=>l[i]?) xs.toList qs|none=>false)
  |some (.array _ e)=>(match P.info? e with|some i=>gH R (λj=>some (j*i.size,i.size)) xs.toList qs|none=>false)
  |_=>false)=true)
  (hR:∀x y,R x y=true->VR C w.heap (r y) (ρ x)) (he:ev ce σ nl ps r (.jI z0 qs)=some (z,p)):Plain P ρ o w C w.heap z/\p=none:=by
 simp only[ev]at he;cases hf:gS z0 (qs.map λp=>(p.1,p.2.1,r p.2.2))with
 |none=>simp[hf]at he
 |some l=>
  simp[hf]at he;obtain⟨rfl,rfl⟩:=he;obtain⟨v,h1,h2,h3⟩:=Bn (C:=C) hz w;have xq:gW C w.heap z0 v.cells:=⟨by have:=cd.length h2;simpa using this.symm,λi x u hi hu=>by
   obtain⟨u', k1,k2⟩:=h2.get i x hi;rw[iR,hu]at k1;simp at k1;subst k1;exact⟨k2,h3 _ (by rw[ub];exact Array.mem_of_getElem? hu)⟩⟩
  have fin:∀c' : Array Value,gW C w.heap l c' ->VR C w.heap (.agg l) (.agg c'):=λc' hc=>by
   unfold VR;refine⟨c'.toList,by simp,cd.of (by simp[hc.1]) (λi x u h1 h2=>(hc.2 i x u h1 (by simpa using h2)).1),λy hy=>?_⟩
   obtain⟨i,hi⟩:=List.getElem?_of_mem hy;have aK:i<l.length:=by
    rw[hc.1];have:=(cT.1 hi).1;simpa using this
   exact(hc.2 i l[i] y (by simp[aK]) (by simpa using hi)).2
  have hx:(xs.map λ(i,x)=>(i,ρ x)).toList=xs.toList.map λ(i,x)=>(i,ρ x):=by simp
  cases hu:P.underlying t with
  |none=>simp[hu]at ht
  |some d=>
   cases d<;>simp only[hu]at ht<;>try(simp at ht;done)
   ·rename_i n e
    cases hi:P.info? e with
    |none=>simp[hi]at ht
    |some i=>
     simp only[hi]at ht;obtain⟨c', g1,g2⟩:=HS hR xs.toList qs z0 l v.cells ht xq hf;refine⟨dX (s:=Instr.build t (xs.map λ(i,x)=>(i,ρ x))) (v:=.agg c') (by simp only[execOp,ho]) ?_ (fin c' g2),rfl⟩
     have hs:(Go.sizeOf e).run P w = .ok i.size w:=iP (by simp[bW,hi]) w
     simp only[Instr.build,aL,h1,run_underlying hu,aR,hs,hx,g1,bh]
   ·rename_i fs
    cases gV:placesOf P fs.toList with
    |none=>simp[gV]at ht
    |some pl=>
     simp only[gV]at ht;obtain⟨c', g1,g2⟩:=HS hR xs.toList qs z0 l v.cells ht xq hf;refine⟨dX (s:=Instr.build t (xs.map λ(i,x)=>(i,ρ x))) (v:=.agg c') (by simp only[execOp,ho]) ?_ (fin c' g2),rfl⟩
     have hm:(fs.mapM λf=>do pure (f.offset,<-Go.sizeOf f.type):Sem (Array (Nat×Nat))).run P w = .ok pl.toArray w:=by
      rw[Array.mapM_eq_mapM_toList];have hr:=NH (w:=w) gV;have hm:∀m:Sem (List (Nat×Nat)),(List.toArray <$> m).run P w=(m >>= λa=>pure a.toArray).run P w:=λ_=>rfl;rw[hm,aL,hr];simp
     simp only[Instr.build,aL,h1,run_underlying hu,aR,hm,hx];have:(λi:Nat=>pl.toArray[i]?)=λi:Nat=>pl[i]?:=by funext i;simp
     simp only[this,g1,bh]
theorem HT{t e:TypeId}{v:Value}{lo hi:Option Value}{st:Nat}(ht:aF P t=some e) (bR:bW P e st=true){a:Option Addr}{len cap l h:Nat}(e1:v = .slice a len cap)
  (e2:lo=none/\l=0\/lo=some (.int .i64 l)) (e3:hi=none/\h=len\/hi=some (.int .i64 h)) (h1:l<=h) (h2:h<=len) (h3:len<=cap) :
  (Instr.sliceAt t v lo hi none).run P w = .ok (.slice (if cap=l then a else a.map (·.add (l*st))) (h-l) (cap-l)) w:=by
 subst e1;have hu:=jS ht w;have hs:=iP bR w;have hb:(Instr.sliceBounds true len cap lo hi none).run P w = .ok (l,h,cap) w:=by
  have c1:((0:Int)<=h/\(h:Int)<=cap):=by omega
  have c2:((0:Int)<=l/\(l:Int)<=h):=by omega
  rcases e2 with⟨rfl,rfl⟩|rfl<;>rcases e3 with⟨rfl,rfl⟩|rfl <;>
   simp[Instr.sliceBounds,Instr.sliceBound,asIntOf,c1,c2,h1,h2,h3,Nat.le_trans h2 h3,aL,aR]
 have hd:(Instr.sliceAt t (.slice a len cap) lo hi none).run P w=(Instr.slice t (.slice a len cap) lo hi none).run P w:=by
  simp only[Instr.sliceAt,aL,hu,aR]
 rw[hd];simp only[Instr.slice,aL,hu,aR,hb,hs,bh]
theorem NI{l:List AV}{a b:Nat}(h:ax l=true):ax ((l.drop a).take b)=true:=by
 have:∀{l:List AV},ax l=true->∀y∈l,aN y=true:=by
  intro l
  induction l with
  |nil=>simp
  |cons a r ih=>
   intro h y hy;simp only[ax,aD]at h;rcases cB.1 hy with rfl|hy
   ·exact h.1
   ·exact ih h.2 y hy
 exact Bh λy hy=>this h y (List.mem_of_mem_drop (List.mem_of_mem_take hy))
theorem HU{t e:TypeId}{st:Nat}(ht:aF P t=some e) (bR:bW P e st=true){a:Option Addr}{len cap h m:Nat}(h1:h<=m) (h2:m<=cap) :
  (Instr.sliceAt t (.slice a len cap) none (some (.int .i64 h)) (some (.int .i64 m))).run P w = .ok (.slice (if m=0 then a else a.map (·.add (0*st))) h m) w:=by
 have hu:=jS ht w;have hs:=iP bR w;have hb:(Instr.sliceBounds true len cap none (some (.int .i64 h)) (some (.int .i64 m))).run P w = .ok (0,h,m) w:=by
  have c1:((0:Int)<=h/\(h:Int)<=m):=by omega
  have c2:((0:Int)<=m/\(m:Int)<=cap):=by omega
  simp[Instr.sliceBounds,Instr.sliceBound,asIntOf,c1,c2,h1,h2,aL,aR]
 have hd:(Instr.sliceAt t (.slice a len cap) none (some (.int .i64 h)) (some (.int .i64 m))).run P w=(Instr.slice t (.slice a len cap) none (some (.int .i64 h)) (some (.int .i64 m))).run P w:=by
  simp only[Instr.sliceAt,aL,hu,aR]
 rw[hd];simp only[Instr.slice,aL,hu,aR,hb,hs,bh,Nat.sub_zero]
theorem NJ{a:Act}{x:Operand}(h:iW x=true):a.eval x = .int .i64 0:=by
 unfold iW at h;split at h
 ·rfl
 ·simp at h
theorem YD{a:Act}{o:Oper}{t e:TypeId}{x hi mx:Operand}{y:Rf}{st:Nat}{z:AV}{p:Option aX}(ho:o.op = .slice t x none (some hi) (some mx))
  (ht:aF P t=some e) (bR:bW P e st=true) (h1:iW hi=true) (h2:iW mx=true) (HQ:ρ=a.eval) (hx:VR C w.heap (r y) (ρ x))
  (he:ev ce σ nl ps r (.Ze y st)=some (z,p)):Plain P ρ o w C w.heap z/\p=none:=by
 have hh:ρ hi = .int .i64 0:=by rw[HQ];exact NJ h1
 have hm:ρ mx = .int .i64 0:=by rw[HQ];exact NJ h2
 have fin:∀ad len cap,ρ x = .slice ad len cap->z = .emp->p=none->Plain P ρ o w C w.heap z/\p=none:=λad len cap e1 e2 e3=>by
  subst e2 e3;refine⟨dX (s:=Instr.sliceAt t (ρ x) ((none:Option Operand).map ρ) ((some hi).map ρ) ((some mx).map ρ)) (v:=.slice ad 0 0) (by simp only[execOp,ho]) ?_ (by unfold VR;exact⟨_,rfl⟩),rfl⟩
  simp only[lH,Option.map_none,hh,hm,e1];have:=HU (w:=w) (a:=ad) (len:=len) (cap:=cap) (h:=0) (m:=0) ht bR (bw 0) (Nat.zero_le _);simpa using this
 simp only[ev]at he;cases bJ : r y<;>simp only[bJ]at he<;>try(simp at he;done)
 ·simp at he
  rw[bJ]at hx;unfold VR at hx;exact fin _ _ _ hx he.1.symm he.2.symm
 ·simp at he
  rw[bJ]at hx;unfold VR at hx;obtain⟨a0,hx⟩:=hx;exact fin _ _ _ hx he.1.symm he.2.symm
 ·simp at he
  rw[bJ]at hx;unfold VR at hx;obtain⟨_,⟨_,a0,hx,_⟩|⟨ak,off,cap,nY, c,mg, fz,hx,_⟩⟩:=hx
  ·exact fin _ _ _ hx he.1.symm he.2.symm
  ·exact fin _ _ _ hx he.1.symm he.2.symm
 ·simp at he
  rw[bJ]at hx;unfold VR at hx;obtain⟨⟨a0,c,hx,_⟩,_⟩:=hx;exact fin _ _ _ hx he.1.symm he.2.symm
theorem Yt{o:Oper}{t e:TypeId}{x hi mx:Operand}{y dw Nz : Rf}{st:Nat}{z:AV}{p:Option aX}(ho:o.op = .slice t x none (some hi) (some mx))
  (ht:aF P t=some e) (bR:bW P e st=true) (hx:VR C w.heap (r y) (ρ x)) (hh:VR C w.heap (r dw) (ρ hi)) (hm:VR C w.heap (r Nz) (ρ mx))
  (he:ev ce σ nl ps r (.Hz y dw Nz st)=some (z,p)):Plain P ρ o w C w.heap z/\p=none:=by
 simp only[ev]at he;cases bJ : r y<;>simp only[bJ]at he<;>try(simp at he;done)
 cases hh' : r dw <;>simp only[hh']at he<;>try(simp at he;done)
 cases nE : r Nz <;>simp only[nE]at he<;>try(simp at he;done)
 rename_i nn l h m;split at he<;>simp at he
 rename_i hc;obtain⟨rfl,rfl⟩:=he;rw[bJ]at hx;rw[hh']at hh;rw[nE]at hm;have hh:=hh.aY;have hm:=hm.aY;refine⟨?_,rfl⟩;have fin:∀z v,(Instr.sliceAt t (ρ x) none (some (ρ hi)) (some (ρ mx))).run P w = .ok v w->VR C w.heap z v->Plain P ρ o w C w.heap z:=λz v h1 h2=>
  dX (s:=Instr.sliceAt t (ρ x) ((none:Option Operand).map ρ) ((some hi).map ρ) ((some mx).map ρ)) (v:=v) (by simp only[execOp,ho]) h1 h2
 rw[hh,hm]at fin;obtain⟨A,rfl⟩:=qV hc.1.1;obtain⟨B,rfl⟩:=qV (by omega:0<=m)
 simp only[kE];have hAB:A<=B:=by omega
 have hBl:B<=l.length:=by omega
 unfold VR at hx;obtain⟨hn,hx⟩:=hx;have hlen:(l.take A).length=A:=by simp;omega
 rcases hx with⟨rfl,a0,e1,wz⟩|⟨ak,off,cap,nY, c,mg, fz,e1,pZ,hI,hH,hl⟩
 ·simp at hBl
  subst hBl;obtain rfl:A=0:=by omega
  rw[e1]at fin;refine fin _ _ (HU (w:=w) ht bR (by omega) (by omega)) ?_
  unfold VR;exact⟨rfl,.inl ⟨by simp,a0,by simp,by simp⟩⟩
 ·rw[e1]at fin
  refine fin _ _ (HU (w:=w) ht bR hAB (by omega)) ?_
  have h0:=NI (a:=0) (b:=A) hn;rw[nI]at h0;unfold VR;refine⟨h0,.inr ⟨ak,off,B,nY, c,mg, fz,?_,by omega,hI,hH,je.of λi u dw =>?_⟩⟩
  ·rw[hlen];split<;>simp[p6]
  ·have BT : l[i]? = some u:=by
    have h0:=(cT.1 dw).1;rw[sj (by omega)]at dw
    exact dw
   exact hl.get i u BT
theorem aaf{lo:Option Operand}{sU : Option Rf}{n:Int}(h:lW R lo sU = true) (hR:∀x y,R x y=true->VR C w.heap (r y) (ρ x))
  (he:tR r sU = some n):lo.map ρ=none/\n=0\/lo.map ρ=some (.int .i64 n):=by
 cases lo with
 |none=>
  cases sU with
  |none=>simp[tR,tS]at he;exact .inl ⟨rfl,he.symm⟩
  |some y=>simp[lW]at h
 |some q=>
  cases sU with
  |none=>simp[lW]at h
  |some y=>
   simp only[lW]at h;have:=hR _ _ h;right;simp only[tR,tS]at he;cases hy:r y<;>simp[hy]at he
   subst he;rw[hy]at this;simp[this.aY]
theorem aag{lo:Option Operand}{sU : Option Rf}{n:Option Int}(h:lW R lo sU = true) (hR:∀x y,R x y=true->VR C w.heap (r y) (ρ x))
  (he:tS r sU = some n):(lo.map ρ=none/\n=none)\/∃m,n=some m/\lo.map ρ=some (.int .i64 m):=by
 cases lo with
 |none=>
  cases sU with
  |none=>simp[tR,tS]at he;exact .inl ⟨rfl,he.symm⟩
  |some y=>simp[lW]at h
 |some q=>
  cases sU with
  |none=>simp[lW]at h
  |some y=>
   simp only[lW]at h;have:=hR _ _ h;right;simp only[tR,tS]at he;cases hy:r y<;>simp[hy]at he
   subst he;rw[hy]at this;exact⟨_,rfl,by simp[this.aY]⟩
theorem Hg{o:Oper}{t e:TypeId}{x:Operand}{lo hi:Option Operand}{y:Rf}{sU dw : Option Rf}{st:Nat}{z:AV}{p:Option aX}(ho:o.op = .slice t x lo hi none)
  (ht:aF P t=some e) (bR:bW P e st=true) (dg:∀b u B,C.lim b u->upto σ b u=some B->∃id,C.own b u=some (B,id)) (hx:VR C w.heap (r y) (ρ x)) (ng:lW R lo sU = true) (hhi:lW R hi dw = true)
  (hR:∀x y,R x y=true->VR C w.heap (r y) (ρ x)) (he:ev ce σ nl ps r (.pK y sU dw st)=some (z,p)):Plain P ρ o w C w.heap z/\p=none:=by
 simp only[ev]at he;have fin:∀z v,(Instr.sliceAt t (ρ x) (lo.map ρ) (hi.map ρ) none).run P w = .ok v w->VR C w.heap z v->Plain P ρ o w C w.heap z:=λz v h1 h2=>
  dX (s:=Instr.sliceAt t (ρ x) (lo.map ρ) (hi.map ρ) ((none:Option Operand).map ρ)) (v:=v) (by simp only[execOp,ho]) h1 h2
 cases ha:tR r sU with
 |none=>simp[ha]at he
 |some a=>
  cases hb:tS r dw with
  |none=>simp[ha,hb]at he
  |some b=>
   simp only[ha,hb]at he;have el:=aaf ng hR ha;have eh:=aag hhi hR hb;cases bJ : r y<;>simp only[bJ]at he<;>try(simp at he;done)
   ·rename_i nn l
    split at he<;>simp at he;rename_i hc;obtain⟨rfl,rfl⟩:=he;rw[bJ]at hx;refine⟨?_,rfl⟩
    -- bounds as natural numbers
    obtain⟨A,rfl⟩:=qV hc.1.1;obtain⟨B,hB⟩:=qV (by omega:0<=b.getD l.length)
    rw[hB]at hc ⊢;have e3:hi.map ρ=none/\B=l.length\/hi.map ρ=some (.int .i64 B):=by
     rcases eh with⟨h1,rfl⟩|⟨m,rfl,h1⟩
     ·left;simp at hB;exact⟨h1,by omega⟩
     ·right;simp at hB;rw[h1,hB]
    have e2:lo.map ρ=none/\A=0\/lo.map ρ=some (.int .i64 A):=by
     rcases el with⟨h1,h2⟩|h1
     ·exact .inl ⟨h1,by omega⟩
     ·exact .inr h1
    simp only[kE];have hx0:=hx;unfold VR at hx;obtain⟨hn,hx⟩:=hx;have hlen:((l.drop A).take (B-A)).length=B-A:=by simp;omega
    rcases hx with⟨rfl,a0,e1,wz⟩|⟨ak,off,cap,nY, c,mg, fz,e1,pZ,hI,hH,hl⟩
    ·simp at hc
     obtain rfl:B=0:=by omega
     obtain rfl:A=0:=by omega
     have:=HT (w:=w) ht bR e1 e2 e3 (by omega) (by simp) (bw 0)
     refine fin _ _ this ?_;unfold VR;exact⟨rfl,.inl ⟨by simp,a0,by simp,by simp⟩⟩
    ·have:=HT (w:=w) ht bR e1 e2 e3 (by omega) (by omega) pZ
     refine fin _ _ this ?_;unfold VR;refine⟨NI hn,.inr ?_⟩
     by_cases K7:cap=A
     ·refine⟨ak,off,cap-A,nY, c,mg, fz,by rw[ab K7,hlen],by rw[hlen];omega,hI,hH,?_⟩
      have:(l.drop A).take (B-A)=[]:=by rw[show B-A=0 by omega];simp
      rw[this];trivial
     ·refine⟨ak,off+A*st,cap-A,nY, c,mg, fz,by rw[aa K7,hlen];simp[p6],by rw[hlen];omega,hI,hH,?_⟩
      refine je.of λi u dw =>?_;have BT : l[A+i]? = some u:=by
       have h0:=(cT.1 dw).1;rw[sj (by omega),lE]at dw
       exact dw
      obtain⟨v,g1,g2,g3⟩:=hl.get (A+i) u BT;have yR : nY = st:=by
       have hf:=hc.2;cases l with
       |nil=>simp at BT
       |cons x0 r0=>
        simp only[gd,cL]at hf;obtain⟨v0,k1,k2,_⟩:=hl.get 0 x0 rfl;have:aN x0=true:=by simp only[ax,aD]at hn;exact hn.1
        rw[<-k2,VR.size (yQ this) k1,hf]
      subst yR;refine⟨v,g1,g2,λj hj=>?_⟩;rw[<-g3 j hj,fx]
      congr 1;omega
   ·rename_i b' u off len
    cases HV : upto σ b' u with
    |none=>simp[HV]at he
    |some B0=>
    simp only[HV]at he;rw[bJ]at hx;obtain⟨Xq,yS⟩:=dg b' u B0 (yd hx) HV;split at he<;>simp at he
    rename_i hc;obtain⟨rfl,rfl⟩:=he;refine⟨?_,rfl⟩;obtain⟨A,rfl⟩:=qV hc.1.1;obtain⟨B,hB⟩:=qV (by omega:0<=b.getD len)
    rw[hB]at hc ⊢;have e3:hi.map ρ=none/\B=len\/hi.map ρ=some (.int .i64 B):=by
     rcases eh with⟨h1,rfl⟩|⟨m,rfl,h1⟩
     ·left;simp at hB;exact⟨h1,by omega⟩
     ·right;simp at hB;rw[h1,hB]
    have e2:lo.map ρ=none/\A=0\/lo.map ρ=some (.int .i64 A):=by
     rcases el with⟨h1,h2⟩|h1
     ·exact .inl ⟨h1,by omega⟩
     ·exact .inr h1
    simp only[kE];unfold VR at hx;obtain⟨⟨q,cap,e1,pZ,hq⟩,h1,h3⟩:=hx;have:=HT (w:=w) ht bR e1 e2 e3 (by omega) (by omega) pZ
    refine fin _ _ this ?_;unfold VR;refine⟨⟨_,_,rfl,by omega,λaK=>?_⟩,h1,λB' id oZ =>?_⟩
    ·obtain⟨ak,rfl⟩:=hq (by omega)
     exact⟨ak,by rw[aa (by omega)];simp[p6]⟩
    ·have hv:=h3 B' id oZ
     cases hs:B'.st with
     |dead=>trivial
     |map es=>trivial
     |jN=>
      simp only[hs]at hv;obtain⟨rfl,rfl,e4⟩:=hv;rw[e1]at e4;simp at e4;obtain⟨rfl,rfl⟩:=e4;obtain rfl:B=0:=by omega
      obtain rfl:A=0:=by omega
      simp
     |live=>
      simp only[hs]at hv;obtain⟨c,mg, o', aae, g1,g2,g3,g4,g5⟩:=hv;rw[e1]at g2;simp at g2;obtain⟨rfl,rfl⟩:=g2;rw[yS]at oZ;simp at oZ;obtain⟨rfl,rfl⟩:=oZ;have hk:=hc.2;rw[hk]at g5 ⊢;have hmul:A*st+(cap-A)*st=cap*st:=by rw[<-Nat.add_mul,Nat.add_sub_cancel' (by omega)]
      by_cases K7:cap=A
      ·refine⟨c,mg, o', 0,g1,by rw[ab K7,show cap-A=0 by omega],λh=>absurd h (Nat.lt_irrefl 0),by omega,?_⟩
       subst K7;simpa using g5
      ·refine⟨c,mg, off+A*st,cap-A,g1,?_,λ_=>rfl,by omega,?_⟩
       ·rw[aa K7]
        obtain rfl:=g3 (by omega)
        simp[p6]
       ·omega
end
end Ab
