/- What an abstract value stands for in a world of the model, and that it goes on to do so. What an owned value reads as, once nobody writes it any more. The check that a line of the small language is an operation of the program. What the model's operations do, in the form that the soundness of the small language wants. The operations that yield a value and turn nothing. Building a struct and taking a part of a slice. Condition: none. -/
import Derived.Calls
import Derived.Laws.Sem
import Derived.Test.YtcdccenbhiddcaaGreatAbCore
import Derived.Orders
import Derived.ChangeKeysEq
import Derived.Laws.Cells
import Derived.Laws.NewBlocks
import Derived.IntWalk
import Derived.Laws.StructEq
set_option linter.all false
namespace Ab
open Go
def aN:type_of% @Sem.run_bind:=@Sem.run_bind
def aU:type_of% @Result.andThen_ok:=@Result.andThen_ok
def aZ:type_of% @Sem.run_pure:=@Sem.run_pure
def jh:type_of% @Obj.cells.injEq:=@Obj.cells.injEq
def jy:Nat->Option IntKind
 |0=>some .i8|1=>some .i16|2=>some .i32|4=>some .u8|5=>some .u16|6=>some .u32|7=>some .u64
 |_=>none
structure Ctx where
 I:Nat->Prop
 own:Nat->Nat->Option (aj×Nat)
 lim:Nat->Nat->Prop
mutual
def VR (C:Ctx) (H:Array Obj):AV->Value->Prop
 |.int n,v=>v = .int .i64 n
 |.ik k n,v=>∃K,jy k=some K/\v = .int K n
 |.bool b,v=>v = .bool b
 |.str s,v=>v = .string ⟨s.toArray⟩
 |.agg l,v=>∃vs:List Value,v = .agg vs.toArray/\bm C H l vs/\∀y,y∈vs->y.oneCell' = true
 |.bz l,v=>∃vs:List Value,v = .tuple vs.toArray/\bm C H l vs
 |.ag,v=>v = .slice none 0 0
 |.emp,v=>∃a:Option Addr,v = .slice a 0 0
 |.aA e l,v=>aq l=true/\((l=[]/\∃a:Option Addr,v = .slice a 0 0/\(e=true->a.isSome=true))\/
   ∃ay off cap st c el d,v = .slice (some ⟨ay,off,none⟩) l.length cap/\l.length<=cap/\C.I ay/\H[ay]? = some (.cells c el d)/\fF C H c st l off)
 |.arr l,v=>∃ay off st c el d,v = .slice (some ⟨ay,off,none⟩) l.length l.length/\C.I ay/\H[ay]? = some (.cells c el d)/\fF C H c st l off
 |.sl b u off len,v=>(∃a c,v = .slice a len c/\len<=c/\(0<len->∃ay,a=some ⟨ay,off,none⟩))/\C.lim b u/\∀B id,C.own b u=some (B,id)->
   match B.st with
   |.dead=>True
   |.map _=>True
   |.fN=>off=0/\len=0/\v = .slice none 0 0
   |.live=>∃c el o cap,H[id]? = some (.cells c el (0,0))/\v = .slice (some ⟨id,o,none⟩) len cap/\(0<cap->o=off)/\len<=cap/\off+cap*aC B.k=c.size
 |.gV,v=>v = .pointer none
 |.ar x,v=>aB x=true/\∃ay off c el d y,v = .pointer (some ⟨ay,off,none⟩)/\C.I ay/\H[ay]? = some (.cells c el d)/\VR C H x y/\∀j,j<y.cells.size->c[off+j]? = y.cells[j]?
 |.ptr b u off,v=>(∃ay,v = .pointer (some ⟨ay,off,none⟩))/\C.lim b u/\∀B id,C.own b u=some (B,id)->B.st = .live->v = .pointer (some ⟨id,off,none⟩)
 |.gu,v=>v = .nilFunc
 |.func f l,v=>∃vs:List Value,v = .func (.func f) #[] vs.toArray/\bm C H l vs
 |.eP,v=>v = .nilIface
 |.iface t x,v=>∃y,v = .iface t y/\VR C H x y
 |.b8 b,v=>(∃a,v = .map (some a))/\C.lim b 0/\∀B id,C.own b 0=some (B,id)->B.st.isMap=true->v = .map (some id)
 |.tK,v=>v.oneCell' = true
 |.au,_=>True
def bm (C:Ctx) (H:Array Obj):List AV->List Value->Prop
 | [],vs=>vs=[]
 |x::r,vs=>∃v s,vs=v::s/\VR C H x v/\bm C H r s
def fF (C:Ctx) (H:Array Obj) (c:Array Value) (st:Nat):List AV->Nat->Prop
 | [],_=>True
 |x::r,off=>(∃v,VR C H x v/\v.cells.size=st/\∀j,j<st->c[off+j]? = v.cells[j]?)/\fF C H c st r (off+st)
end
variable{s t:c6}
def No(h:s.shape=t.shape) (k:t = .live):s = .live:=by
 subst k;cases s<;>simp_all [c6.shape]
def Np(h:s.shape=t.shape):s.isMap=t.isMap:=by
 cases s<;>cases t<;>simp_all [c6.shape,c6.isMap]
structure cF (C:Ctx) (H:Array Obj) (C' : Ctx) (H' : Array Obj):Prop where
 aA:∀k,C.I k->C'.I k
 same:∀k,C.I k->H'[k]? = H[k]?
 lim:∀b u,C.lim b u->C'.lim b u
 own:∀b u B' id,C.lim b u->C'.own b u=some (B', id)->∃B,C.own b u=some (B,id)/\B.st.shape=B'.st.shape/\B.k=B'.k/\
  ∀c el,H[id]? = some (.cells c el (0,0))->∃c', H'[id]? = some (.cells c' el (0,0))/\c'.size=c.size
def cF.refl (C:Ctx) (H:Array Obj):cF C H C H:=
 ⟨λ_ h=>h,λ_ _=>rfl,λ_ _ h=>h,λ_ _ Y _ _ h=>⟨Y, h,rfl,rfl,λc _ hc=>⟨c,hc,rfl⟩⟩⟩
def cF.trans{C C' Y : Ctx}{H H' H'' : Array Obj}(h:cF C H C' H') (k:cF C' H' Y H''):cF C H Y H'' :=by
 refine⟨λx hx=>k.aA x (h.aA x hx),λx hx=>(k.same x (h.aA x hx)).trans (h.same x hx),λb u hl=>k.lim b u (h.lim b u hl),λb u B'' id hl ho=>?_⟩;obtain⟨B', h1,h2,h3,h4⟩:=k.own b u B'' id (h.lim b u hl) ho;obtain⟨B,g1,g2,g3,g4⟩:=h.own b u B' id hl h1;refine⟨B,g1,g2.trans h2,g3.trans h3,λc el hc=>?_⟩;obtain⟨c', e1,e2⟩:=g4 c el hc;obtain⟨c'', f1,f2⟩:=h4 c' el e1;exact⟨c'', f1,f2.trans e2⟩
section
variable{C C' : Ctx}{H H' : Array Obj}
mutual
theorem VR.mono (h:cF C H C' H'):∀(x:AV) (v:Value),VR C H x v->VR C' H' x v
 |.int _,_,hv=>hv
 |.ik _ _,_,hv=>hv
 |.bool _,_,hv=>hv
 |.str _,_,hv=>hv
 |.agg l,_,⟨vs,e,hl,hc⟩=>⟨vs,e,bm.mono h l vs hl,hc⟩
 |.bz l,_,⟨vs,e,hl⟩=>⟨vs,e,bm.mono h l vs hl⟩
 |.ag,_,hv=>hv
 |.emp,_,hv=>hv
 |.aA nn l,v,hv=>by
  unfold VR at hv ⊢;obtain⟨hn,hv⟩:=hv;refine⟨hn,?_⟩;rcases hv with hv|⟨b,off,cap,st,c,el,fz,e,hc,hI,hH,hl⟩
  .exact .inl hv
  .exact .inr ⟨b,off,cap,st,c,el,fz,e,hc,h.aA b hI,(h.same b hI).trans hH,fF.mono h c st l off hl⟩
 |.arr l,v,hv=>by
  unfold VR at hv ⊢;obtain⟨b,off,st,c,el,fz,e,hI,hH,hl⟩:=hv;exact⟨b,off,st,c,el,fz,e,h.aA b hI,(h.same b hI).trans hH,fF.mono h c st l off hl⟩
 |.sl b u off len,v,hv=>by
  unfold VR at hv ⊢;obtain⟨h0,h1,h3⟩:=hv;refine⟨h0,h.lim b u h1,λB' id ho=>?_⟩;obtain⟨B,g1,g2,g3,g4⟩:=h.own b u B' id h1 ho;have:=h3 B id g1;rw[g3]at this
  revert this g2
  cases hB:B.st<;>cases hB' : B'.st<;>intro g2<;>simp only[c6.shape,reduceCtorEq]at g2
  case dead.dead=>exact λ_=>trivial
  case map.map=>exact λ_=>trivial
  case fN.fN=>exact λx=>x
  case live.live=>
   rintro⟨c,el,o,cap,e1,e2,e3,e4,e5⟩;obtain⟨c', f1,f2⟩:=g4 c el e1;exact⟨c', el,o,cap,f1,e2,e3,e4,e5.trans f2.symm⟩
 |.gV,_,hv=>hv
 |.ar x,v,hv=>by
  unfold VR at hv ⊢;obtain⟨hn,b,off,c,el,fz,y,e,hI,hH,hx,hj⟩:=hv;exact⟨hn,b,off,c,el,fz,y,e,h.aA b hI,(h.same b hI).trans hH,VR.mono h x y hx,hj⟩
 |.ptr b u off,v,hv=>by
  unfold VR at hv ⊢;obtain⟨h0,h1,h3⟩:=hv;refine⟨h0,h.lim b u h1,λB' id ho hl=>?_⟩;obtain⟨B,g1,g2,g3,g4⟩:=h.own b u B' id h1 ho;exact h3 B id g1 (No g2 hl)
 |.gu,_,hv=>hv
 |.func _ l,_,⟨vs,e,hl⟩=>⟨vs,e,bm.mono h l vs hl⟩
 |.eP,_,hv=>hv
 |.iface _ x,_,⟨y,e,hx⟩=>⟨y,e,VR.mono h x y hx⟩
 |.b8 b,v,hv=>by
  unfold VR at hv ⊢;obtain⟨h0,h1,h3⟩:=hv;refine⟨h0,h.lim b 0 h1,λB' id ho hl=>?_⟩;obtain⟨B,g1,g2,g3,g4⟩:=h.own b 0 B' id h1 ho;exact h3 B id g1 (by rw[Np g2];exact hl)
 |.tK,_,hv=>hv
 |.au,_,_=>trivial
theorem bm.mono (h:cF C H C' H'):∀(l:List AV) (vs:List Value),bm C H l vs->bm C' H' l vs
 | [],_,Y=>Y
 |x::r,_,⟨v,s,e,hx,hr⟩=>⟨v,s,e,VR.mono h x v hx,bm.mono h r s hr⟩
theorem fF.mono (h:cF C H C' H') (c:Array Value) (st:Nat):∀(l:List AV) (off:Nat),fF C H c st l off->fF C' H' c st l off
 | [],_,_=>trivial
 |x::r,off,⟨⟨v,Y,e,hj⟩,hr⟩=>⟨⟨v,VR.mono h x v Y,e,hj⟩,fF.mono h c st r (off+st) hr⟩
end
structure kJ (C:Ctx) (H:Array Obj) (C' : Ctx) (H' : Array Obj):Prop where
 aA:∀k,C.I k->C'.I k
 same:∀k,C.I k->H'[k]? = H[k]?
mutual
theorem VR.free (h:kJ C H C' H'):∀(x:AV) (v:Value),aB x=true->VR C H x v->VR C' H' x v
 |.int _,_,_,Y=>Y
 |.ik _ _,_,_,Y=>Y
 |.bool _,_,_,Y=>Y
 |.str _,_,_,Y=>Y
 |.agg l,_,hn,⟨vs,e,hl,hc⟩=>⟨vs,e,bm.free h l vs (by simpa[aB]using hn) hl,hc⟩
 |.bz l,_,hn,_=>by simp[aB]at hn
 |.ag,_,_,Y=>Y
 |.emp,_,_,Y=>Y
 |.aA nn l,v,_,Y=>by
  unfold VR at Y ⊢;obtain⟨hn,Y⟩:=Y;refine⟨hn,?_⟩;rcases Y with Y|⟨b,off,cap,st,c,el,fz,e,hc,hI,hH,hl⟩
  .exact .inl Y
  .exact .inr ⟨b,off,cap,st,c,el,fz,e,hc,h.aA b hI,(h.same b hI).trans hH,fF.free h c st l off hn hl⟩
 |.arr l,_,hn,_=>by simp[aB]at hn
 |.sl ..,_,hn,_=>by simp[aB]at hn
 |.gV,_,_,Y=>Y
 |.ar x,v,_,Y=>by
  unfold VR at Y ⊢;obtain⟨hn,b,off,c,el,fz,y,e,hI,hH,hx,hj⟩:=Y;exact⟨hn,b,off,c,el,fz,y,e,h.aA b hI,(h.same b hI).trans hH,VR.free h x y hn hx,hj⟩
 |.ptr ..,_,hn,_=>by simp[aB]at hn
 |.gu,_,_,Y=>Y
 |.func _ l,_,hn,⟨vs,e,hl⟩=>⟨vs,e,bm.free h l vs (by simpa[aB]using hn) hl⟩
 |.eP,_,_,Y=>Y
 |.iface _ x,_,hn,⟨y,e,hx⟩=>⟨y,e,VR.free h x y (by simpa[aB]using hn) hx⟩
 |.b8 _,_,hn,_=>by simp[aB]at hn
 |.tK,_,_,Y=>Y
 |.au,_,hn,_=>by simp[aB]at hn
theorem bm.free (h:kJ C H C' H'):∀(l:List AV) (vs:List Value),aq l=true->bm C H l vs->bm C' H' l vs
 | [],_,_,hv=>hv
 |x::r,_,Y,⟨v,s,e,hx,hr⟩=>by
  simp only[aq,aD]at Y;exact⟨v,s,e,VR.free h x v Y.1 hx,bm.free h r s Y.2 hr⟩
theorem fF.free (h:kJ C H C' H') (c:Array Value) (st:Nat):∀(l:List AV) (off:Nat),aq l=true->fF C H c st l off->fF C' H' c st l off
 | [],_,_,_=>trivial
 |x::r,off,Y,⟨⟨v,hx,e,hj⟩,hr⟩=>by
  simp only[aq,aD]at Y;exact⟨⟨v,VR.free h x v Y.1 hx,e,hj⟩,fF.free h c st r (off+st) Y.2 hr⟩
end
end
section
variable{C:Ctx}{H:Array Obj}
def bm.length:∀{l:List AV}{vs:List Value},bm C H l vs->vs.length=l.length
 | [],_,h=>by rw[show _=[]from h];rfl
 |_::_,_,⟨_,_,e,_,Y⟩=>by rw[e];simp[bm.length Y]
def bm.get:∀{l:List AV}{vs:List Value},bm C H l vs->∀(i:Nat) (x:AV),l[i]? = some x->∃v,vs[i]? = some v/\VR C H x v
 | [],_,_,i,x,hi=>by simp at hi
 |y::r,_,⟨v,s,e,Y,hr⟩,0,x,hi=>by
  simp at hi;subst hi;rw[e];exact⟨v,rfl,Y⟩
 |y::r,_,⟨v,s,e,Y,hr⟩,i+1,x,hi=>by
  rw[e];exact bm.get hr i x (by simpa using hi)
def bm.append:∀{l m:List AV}{vs ws:List Value},bm C H l vs->bm C H m ws->bm C H (l++m) (vs++ws)
 | [],_,_,_,h,k=>by rw[show _=[]from h];exact k
 |_::_,_,_,_,⟨v,s,e,Y,hr⟩,k=>by rw[e];exact⟨v,s++_,rfl,Y,bm.append hr k⟩
def bm.drop:∀(n:Nat){l:List AV}{vs:List Value},bm C H l vs->bm C H (l.drop n) (vs.drop n)
 |0,_,_,h=>by simpa using h
 |n+1,[],_,h=>by rw[show _=[]from h];simp[bm]
 |n+1,_::_,_,⟨v,s,e,hx,Y⟩=>by rw[e];simpa using bm.drop n Y
def bm.take:∀(n:Nat){l:List AV}{vs:List Value},bm C H l vs->bm C H (l.take n) (vs.take n)
 |0,_,_,h=>by simp[bm]
 |n+1,[],_,h=>by rw[show _=[]from h];simp[bm]
 |n+1,_::_,_,⟨v,s,e,Y,hr⟩=>by rw[e];exact⟨v,s.take n,rfl,Y,bm.take n hr⟩
variable{b u off:Nat}{v:Value}
def tF{len:Nat}(h:VR C H (.sl b u off len) v):C.lim b u:=by unfold VR at h;exact h.2.1
def Nq(h:VR C H (.ptr b u off) v):C.lim b u:=by unfold VR at h;exact h.2.1
def Mr(h:VR C H (.b8 b) v):C.lim b 0:=by unfold VR at h;exact h.2.1
def eG (x:AV):Prop:=x ≠ .au/\∀l,x ≠ .bz l
def rI(h:v.oneCell' = true):v.cells = #[v]:=by
 cases v<;>first|rfl|simp[Value.oneCell']at h
variable{x:AV}
def VR.leaf(hx:∀l,x ≠ .agg l) (Y:eG x) (h:VR C H x v):v.oneCell' = true:=by
 cases x with
 |agg l=>exact absurd rfl (hx l)
 |au=>exact absurd rfl Y.1
 |bz l=>exact absurd rfl (Y.2 l)
 |tK=>exact h
 |emp=>
  unfold VR at h;obtain⟨_,h⟩:=h;rw[h];rfl
 |_=>
  unfold VR at h
  first
   |(rw[h];rfl)
   |(obtain⟨⟨_,h⟩,_⟩:=h;rw[h];rfl)
   |(obtain⟨_,_,h⟩:=h;rw[h];rfl)
   |(obtain⟨_,h,_⟩:=h;rw[h];rfl)
   |(obtain⟨⟨_,_,h,_⟩,_⟩:=h;rw[h];rfl)
   |(obtain⟨⟨_,h⟩,_⟩:=h;rw[h];rfl)
   |(obtain⟨_,h|h⟩:=h
     .obtain⟨_,_,h,_⟩:=h;rw[h];rfl
     .obtain⟨_,_,_,_,_,_,_,h,_⟩:=h;rw[h];rfl)
   |(obtain⟨_,_,_,_,_,_,h,_⟩:=h;rw[h];rfl)
   |(obtain⟨_,_,_,_,_,_,_,h,_⟩:=h;rw[h];rfl)
def VR.cells(hu:eG x) (h:VR C H x v):bm C H x.cells v.cells.toList/\∀y,y∈v.cells.toList->y.oneCell' = true:=by
 by_cases hx:∃l,x = .agg l
 .obtain⟨l,rfl⟩:=hx
  unfold VR at h;obtain⟨vs,rfl,hl,hc⟩:=h;exact⟨by simpa[AV.cells,Value.cells]using hl,by simpa[Value.cells]using hc⟩
 .have Y : ∀l,x ≠ .agg l:=λl e=>hx ⟨l,e⟩
  have hlf:=VR.leaf Y hu h;rw[rI hlf];have:x.cells=[x]:=by
   cases x<;>first|rfl|exact absurd rfl (Y _)
  rw[this];exact⟨⟨v,[],rfl,h,rfl⟩,by simp[hlf]⟩
def VR.size(Y:eG x) (h:VR C H x v):v.cells.size=x.cells.length:=by
 have:=bm.length (VR.cells Y h).1;simpa using this
end
def owned (C:Ctx) (k:Nat):Prop:=∃b u B,C.own b u=some (B,k)/\B.st.fo=true
def MR (C:Ctx) (H:Array Obj):List (AV×AV)->List MapEntry->Prop
 | [],l=>l=[]
 |(k,x)::r,l=>∃e s,l=e::s/\(aB k=true/\VR C H k e.key)/\VR C H x e.val/\MR C H r s
structure Good (C:Ctx) (w:World):Prop where
 I:∀k,C.I k->k<w.heap.size
 ij:∀b u B id,C.own b u=some (B,id)->C.lim b u/\u=B.cells.length/\(B.st = .fN->B.cells=[])/\B.st ≠ .dead
 live:∀b u B id,C.own b u=some (B,id)->B.st = .live->¬C.I id/\∃(c:Array Value) (el:TypeId),w.heap[id]? = some (.cells c el (0,0))/\B.cells.length<=c.size/\
  ∀(i:Nat) (x:AV),B.cells[i]? = some x->∃y,c[i]? = some y/\VR C w.heap x y/\y.oneCell' = true
 apart:∀b u B id b' u' B' id', C.own b u=some (B,id)->B.st.fo=true->C.own b' u' = some (B', id')->B'.st.fo=true->b ≠ b' ->id ≠ id'
 maps:∀b u B id es,C.own b u=some (B,id)->B.st = .map es->¬C.I id/\∃(l:Array MapEntry) (clock:Nat),w.heap[id]? = some (.map l clock)/\MR C w.heap es l.toList
variable{s:c6}
def DU(h:s.fo=true):s = .live\/∃es,s = .map es:=by
 cases s<;>simp_all [c6.fo]
def gS(h:s = .live):s.fo=true:=by subst h;rfl
variable{k:Nat}
def Good.lt{C:Ctx}{w:World}(h:Good C w)(hk:owned C k):k<w.heap.size:=by
 obtain⟨b,u,B,ho,hl⟩:=hk;rcases DU hl with hl|⟨es,hl⟩
 .obtain⟨_,c,el,Y,_⟩:=h.live b u B k ho hl
  exact(eK.1 Y).1
 .obtain⟨_,c,el,Y,_⟩:=h.maps b u B k es ho hl
  exact(eK.1 Y).1
def MR.mono{C C' : Ctx}{H H' : Array Obj}(h:cF C H C' H'):∀{es:List (AV×AV)}{l:List MapEntry},MR C H es l->MR C' H' es l
 | [],_,e=>e
 |(k,x)::r,_,⟨e,s,q,⟨k1,k2⟩,Y,hr⟩=>⟨e,s,q,⟨k1,VR.mono h _ _ k2⟩,VR.mono h _ _ Y,MR.mono h hr⟩
variable{w': World}{b u id:Nat}{B:aj}{es:List (AV×AV)}
def Good.bG{C:Ctx}{w:World}(hg:Good C w){C' : Ctx}(ev:cF C w.heap C' w'.heap)(ho:C.own b u=some (B,id)) (hl:B.st = .map es)
  (Y:w'.heap[id]? = w.heap[id]?) (Cf:¬C'.I id):¬C'.I id/\∃(l:Array MapEntry) (clock:Nat),w'.heap[id]? = some (.map l clock)/\MR C' w'.heap es l.toList:=by
 obtain⟨_,l,c,h1,h2⟩:=hg.maps b u B id es ho hl;exact⟨Cf,l,c,Y.trans h1,h2.mono ev⟩
def gN(h:s = .map es):s.fo=true:=by subst h;rfl
def Good.Ly{C:Ctx}{w:World}(h:Good C w)(hk:owned C k):¬C.I k:=by
 obtain⟨b,u,B,Y,hl⟩:=hk;rcases DU hl with hl|⟨es,hl⟩
 .exact(h.live b u B k Y hl).1
 .exact(h.maps b u B k es Y hl).1
structure Step (C:Ctx) (w:World) (C' : Ctx) (w' : World):Prop where
 ev:cF C w.heap C' w'.heap
 size:w.heap.size<=w'.heap.size
 frame:∀k,k<w.heap.size->¬owned C k->w'.heap[k]? = w.heap[k]?
 cm:∀k,owned C' k->owned C k\/w.heap.size<=k
 cv:∀k,C'.I k->C.I k\/owned C k\/w.heap.size<=k
 os:w'.os=w.os
 tape:w'.tape=w.tape/\w.drawn<=w'.drawn
 output:w'.output=w.output
def Step.refl (C:Ctx) (w:World):Step C w C w:=
 ⟨cF.refl _ _,aY _,λ_ _ _=>rfl,λ_ h=>.inl h,λ_ h=>.inl h,rfl,⟨rfl,aY _⟩,rfl⟩
def Step.trans{C C' C'' : Ctx}{w w'': World}(h:Step C w C' w') (k:Step C' w' C'' w''):Step C w C'' w'' :=by
 refine⟨h.ev.trans k.ev,Nat.le_trans h.size k.size,λx hx ho=>?_,λx hx=>?_,λx hx=>?_,k.os.trans h.os,⟨k.tape.1.trans h.tape.1,Nat.le_trans h.tape.2 k.tape.2⟩,k.output.trans h.output⟩
 .rw[k.frame x (Nat.lt_of_lt_of_le hx h.size) (λY =>(h.cm x Y).elim ho (λh'' =>absurd hx (Nat.not_lt.2 h'')))]
  exact h.frame x hx ho
 .rcases k.cm x hx with Y | Y
  .exact h.cm x Y
  .exact .inr (Nat.le_trans h.size Y)
 .rcases k.cv x hx with Y | Y | Y
  .exact h.cv x Y
  .exact .inr (h.cm x Y)
  .exact .inr (.inr (Nat.le_trans h.size Y))
def ad (σ:List aj) (ids:Nat->Nat) (I:Nat->Prop):Ctx where
 I:=I
 own:=λb u=>match ay σ b with
  |some B=>match B.st with
   |.dead=>none
   |_=>if B.cells.length=u then some (B,ids b)else none
  |none=>none
 lim:=λb u=>∃B,ay σ b=some B/\u<=B.cells.length
def bV (σ:List aj):∀b,ay σ b=σ[b]?:=by
 induction σ with
 |nil=>intro b;rfl
 |cons x r a=>intro b;cases b<;>simp[ay,a]
def p4 (l:List AV):∀b,jL l b=l[b]?:=by
 induction l with
 |nil=>intro b;rfl
 |cons x r a=>intro b;cases b<;>simp[jL,a]
def LO (σ:List aj):∀b y,az σ b y=σ.set b y:=by
 induction σ with
 |nil=>intro b y;rfl
 |cons x r a=>intro b y;cases b<;>simp[az,a]
def DG (l:List AV):∀b y,bD l b y=l.set b y:=by
 induction l with
 |nil=>intro b y;rfl
 |cons x r a=>intro b y;cases b<;>simp[bD,a]
def jV (l:List AV):∀b,nth l b=l[b]?.getD .au:=by
 induction l with
 |nil=>intro b;rfl
 |cons x r a=>intro b;cases b<;>simp[nth,a]
def kc{σ:List aj}(ids:Nat->Nat) (I:Nat->Prop) (h:upto σ b u=some B):(ad σ ids I).own b u=some (B,ids b):=by
 unfold upto at h;simp only[ad];cases d:ay σ b with
 |none=>simp[d]at h
 |some e =>
  simp only[d]at h ⊢;cases f:e.st<;>simp only[f]at h ⊢<;>first
   |(by_cases a:e.cells.length=u
     .simp[a]at h;subst h;simp[a]
     .simp[a]at h)
   |simp at h
def oh{σ:List aj}(ids:Nat->Nat) (I:Nat->Prop) (h:dm σ b u=some B):(ad σ ids I).own b u=some (B,ids b):=by
 unfold dm at h;simp only[ad];cases d:ay σ b with
 |none=>simp[d]at h
 |some e =>
  simp only[d]at h ⊢;cases f:e.st<;>simp only[f]at h ⊢<;>first
   |(by_cases a:e.cells.length=u
     .simp[a]at h;subst h;simp[a]
     .simp[a]at h)
   |simp at h
def C8{σ:List aj}(h:upto σ b u=some B):dm σ b u=some B:=by
 unfold upto at h;unfold dm;cases a:ay σ b with
 |none=>simp[a]at h
 |some d =>
  simp only[a]at h ⊢;cases e:d.st<;>simp only[e]at h ⊢<;>first
   |exact h
   |simp at h
def qV{σ:List aj}(h:upto σ b u=some B):B.st.isMap=false:=by
 unfold upto at h;cases a:ay σ b with
 |none=>simp[a]at h
 |some e =>
  simp only[a]at h;cases d:e.st<;>simp only[d]at h<;>first
   |(split at h<;>simp at h;subst h;simp[d,c6.isMap])
   |simp at h
def tH{σ:List aj}{ids:Nat->Nat}{I:Nat->Prop}(h:(ad σ ids I).own b u=some (B,id)):ay σ b=some B/\id=ids b:=by
 simp only[ad]at h;cases a:ay σ b with
 |none=>simp[a]at h
 |some d =>
  simp only[a]at h;cases f:d.st<;>simp only[f]at h<;>first
   |(by_cases e:d.cells.length=u
     .simp[e]at h;obtain⟨rfl,rfl⟩:=h;exact⟨rfl,rfl⟩
     .simp[e]at h)
   |simp at h
variable{x:AV}{v:Value}
def VR.dr{C:Ctx}{H:Array Obj}(h:VR C H x v):VR C H (Ab.dr x) v:=by
 cases x with
 |ag=>unfold VR at h;unfold Ab.dr VR;exact⟨rfl,.inl ⟨rfl,none,h,ab⟩⟩
 |emp=>
  unfold VR at h;unfold Ab.dr VR;obtain⟨a,h⟩:=h;exact⟨rfl,.inl ⟨rfl,a,h,ab⟩⟩
 |aA nn l=>
  unfold VR at h;unfold Ab.dr VR;refine⟨h.1,?_⟩;rcases h.2 with Y | Y
  .obtain⟨h1,a,h2,_⟩:=Y; exact .inl ⟨h1,a,h2,ab⟩
  .exact .inr Y
 |_=>exact h
def bm.dr{C:Ctx}{H:Array Obj}:∀{l:List AV}{vs:List Value},bm C H l vs->bm C H (l.map Ab.dr) vs
 | [],_,h=>h
 |_::_,_,⟨v,s,e,Y,hr⟩=>⟨v,s,e,Y.dr,bm.dr hr⟩
def VR.wk{C:Ctx}{H:Array Obj}(h:VR C H x v):VR C H (Ab.wk x) v:=by
 cases x with
 |agg l=>unfold VR at h;obtain⟨Y,e,hl,hc⟩:=h;unfold Ab.wk VR;exact⟨Y,e,hl.dr,hc⟩
 |_=>exact VR.dr h
def bm.wk{C:Ctx}{H:Array Obj}:∀{l:List AV}{vs:List Value},bm C H l vs->bm C H (l.map Ab.wk) vs
 | [],_,h=>h
 |_::_,_,⟨v,s,e,Y,hr⟩=>⟨v,s,e,Y.wk,bm.wk hr⟩
def Nr(h:aB x=true):aB (dr x)=true:=by cases x<;>simp_all [dr,aB]
def DV:∀{l:List AV},aq l=true->aq (l.map dr)=true
 | [],_=>rfl
 |_::_,h=>by
  simp only[aq,aD,bC]at h ⊢;exact⟨Nr h.1,DV h.2⟩
end Ab
namespace Ab
open Go
def DW{b g:Type}{f:b->Option g}:∀{l:List b}{m:List g},aM f l=some m->m.length=l.length/\∀(i:Nat) (x:b),l[i]? = some x->∃y,m[i]? = some y/\f x=some y
 | [],m,h=>by
  simp[aM]at h;subst h;simp
 |x::r,m,h=>by
  unfold aM at h;cases a:f x with
  |none=>simp[a]at h
  |some y=>
   cases d:aM f r with
   |none=>simp[a,d]at h
   |some s=>
    simp[a,d]at h;subst h;obtain⟨j,n⟩:=DW d;refine⟨by simp[j],λi z e=>?_⟩
    cases i with
    |zero=>simp at e;subst e;exact⟨y,rfl,a⟩
    |succ i=>exact n i z gX
def Ns (k:Option Nat) (cs:List AV):∀(n:Nat),n*aC k<=cs.length->(∀m,k=some m->True)->(chunk k n cs).length=n:=by
 intro n
 induction n generalizing cs with
 |zero=>intros;simp[chunk]
 |succ n a=>
  intro h _;cases k with
  |none=>
   cases cs with
   |nil=>simp[aC]at h
   |cons x r=>simp only[chunk,eO];rw[a r (by simp[aC]at h ⊢;omega) (λ_ _=>trivial)]
  |some m=>
   simp only[chunk,eO];rw[a (cs.drop m) (by simp[aC]at h ⊢;rw[fa]at h;omega) (λ_ _=>trivial)]
def xG (k:Option Nat):∀(n:Nat) (cs:List AV),n*aC k<=cs.length->∀i,i<n->∃x,(chunk k n cs)[i]? = some x/\part cs (i*aC k) k=some x
 |0,_,_,i,d=>absurd d (Nat.not_lt_zero i)
 |n+1,cs,h,i,d=>by
  cases k with
  |none=>
   cases cs with
   |nil=>simp[aC]at h
   |cons x r=>
    cases i with
    |zero=>exact⟨x,by simp[chunk],by simp[part,aC,jL]⟩
    |succ i=>
     obtain⟨y,b,a⟩:=xG none n r (by simp[aC]at h ⊢;omega) i aa
     exact⟨y,by simpa[chunk]using b,by simpa[part,aC,jL]using a⟩
  |some m=>
   simp only[aC]at h;rw[fa]at h;cases i with
   |zero=>exact⟨.agg (cs.take m),by simp[chunk],by simp[part,aC];omega⟩
   |succ i=>
    obtain⟨y,b,a⟩:=xG (some m) n (cs.drop m) gY i aa
    refine⟨y,by simpa[chunk]using b,?_⟩
    simp only[part,aC,List.length_drop,List.drop_drop]at a ⊢;split at a
    .have e:(i+1)*m=m+i*m:=by rw[fa];omega
     have:m+i*m+m<=cs.length:=aa
     rw[<-a];simp only[e,this,cn]
    .simp at a
variable{off:Nat}{k:Option Nat}{x:AV}
def ub{C:Ctx}{H:Array Obj}{cs:List AV}{c:Array Value}
  (hc:∀(i:Nat) (x:AV),cs[i]? = some x->∃y,c[i]? = some y/\VR C H x y/\y.oneCell' = true) (h:part cs off k=some x) :
  ∃v,VR C H x v/\v.cells.size=aC k/\(∀j,j<aC k->c[off+j]? = v.cells[j]?)/\(k=none->v.cells = #[v])/\(k ≠ none->∃vs,v = .agg vs):=by
 cases k with
 |none=>
  simp only[part,p4]at h;obtain⟨y,h1,h2,h3⟩:=hc off x h;have h3:=rI h3;refine⟨y,h2,by simp[h3,aC],λj hj=>?_,λ_=>h3,λh=>absurd rfl h⟩
  simp only[aC]at hj;obtain rfl:j=0:=aa
  simp[h1,h3]
 |some n=>
  simp only[part]at h;split at h
  case isFalse=>simp at h
  rename_i hn;simp at h;subst h;have key:∀m,m<=n->∃vs:List Value,bm C H ((cs.drop off).take m) vs/\vs.length=m/\(∀y,y∈vs->y.oneCell' = true)/\∀j,j<m->c[off+j]? = vs[j]?:=by
   intro m
   induction m with
   |zero=>intro _;exact⟨[],by simp[bm],rfl,ab,λj hj=>absurd hj (Nat.not_lt_zero j)⟩
   |succ m ih=>
    intro hm;obtain⟨vs,h1,h2,h4,h3⟩:=ih aa
    have hx:∃x,cs[off+m]? = some x:=⟨cs[off+m],by rw[cG aa]⟩
    obtain⟨x,hx⟩:=hx;obtain⟨y,g1,g2,g3⟩:=hc (off+m) x hx;have ht:(cs.drop off).take (m+1)=(cs.drop off).take m ++ [x]:=by
     rw[eD];simp[hx]
    rw[ht];refine⟨vs ++ [y],h1.append ⟨y,[],rfl,g2,rfl⟩,by simp[h2],λz hz=>(cp.1 hz).elim (h4 z) (λhz=>by simp at hz;subst hz;exact g3),λj hj=>?_⟩
    rcases Nat.lt_or_ge j m with bP|KI
    .rw[h3 j bP,dG aa]
    .obtain rfl:j=m:=by omega
     rw[g1,<-h2];simp
  obtain⟨vs,h1,h2,h4,h3⟩:=key n (aY n);refine⟨.agg vs.toArray,by unfold VR;exact⟨vs,rfl,h1,h4⟩,by simp[Value.cells,h2,aC],λj hj=>?_,λh=>cy,λ_=>⟨_,rfl⟩⟩
  simp only[aC]at hj;rw[h3 j hj];simp[Value.cells]
def fF.of{C:Ctx}{H:Array Obj}{c:Array Value}{st:Nat}:∀{l:List AV}{off:Nat},
  (∀i x,l[i]? = some x->∃v,VR C H x v/\v.cells.size=st/\∀j,j<st->c[off+i*st+j]? = v.cells[j]?)->fF C H c st l off
 | [],_,_=>trivial
 |x::r,off,h=>by
  refine⟨by simpa using h 0 x rfl,fF.of λi y hi=>?_⟩
  obtain⟨v,Y,h2,h3⟩:=h (i+1) y (by simpa using hi)
  refine⟨v,Y,h2,λj hj=>?_⟩;rw[<-h3 j hj]
  congr 1
  rw[fa];omega
def fF.get{C:Ctx}{H:Array Obj}{c:Array Value}{st:Nat}:∀{l:List AV}{off:Nat},fF C H c st l off->
  ∀i x,l[i]? = some x->∃v,VR C H x v/\v.cells.size=st/\∀j,j<st->c[off+i*st+j]? = v.cells[j]?
 | [],_,_,i,x,hi=>by simp at hi
 |y::r,off,⟨Y,hr⟩,0,x,hi=>by simp at hi;subst hi;simpa using Y
 |y::r,off,⟨Y,hr⟩,i+1,x,hi=>by
  obtain⟨v,h1,h2,h3⟩:=fF.get hr i x (by simpa using hi)
  refine⟨v,h1,h2,λj hj=>?_⟩;rw[<-h3 j hj]
  congr 1
  rw[fa];omega
def xH{l:List AV}(h:∀x∈l,aB x=true):aq l=true:=by
 induction l with
 |nil=>rfl
 |cons x r a=>
  simp only[aq,aD];exact⟨h x ab,a λy b=>h y dS⟩
structure DX (fr:Bool) (C:Ctx) (C2:Ctx):Prop where
 aA:fr=false->∀k,C.I k->C2.I k
 own:∀k,owned C k->C2.I k
def qR{σ:List aj}{fr:Bool}{f:Nat}{C C2:Ctx}{H:Array Obj}
  (d:∀x y v,view σ fr f x=some y->VR C H x v->aB y=true/\VR C2 H y v) :
  ∀{l m:List AV} {vs:List Value},aM (view σ fr f) l=some m->bm C H l vs->aq m=true/\bm C2 H m vs
 | [],m,vs,h,g=>by simp[aM]at h;subst h;exact⟨rfl,g⟩
 |x::r,m,vs,h,⟨v,s,e,i,j⟩=>by
  unfold aM at h;cases a:view σ fr f x with
  |none=>simp[a]at h
  |some y=>
   cases b:aM (view σ fr f) r with
   |none=>simp[a,b]at h
   |some t=>
    simp[a,b]at h;subst h;obtain⟨n,o⟩:=d x y v a i;obtain⟨p,q⟩:=qR d b j;exact⟨by simp[aq,n,p],⟨v,s,e,o,q⟩⟩
variable{fr:Bool}{C2:Ctx}
def tw{σ:List aj}{C:Ctx}{w:World}(gk:∀b u B,C.lim b u->upto σ b u=some B->∃id,C.own b u=some (B,id)) (hg:Good C w) (hf:DX fr C C2) :
  ∀(f:Nat) (x y:AV) (v:Value),view σ fr f x=some y->VR C w.heap x v->aB y=true/\VR C2 w.heap y v:=by
 intro f
 induction f with
 |zero=>intro x y v h;simp[view]at h
 |succ f ih=>
  intro x y v h hv;cases x with
  |sl b u off len=>
   simp only[view]at h;cases hu:upto σ b u with
   |none=>simp[hu]at h
   |some B=>
    simp only[hu]at h;split at h
    case isFalse=>simp at h
    rename_i hle;cases hm:aM (view σ fr f) (chunk B.k len (B.cells.drop off))with
    |none=>simp[hm]at h
    |some l=>
     simp[hm]at h;subst h;unfold VR at hv;obtain⟨_,eB,hv⟩:=hv;obtain⟨id,ho⟩:=gk b u B eB hu;obtain⟨xI,Ci⟩:=DW hm;obtain⟨_,e1,e3,e4⟩:=hg.ij b u B _ ho;have hv:=hv B _ ho;have hlen:(chunk B.k len (B.cells.drop off)).length=len:=Ns _ _ _ ai (λ_ _=>trivial)
     cases hs:B.st with
     |dead=>exact absurd hs e4
     |map es=>have:=qV hu;rw[hs]at this;simp[c6.isMap]at this
     |fN=>
      simp only[hs]at hv;obtain⟨rfl,rfl,rfl⟩:=hv;have:l=[]:=by
       have:l.length=0:=by rw[xI,hlen]
       exact fY this
      subst this;exact⟨rfl,by unfold VR;exact⟨rfl,.inl ⟨rfl,none,rfl,ab⟩⟩⟩
     |live=>
      simp only[hs]at hv;obtain⟨c,el,o,cap,g1,rfl,g3,g4,g5⟩:=hv;obtain⟨n1,c', wO, n2,n3,n4⟩:=hg.live b u B _ ho hs;rw[g1]at n2;simp only[aS,jh]at n2;obtain⟨rfl,rfl,_⟩:=n2;have pz:∀i x,(B.cells.drop off)[i]? = some x->∃y,c[off+i]? = some y/\VR C w.heap x y/\y.oneCell' = true:=λi x hi=>by
       rw[jO]at hi;exact n4 (off+i) x hi
      have xJ:∀i y,l[i]? = some y->aB y=true/\∃v,VR C2 w.heap y v/\v.cells.size=aC B.k/\∀j,j<aC B.k->c[off+i*aC B.k+j]? = v.cells[j]?:=λi y hi=>by
       have Nt:i<len:=by
        have:=(cM.1 hi).1;omega
       obtain⟨z,z1,z2⟩:=xG B.k len (B.cells.drop off) ai i Nt
       obtain⟨y', y1,y2⟩:=Ci i z z1;rw[hi]at y1;simp at y1;subst y1;have hp:part B.cells (off+i*aC B.k) B.k=some z:=by
        cases hk:B.k with
        |none=>simp only[hk,part,p4,jO]at z2 ⊢;exact z2
        |some n=>
         simp only[hk,part,List.length_drop,List.drop_drop]at z2 ⊢;split at z2
         .rw[ah aa];exact z2
         .simp at z2
       obtain⟨val,p1,p2,p3,_⟩:=ub n4 hp;obtain⟨q1,q2⟩:=ih z y val y2 p1;exact⟨q1,val,q2,p2,p3⟩
      refine⟨rfl,?_⟩;unfold VR;refine⟨xH λx hx=>?_,.inr ⟨id,o,cap,aC B.k,c,el,(0,0),?_,aa,hf.own _ ⟨b,u,B,ho,gS hs⟩,g1,fF.of λi x hi=>?_⟩⟩
      .obtain⟨i,hi⟩:=List.getElem?_of_mem hx
       exact(xJ i x hi).1
      .rw[xI,hlen]
      .have ja :=(cM.1 hi).1
       obtain rfl:=g3 aa
       exact(xJ i x hi).2
  |ptr b u off=>
   simp only[view]at h;cases hu:upto σ b u with
   |none=>simp[hu]at h
   |some B=>
    simp only[hu]at h;split at h
    case isFalse=>simp at h
    rename_i hle;simp only[aD,bJ]at hle;cases hp:part B.cells 0 B.k with
    |none=>simp[hp]at h
    |some z=>
     cases hz:view σ fr f z with
     |none=>simp[hp,hz]at h
     |some z' =>
      simp[hp,hz]at h;subst h;unfold VR at hv;obtain⟨_,eB,hv⟩:=hv;obtain⟨id,ho⟩:=gk b u B eB hu;obtain⟨_,e1,e3,e4⟩:=hg.ij b u B _ ho;have hv:=hv B _ ho;have hs:B.st = .live:=by
       have:=hle.2
       revert this
       cases B.st<;>simp[c6.isLive]
      have hv:=hv hs;subst hv;obtain⟨n1,c,el,n2,n3,n4⟩:=hg.live b u B _ ho hs;obtain⟨val,p1,p2,p3,_⟩:=ub n4 hp;obtain⟨q1,q2⟩:=ih z z' val hz p1;obtain⟨⟨rfl,_⟩,_⟩:=hle;exact⟨rfl,by unfold VR;exact⟨q1,id,0,c,el,(0,0),val,rfl,hf.own _ ⟨b,u,B,ho,gS hs⟩,n2,q2,λj hj=>p3 j aa⟩⟩
  |agg l=>
   simp only[view]at h;cases hm:aM (view σ fr f) l with
   |none=>simp[hm]at h
   |some m=>
    simp[hm]at h;subst h;unfold VR at hv;obtain⟨vs,e,hl,hc⟩:=hv;obtain⟨h1,h2⟩:=qR ih hm hl;exact⟨by simpa[aB]using h1,by unfold VR;exact⟨vs,e,h2,hc⟩⟩
  |bz l=>simp[view]at h
  |func g l=>
   simp only[view]at h;cases hm:aM (view σ fr f) l with
   |none=>simp[hm]at h
   |some m=>
    simp[hm]at h;subst h;unfold VR at hv;obtain⟨vs,e,hl⟩:=hv;obtain⟨h1,h2⟩:=qR ih hm hl;exact⟨by simpa[aB]using h1,by unfold VR;exact⟨vs,e,h2⟩⟩
  |iface t z=>
   simp only[view]at h;cases hm:view σ fr f z with
   |none=>simp[hm]at h
   |some m=>
    simp[hm]at h;subst h;unfold VR at hv;obtain⟨val,e,hl⟩:=hv;obtain⟨h1,h2⟩:=ih z m val hm hl;exact⟨by simpa[aB]using h1,by unfold VR;exact⟨val,e,h2⟩⟩
  |aA nn l=>
   simp only[view]at h;cases fr with
   |true=>simp at h
   |false=>
    simp at h;subst h;refine⟨rfl,?_⟩;exact VR.dr (x:=.aA nn l) (VR.free ⟨hf.aA rfl,λ_ _=>rfl⟩ _ _ rfl hv)
  |ar z=>
   simp only[view]at h;cases fr with
   |true=>simp at h
   |false=>
    simp at h;subst h;exact⟨rfl,VR.free ⟨hf.aA rfl,λ_ _=>rfl⟩ _ _ rfl hv⟩
  |ag=>simp[view]at h;subst h;exact⟨rfl,VR.dr (x:=.ag) hv⟩
  |emp=>simp[view]at h;subst h;exact⟨rfl,VR.dr (x:=.emp) hv⟩
  |arr l=>simp[view]at h
  |au=>simp[view]at h
  |b8 b=>
   simp[view]at h;subst h;unfold VR at hv;obtain⟨⟨a,rfl⟩,_⟩:=hv;exact⟨rfl,rfl⟩
  |_=>simp[view]at h;subst h;exact⟨rfl,hv⟩
def Cx{σ:List aj}{C:Ctx}{w:World}(a:∀b u B,C.lim b u->upto σ b u=some B->∃id,C.own b u=some (B,id)) (g:Good C w) (i:DX fr C C2)
  {y:AV} {v:Value} (h:bu σ fr x=some y) (d:VR C w.heap x v):VR C2 w.heap y v:=by
 by_cases j:∃l,x = .bz l
 .obtain⟨l,rfl⟩:=j
  simp only[bu]at h;cases f:aM (view σ fr vd) l with
  |none=>simp[f]at h
  |some m=>
   simp[f]at h;subst h;unfold VR at d;obtain⟨n,e,o⟩:=d;unfold VR;exact⟨n,e,(qR (λx y v=>tw a g i vd x y v) f o).2⟩
 .have:bu σ fr x=view σ fr vd x:=by
   cases x<;>first|rfl|exact absurd ⟨_,rfl⟩ j
  rw[this]at h;exact(tw a g i vd x y v h d).2
def DY{C:Ctx}{H:Array Obj}{z:AV}{y:Value}(b:eG x) (h:VR C H x y) (d:part x.cells off k=some z) :
  ∃v,VR C H z v/\v.cells.size=aC k/\(∀j,j<aC k->y.cells[off+j]? = v.cells[j]?)/\(k=none->v.cells = #[v])/\(k ≠ none->∃vs,v = .agg vs):=by
 obtain⟨e,f⟩:=VR.cells b h;refine ub (λi g l=>?_) d;obtain⟨v,a,m⟩:=e.get i g l;refine⟨v,cV,m,f v (ke a)⟩
end Ab
namespace Ab
open Go
def aR (P:Program) (t:TypeId) (k:Option Nat):Bool:=
 match P.underlying t,P.info? t with
 |some d,some i=>match d,k with
  |.struct _,some n=>i.size==n
  |.array _ _,some n=>i.size==n
  |.struct _,none=>false
  |.array _ _,none=>false
  |_,none=>i.size==1
  |_,_=>false
 |_,_=>false
def bw (P:Program) (t:TypeId) (n:Nat):Bool:=
 match P.info? t with
 |some i=>i.size==n
 |none=>false
def aG (P:Program) (t:TypeId):Option TypeId:=
 match P.underlying t with
 |some (.slice e)=>some e
 |_=>none
def gl:Value->AV->Bool
 |.int .i64 n,.int m=>n==m
 |.int k n,.ik j m=>(match jy j with|some K=>decide (k=K)|none=>false)&&n==m
 |.bool a,.bool b=>a==b
 |.slice none 0 0,.ag=>true
 |.pointer none,.gV=>true
 |.map none,.tK=>true
 |.nilFunc,.gu=>true
 |.nilIface,.eP=>true
 |.string s,.str l=>s.data.toList==l
 |_,_=>false
def cK:List Value->List AV->Bool
 | [],[]=>true
 |v::vs,x::xs=>gl v x&&cK vs xs
 |_,_=>false
def eN (P:Program) (t:TypeId) (z:List AV):Bool:=
 match P.info? t with
 |some i=>match i.zero with
  |some v=>cK v.cells.toList z
  |none=>false
 |none=>false
def bK (P:Program) (t:TypeId):Bool:=
 match P.info? t with
 |some i=>match i.zero with
  |some v=>v.cells.size==i.size
  |none=>false
 |none=>false
def c8 (P:Program) (t:TypeId):Bool:=
 match P.info? t with
 |some i=>decide (i.bytes<=4096)
 |none=>false
def iR (f:Operand->Rf->Bool):List Operand->List Rf->Bool
 | [],[]=>true
 |x::xs,y::ys=>f x y&&iR f xs ys
 |_,_=>false
def pd:BinOp->tm->Bool
 |.add,.add | .add,.xk | .sub,.sub | .mul,.mul | .quo,.quo | .rem,.rem | .lss,.lss | .leq,.leq | .gtr,.gtr | .geq,.geq | .eql,.eql | .neq,.neq=>true
 |_,_=>false
def jW (f:Operand->Rf->Bool):Option Operand->Option Rf->Bool
 |none,none=>true
 |some x,some y=>f x y
 |_,_=>false
def dQ (f:Operand->Rf->Bool) (place:Nat->Option (Nat×Nat)):List (Nat×Operand)->List (Nat×Nat×Rf)->Bool
 | [],[]=>true
 |(i,x)::xs,(o,n,y)::ys=>(match place i with|some (a,b)=>a==o&&b==n|none=>false)&&f x y&&dQ f place xs ys
 |_,_=>false
def placesOf (P:Program):List Field->Option (List (Nat×Nat))
 | []=>some []
 |f::r=>match P.info? f.type,placesOf P r with
  |some i,some l=>some ((f.offset,i.size)::l)
  |_,_=>none
def dx:Nat->List (Nat×Operand)->Bool
 |_,[]=>true
 |k,(i,_)::r=>i==k&&dx (k+1) r
def fW:Operand->Bool
 |.const (.slice none 0 0)=>true
 |_=>false
def bU (P:Program) (f:Nat):Bool:=
 match P.funcs[f]? with
 |some fn=>fn.body.isSome && !(fn.name == "runtime.NumGoroutine")
 |none=>false
def p5 (o:BinOp) (neg:Bool):Bool:=
 match o with
 |.eql=>!neg
 |.neq=>neg
 |_=>false
def dq (P:Program):List Field->Nat->Bool
 | [],_=>true
 |f::r,o=>f.name != "_" && (match P.underlying f.type with|some (.int .i64)=>true|_=>false)&&aR P f.type none&&f.offset==o&&dq P r (o+1)
def rJ (P:Program) (t:TypeId) (n:Nat):Bool:=(match P.underlying t with
 |some (.struct a)=>a.size==n&&dq P a.toList 0
 |_=>false) && !P.stoodInHeld t && !P.eqGuardType P.depth t
def c9 (P:Program) (t:TypeId) (b:Nat):Bool:=match b,P.underlying t with
 |0,some (.int .i64)=>true
 |1,some .string=>true
 |n+2,some (.struct a)=>a.size==n&&dq P a.toList 0 && !P.stoodInHeld t
 |n+2,some (.array m e)=>m==n&&(match P.underlying e with|some (.int .i64)=>true|_=>false)&&aR P e none
 |_,_=>false
def j9 (P:Program) (t:TypeId) (z:AV):Bool:=match P.info? t with
 |some i=>match i.zero with
  |some v=>gl v z&&aB z
  |none=>false
 |none=>false
def iA (P:Program) (R:Operand->Rf->Bool):Op->bZ->Bool
 |.move x,.mv y=>R x y
 |.assign x,.mv y=>R x y
 |.assign x,.nl _=>fW x
 |.binOp o _ x y _,.bin O d r =>pd o O && R x d && R y r
 |.binOp o t x y _,.seq neg n d r =>p5 o neg&&rJ P t n&&R x d && R y r
 |.binOp o t x y _,.ma neg z=>p5 o neg&&(aG P t).isSome&&((fW y&&R x z)||(fW x&&R y z))
 |.unOp .not _ x,.not y=>R x y
 |.unOp .neg _ x,.bin .sub (.c (.int 0)) y=>R x y
 |.pick c a b,.pick D Q S =>R c D && R a Q && R b S
 |.call {callee:=.builtin .len,args,argTypes},.len y=>(match args.toList,argTypes.toList with
  | [x],[t]=>(aG P t).isSome&&R x y
  |_,_=>false)
 |.call {callee:=.builtin .max,args,..},.mx true d r =>(match args.toList with
  | [x,y]=>R x d && R y r
  |_=>false)
 |.call {callee:=.builtin .min,args,..},.mx false d r =>(match args.toList with
  | [x,y]=>R x d && R y r
  |_=>false)
 |.fieldAddr s x f,.nV y off k=>(match P.underlying s with
  |some (.struct E)=>(match E[f]? with
   |some F=>F.offset==off&&aR P F.type k && !bw P F.type 0
   |none=>false)
  |_=>false)&&R x y
 |.indexAddr t x i,.bW d u st=>(match aG P t with
  |some e=>bw P e st
  |none=>false)&&R x d && R i u
 |.indexAddr t x i,.ko d u n k=>(match P.underlying t with
  |some (.array m e)=>m==n&&aR P e k&&decide (2<=m)
  |_=>false)&&R x d && R i u
 |.nilCheck x,.vM y=>R x y
 |.box _ x,.cz y=>R x y
 |.box t x,.ti y k=>aR P t k&&R x y
 |.alloc t,.j8 z k=>eN P t z&&aR P t k
 |.alloc t,.eC n=>bw P t n&&(match P.info? t with|some i=>(match i.zero with|some v=>v.cells.size==n|none=>false)|none=>false)
 |.store t p x,.gv G d n=>bw P t n&&R p G && R x d
 |.store t p x,.st G d n=>bw P t n&&R p G && R x d
 |.load t x,.ld y k=>aR P t k&&R x y
 |.load t x,.bH y k=>aR P t k&&R x y
 |.build t q,.e9 z N=>eN P t z&&(match P.underlying t with
  |some (.struct E)=>(match placesOf P E.toList with|some l=>dQ R (λi=>l[i]?) q.toList N|none=>false)
  |some (.array _ e)=>(match P.info? e with|some i=>dQ R (λj=>some (j*i.size,i.size)) q.toList N|none=>false)
  |_=>false)
 |.index t x i,.idx d u n k=>(match P.underlying t with
  |some (.array m e)=>m==n&&aR P e k
  |_=>false)&&R x d && R i u
 |.extract x i,.ext y j=>i==j&&R x y
 |.makeFunc (.func f) fst w,.tS g h=>fst.isEmpty&&f==g&&iR R w.toList h
 |.buildSlice t n q,.cA h st=>(match aG P t with|some e=>bw P e st&&bK P e&&decide (n*st<=2^24)|none=>false)&&n==q.size&&dx 0 q.toList&&iR R (q.toList.map (·.2)) h
 |.buildSlice t n q,.bY h st=>(match aG P t with|some e=>bw P e st&&bK P e&&decide (n*st<=2^24)|none=>false)&&n==q.size&&dx 0 q.toList&&iR R (q.toList.map (·.2)) h
 |.buildSlice t n q,.je h k=>(match aG P t with|some e=>aR P e k&&bK P e&&decide (n*aC k<=2^24)|none=>false)&&n==q.size&&dx 0 q.toList&&iR R (q.toList.map (·.2)) h
 |.slice t x T U none,.l9 y H I st=>(match aG P t with|some e=>bw P e st|none=>false)&&R x y&&jW R T H && jW R U I
 |.makeSlice t l c,.kf V D z k=>(match aG P t with|some e=>aR P e k&&eN P e z&&c8 P e|none=>false)&&R l V && R c D
 |.call {callee:=.builtin .append,args,argTypes},.app J d k=>(match args.toList,argTypes.toList with
  | [s,x],[t,K]=>(match aG P t with|some e=>aR P e k&&c8 P e&&bK P e|none=>false)&&(aG P K).isSome&&R s J && R x d
  |_,_=>false)
 |.call {callee:=.builtin .append,args,argTypes},.bB J d k=>(match args.toList,argTypes.toList with
  | [s,x],[t,K]=>(match aG P t with|some e=>aR P e k&&c8 P e&&bK P e|none=>false)&&(aG P K).isSome&&R s J && R x d
  |_,_=>false)
 |.call {callee:=.value (.func f),args,..},.kG g h=>f==g&&bU P f&&iR R args.toList h
 |.call {callee:=.value (.func f),args,..},.nY g h=>f==g&&bU P f&&iR R args.toList h
 |.call {callee:=.value (.func f),args,..},.can g h=>f==g&&bU P f&&iR R args.toList h
 |.call {callee:=.value (.func f),args,..},.lF g h=>f==g&&bU P f&&iR R args.toList h
 |.call {callee:=.value x,args,..},.gP y h=>R x y&&iR R args.toList h
 |.call {callee:=.builtin .clear,args,argTypes},.oY y z k=>(match args.toList,argTypes.toList with
  | [x],[t]=>(match aG P t with|some e=>aR P e k&&eN P e z|none=>false)&&R x y
  |_,_=>false)
 |.makeMap _ none,.vG=>true
 |.lookup t x k ok,.tO d A B z L =>(match P.underlying t with
  |some (.map C e)=>c9 P C A&&j9 P e z
  |_=>false)&&ok==L && R x d && R k B
 |.call {callee:=.builtin .len,args,argTypes},.tk d =>(match args.toList,argTypes.toList with
  | [x],[t]=>(match P.underlying t with|some (.map _ _)=>true|_=>false)&&R x d
  |_,_=>false)
 |.mapUpdate t m k x,.qH M A B d =>(match P.underlying t with
  |some (.map C _)=>c9 P C A
  |_=>false)&&R m M && R k B && R x d
 |.insert t m k x,.qH M A B d =>(match P.underlying t with
  |some (.map C _)=>c9 P C A
  |_=>false)&&R m M && R k B && R x d
 |.buildSlice t n q,.mG st=>(match aG P t with|some e=>bw P e st&&bK P e|none=>false)&&n==0&&q.size==0
 |_,_=>false
def bZ.gW:bZ->Bool
 |.ma .. | .ld .. | .l9 .. | .can .. | .nY .. | .ti .. | .j8 .. | .kf .. | .je .. | .nl .. | .app .. | .st .. | .bB .. | .lF .. | .mU .. | .mV .. | .oY .. | .vG | .tO .. | .tk .. | .qH .. | .Cb .. | .sob .. | .ju ..=>false
 |_=>true
end Ab
namespace Ab
open Go
variable{P:Program}
variable{t:TypeId}
def gp{n:Nat}(h:bw P t n=true) (w:World):(Go.sizeOf t).run P w = .ok n w:=by
 unfold bw at h;cases a:P.info? t with
 |none=>simp[a]at h
 |some i=>
  simp[a]at h;rw[run_sizeOf w a];simp[Program.cellsOf,a,h]
variable{k:Option Nat}
def jf(h:aR P t k=true):bw P t (aC k)=true:=by
 unfold aR at h;unfold bw;cases a:P.underlying t with
 |none=>simp[a]at h
 |some d=>
  cases b:P.info? t with
  |none=>simp[a,b]at h
  |some i=>
   simp only[a,b]at h ⊢;cases d<;>cases k<;>simp_all [aC]
def pI(h:aR P t k=true) (w:World):(isAgg t).run P w = .ok k.isSome w:=by
 unfold aR at h;cases a:P.underlying t with
 |none=>simp[a]at h
 |some d=>
  cases b:P.info? t with
  |none=>simp[a,b]at h
  |some i=>
   simp only[a,b]at h;simp only[isAgg,aN,run_underlying a,aU];cases d<;>cases k<;>simp_all
def jd{e:TypeId}(h:aG P t=some e) (w:World):(underlying t).run P w = .ok (.slice e) w:=by
 unfold aG at h;cases a:P.underlying t with
 |none=>simp[a]at h
 |some d=>cases d<;>simp[a]at h;subst h;exact run_underlying a w
def DZ{w:World}(e:aR P t k=true){ay off:Nat}{c:Array Value}{el:TypeId}{g:Nat×Nat}{v:Value}
  (h:w.heap[ay]? = some (.cells c el g)) (f:v.cells.size=aC k) (l:∀j,j<aC k->c[off+j]? = v.cells[j]?) (m:k=none->v.cells = #[v]) (o:k ≠ none->∃vs,v = .agg vs) :
  (loadVar t ⟨ay,off,none⟩).run P w = .ok v w:=by
 have a:∀j,j<aC k->w.cell? ((⟨ay,off,none⟩:Addr).add j)=some (v.cells.getD j undef):=λj b=>by
  have:((⟨ay,off,none⟩:Addr).add j)=⟨ay,off+j,none⟩:=by
   unfold Addr.add;split
   .rename_i d;subst d;rfl
   .rfl
  rw[this];simp only[World.cell?,h];simp only[oj,cZ,dg];rw[l j b];have:j<v.cells.size:=aa
  simp[this]
 unfold loadVar;simp only[aN,pI e,aU];cases k with
 |none=>
  simp only[oj,cZ,dg];have d:=a 0 (by simp[aC])
  simp only[Addr.add,cn]at d;have p:=m rfl;rw[p]at d;simp at d;simp[load,Sem.run,d]
 |some n=>
  obtain⟨vs,rfl⟩:=o ab
  simp only[Option.isSome_some,cn,aN,gp (jf e),aU,aC];have q:=run_loadCells (P:=P) (w:=w) ⟨ay,off,none⟩ n (λj=>vs.getD j undef) (λj b=>a j b);rw[q];simp only[aU,aZ];simp only[Value.cells,aC]at f
  congr 2
  apply Array.ext
  .simp[f]
  .intro i u r
   have s:i<vs.size:=by simpa using r
   simp[s]
end Ab
namespace Ab
open Go
variable{P:Program}
variable{v:Value}
def Nu{P:Program}{s:Sem Value}{w:World}(h:s.run P w = .ok v w):(do pure (Next.value (<-s)):Sem Next).run P w = .ok (.value v) w:=by
 simp only[aN,h,aU,aZ]
def xa{C:Ctx}{H:Array Obj}{x:AV}(h:gl v x=true):VR C H x v:=by
 unfold gl at h;split at h<;>first
  |(simp at h;done)
  |skip
 .simp at h;subst h;unfold VR;rfl
 .rename_i k n j m
  cases a:jy j with
  |none=>simp[a]at h
  |some K=>
   simp[a]at h;obtain⟨rfl,rfl⟩:=h;unfold VR;exact⟨_,a,rfl⟩
 .simp at h;subst h;unfold VR;rfl
 .unfold VR;rfl
 .unfold VR;rfl
 .unfold VR;rfl
 .unfold VR;rfl
 .unfold VR;rfl
 .simp at h
  unfold VR;rw[<-h]
def D0{C:Ctx}{H:Array Obj}:∀{vs:List Value}{xs:List AV},cK vs xs=true->bm C H xs vs
 | [],[],_=>rfl
 |v::vs,x::xs,h=>by
  simp only[cK,aD]at h;exact⟨v,vs,rfl,xa h.1,D0 h.2⟩
 | [],_::_,h=>by simp[cK]at h
 |_::_,[],h=>by simp[cK]at h
def kl{C:Ctx}{H:Array Obj}{R:Operand->Rf->Bool}{ρ:Operand->Value}{r:Rf->AV}(a:∀x y,R x y=true->VR C H (r y) (ρ x)) :
  ∀{xs:List Operand} {ys:List Rf},iR R xs ys=true->bm C H (ys.map r) (xs.map ρ)
 | [],[],_=>rfl
 |x::xs,y::ys,h=>by
  simp only[iR,aD]at h;exact⟨ρ x,xs.map ρ,rfl,a _ _ h.1,kl a h.2⟩
 | [],_::_,h=>by simp[iR]at h
 |_::_,[],h=>by simp[iR]at h
def rK{n:Int}(h:mA n=true):IntKind.i64.wrap n=n:=by
 simp only[mA,aD,cO]at h;exact IntWalk.i64_in n ⟨aa,aa⟩
end Ab
namespace Ab
open Go
variable{P:Program}
section plain
variable{ρ:Operand->Value}{r:Rf->AV}{w:World}{C:Ctx}{H:Array Obj}{R:Operand->Rf->Bool}
def Plain (P:Program) (ρ:Operand->Value) (o:Oper) (w:World) (C:Ctx) (H:Array Obj) (x:AV):Prop:=
 ∃v,(execOp ρ o).run P w = .ok (.value v) w/\VR C H x v
variable{x:AV}
def eR{o:Oper}{s:Sem Value}{v:Value}(a:execOp ρ o=(do pure (Next.value (<-s)))) (h:s.run P w = .ok v w) (b:VR C H x v):Plain P ρ o w C H x:=
 ⟨v,by rw[a];exact Nu h,b⟩
def Nv (n:Int):IntKind.i64.wrap n=wr n:=by
 unfold wr;simp only[IntKind.wrap,IntKind.bits,IntKind.signed,Bool.true_and,cO,show(2:Int)^64=18446744073709551616 by decide,show(2:Int)^(64-1)=9223372036854775808 by decide]
 split<;>omega
def Nw{op:BinOp}{b:tm}{n m:Int}(hb:pd op b=true) (hx:bin b n m=some x) (t:TypeId) :
  ∃v,(binOp op t (.int .i64 n) (.int .i64 m)).run P w = .ok v w/\VR C H x v:=by
 unfold pd at hb;split at hb<;>simp only[bin]at hx
 case h_13=>simp at hb
 all_goals simp only[binOp,ne_eq,not_true_eq_false,dg,Op.intArith,Op.intCmp,Op.intDiv]
 case h_1=>split at hx<;>simp at hx;rename_i h;subst hx;exact⟨_,rfl,by unfold VR;rw[rK h]⟩
 case h_2=>simp at hx;subst hx;exact⟨_,rfl,by unfold VR;rw[Nv]⟩
 case h_3=>split at hx<;>simp at hx;rename_i h;subst hx;exact⟨_,rfl,by unfold VR;rw[rK h]⟩
 case h_4=>split at hx<;>simp at hx;rename_i h;subst hx;exact⟨_,rfl,by unfold VR;rw[rK h]⟩
 case h_5=>
  by_cases h0:m=0
  .simp[h0]at hx
  .simp[h0]at hx;obtain⟨h,rfl⟩:=hx
   simp only[h0,dg];exact⟨_,rfl,by unfold VR;rw[rK h]⟩
 case h_6=>
  by_cases h0:m=0
  .simp[h0]at hx
  .simp[h0]at hx;subst hx
   simp only[h0,dg];exact⟨_,rfl,by unfold VR;rfl⟩
 all_goals
  simp at hx;subst hx;refine⟨_,rfl,?_⟩;unfold VR
  first|rfl|(simp[bne])
end plain
end Ab
namespace Ab
open Go
variable{P:Program}
def rL{x:AV}(h:aB x=true):eG x:=by
 refine⟨?_,λl=>?_⟩<;>(intro e;subst e;simp[aB]at h)
section
variable{ρ:Operand->Value}{r:Rf->AV}{w:World}{C:Ctx}{R:Operand->Rf->Bool}{ce:CE}{σ:List aj}{nl:Nat}{ps:List bI}
def lR (b o n:Nat):(⟨b,o,none⟩:Addr).add n=⟨b,o+n,none⟩:=by
 unfold Addr.add;split
 .rename_i h;subst h;rfl
 .rfl
variable{v:Value}
def VR.bo{H:Array Obj}{n:Int}(h:VR C H (.int n) v):v = .int .i64 n:=h
def VR.ng{H:Array Obj}{n:Bool}(h:VR C H (.bool n) v):v = .bool n:=h
variable{o:Oper}{op:BinOp}{t': TypeId}{x:Operand}{x' y': Rf}{z:AV}{p:Option bI}
def L9{t: TypeId}{y:Operand}{b:tm}(i:o.op = .binOp op t x y t') (j:pd op b=true)
  (f:VR C w.heap (r x') (ρ x)) (g:VR C w.heap (r y') (ρ y)) (a:ev ce σ nl ps r (.bin b x' y')=some (z,p)):Plain P ρ o w C w.heap z/\p=none:=by
 simp only[ev]at a;cases d : r x' <;>simp only[d]at a<;>try(simp at a;done)
 cases e : r y' <;>simp only[e]at a<;>try(simp at a;done)
 rename_i n m;rw[d]at f;rw[e]at g;have f:=f.bo;have g:=g.bo;cases h:Ab.bin b n m with
 |none=>simp[h]at a
 |some A =>
  simp[h]at a;obtain⟨rfl,rfl⟩:=a;obtain⟨v,l,q⟩:=Nw (P:=P) (w:=w) (C:=C) (H:=w.heap) j h t;refine⟨eR (s:=do eqGuard op t x y (ρ x) (ρ y);binOp op t (ρ x) (ρ y)) (by simp only[execOp,i]) ?_ q,rfl⟩
  rw[f,g];have u:(eqGuard op t x y (.int .i64 n) (.int .i64 m)).run P w = .ok () w:=by
   unfold eqGuard;split<;>simp
  simp only[aN,u,aU,l]
def rh:∀{xs ys:List AV}{b:Bool},cu xs ys=some b->∃e f:List Int,xs=e.map .int/\ys=f.map .int/\e.length=f.length/\b=decide (e=f)
 | [],[],b,h=>by simp[cu]at h;subst h;exact⟨[],[],rfl,rfl,rfl,ab⟩
 |.int a::xs,.int c::ys,b,h=>by
  simp only[cu]at h;cases g:cu xs ys with
  |none=>rw[g]at h;simp at h
  |some d=>
   rw[g]at h;simp at h;obtain⟨e,f,i,j,l,m⟩:=rh g;refine⟨a::e,c::f,by rw[i];rfl,by rw[j];rfl,by simp[l],?_⟩
   rw[<-h,m,Bool.eq_iff_iff];simp
def pH{H:Array Obj}:∀{a:List Int}{vs:List Value},bm C H (a.map .int) vs->vs=a.map (Value.int .i64)
 | [],vs,h=>h
 |x::a,vs,h=>by
  obtain⟨v,s,rfl,b,d⟩:=h;rw[pH d,b.bo];rfl
def w7{d:Nat}{a b:List Int}{w:World}(r:a.length=b.length):∀{fs:List Field}{o:Nat},dq P fs o=true->o+fs.length=a.length->
  (Op.eqFields (d+1) (a.map (Value.int .i64)).toArray (b.map (Value.int .i64)).toArray fs).run P w = .ok (decide (a.drop o=b.drop o)) w
 | [],o,_,i=>by
  simp only[Op.eqFields,aZ];rw[kP (by simp at i;omega),kP (by simp at i;omega)]
  simp
 |f::fs,o,l,i=>by
  simp only[dq,aD,bJ,bne_iff_ne]at l;obtain⟨⟨⟨⟨s,m⟩,u⟩,x⟩,y⟩:=l;have z:P.underlying f.type=some (.int .i64):=by
   split at m
   .assumption
   .simp at m
  simp only[eO]at i;have n:o<a.length:=aa
  have p:o<b.length:=aa
  have q:∀(Z:List Int) (h:o<Z.length),(Go.part f.type (Z.map (Value.int .i64)).toArray f.offset).run P w = .ok (.int .i64 Z[o]) w:=λZ h=>by
   have A:(Z.map (Value.int .i64)).toArray[o]? = some (.int .i64 Z[o]):=by simp[h]
   simp only[Go.part,aN,pI u,oj,aU,cZ,dg,x,A,aZ]
  simp only[Op.eqFields,ah s,aN,q a n,q b p,aU,run_equalIn_int w d f.type .i64 .i64 _ _ z];have B:=w7 (d:=d) (w:=w) r y aa
  have g:(a.drop o=b.drop o)↔(a[o]=b[o]/\a.drop (o+1)=b.drop (o+1)):=by
   rw[kQ n,kQ p,List.cons.injEq]
  by_cases e:a[o]=b[o]
  .have j:decide (a.drop (o+1)=b.drop (o+1))=decide (a.drop o=b.drop o):=by
    rw[Bool.eq_iff_iff,decide_eq_true_iff,decide_eq_true_iff,g];exact⟨λh=>⟨e,h⟩,λh=>h.2⟩
   have C:(a[o]==b[o])=true:=gX
   simp only[C,Bool.not_true,cZ,dg,B,j]
  .have D : (a[o]==b[o])=false:=by simpa using e
   have j:decide (a.drop o=b.drop o)=false:=decide_eq_false λh=>e (g.1 h).1;simp only[D, Bool.not_false,cn,aZ,j]
variable{neg:Bool}{n:Nat}
def Ma{t: TypeId}{y:Operand}(ho:o.op = .binOp op t x y t')
  (bO:p5 op neg=true) (ht:rJ P t n=true)
  (hx:VR C w.heap (r x') (ρ x)) (hy:VR C w.heap (r y') (ρ y)) (he:ev ce σ nl ps r (.seq neg n x' y')=some (z,p)):Plain P ρ o w C w.heap z/\p=none:=by
 unfold rJ at ht;simp only[aD,Bool.not_eq_true']at ht;obtain⟨⟨KO,Nx⟩,ht3⟩:=ht;split at KO
 case h_2=>simp at KO
 rename_i fs hu;simp only[aD,bJ]at KO;obtain⟨hn,hi⟩:=KO;simp only[ev]at he;cases pG : r x' <;>simp only[pG]at he<;>try(simp at he;done)
 cases hy' : r y' <;>simp only[hy']at he<;>try(simp at he;done)
 rename_i xs ys;rw[pG]at hx;rw[hy']at hy;split at he
 case isFalse=>simp at he
 rename_i hxl;cases hb:cu xs ys with
 |none=>rw[hb]at he;simp at he
 |some b=>
  rw[hb]at he;simp at he;obtain⟨rfl,rfl⟩:=he;obtain⟨Xs,Ys,rfl,rfl,hl,rfl⟩:=rh hb;obtain⟨vs,ex,tN,_⟩:=hx;obtain⟨us,ey,xx,_⟩:=hy;rw[pH tN]at ex;rw[pH xx]at ey;have hfo:P.fieldsOf t=fs:=by unfold Program.fieldsOf;rw[hu]
  have kH:Xs.length=n:=by simpa using hxl
  refine⟨eR (s:=do eqGuard op t x y (ρ x) (ρ y);binOp op t (ρ x) (ρ y)) (v:=.bool ((decide (Xs=Ys)) != neg)) km ?_ (by unfold VR;rfl),rfl⟩
  rw[ex,ey];have hg:=run_eqGuard_agg w op t x y (Xs.map (Value.int .i64)).toArray (Ys.map (Value.int .i64)).toArray ht3;have hq:(Op.equalIn 10000 t (.agg (Xs.map (Value.int .i64)).toArray) (.agg (Ys.map (Value.int .i64)).toArray)).run P w = .ok (decide (Xs=Ys)) w:=by
   rw[show(10000:Nat)=9999+1 from rfl,run_equalIn_struct w 9999 t _ _ (by rw[hfo];exact hu) Nx,hfo]
   have:=w7 (P:=P) (d:=9998) (w:=w) hl (fs:=fs.toList) (o:=0) hi (by simp[kH,hn])
   simpa using this
  unfold p5 at bO;split at bO
  .simp only[aN,hg,aU,run_eql_struct,hq]
   simp at bO;subst bO;simp
  .simp only[aN,hg,aU,run_neq_struct,hq]
   subst bO;simp
  .simp at bO
variable{a:Act}
def wM(h:fW x=true) (b:ρ=a.eval):ρ x = .slice none 0 0:=by
 unfold fW at h;split at h
 .subst b;rfl
 .simp at h
def D1(g:∀b u B,C.lim b u->upto σ b u=some B->∃id,C.own b u=some (B,id))
  (e:VR C w.heap (r x') v) (d:ev ce σ nl ps r (.ma neg x')=some (z,p)):p=none/\∃n:Bool,z = .bool (n != neg)/\((n=true/\v = .slice none 0 0)\/(n=false/\∃a l c,v = .slice (some a) l c)):=by
 simp only[ev]at d;cases f : r x' <;>simp only[f]at d<;>try(simp at d;done)
 .simp at d;obtain⟨rfl,rfl⟩:=d
  rw[f]at e;exact⟨rfl,true,by cases neg<;>rfl,.inl ⟨rfl,e⟩⟩
 .rename_i j l
  have key:(z = .bool neg/\p=none)/\(j=true\/l ≠ []):=by
   cases j
   .cases l with
    |nil=>simp at d
    |cons a b=>simp at d;exact⟨⟨d.1.symm,d.2.symm⟩,.inr ab⟩
   .simp at d;exact⟨⟨d.1.symm,d.2.symm⟩,.inl rfl⟩
  obtain⟨⟨rfl,rfl⟩,s⟩:=key;rw[f]at e;unfold VR at e;refine⟨rfl,false,by cases neg<;>rfl,.inr ⟨rfl,?_⟩⟩
  rcases e.2 with⟨x,a,rfl,y⟩|⟨ay,off,cap,st,c,el,D,rfl,_⟩
  .rcases s with h|h
   .obtain⟨q,rfl⟩:=n9.1 (y h);exact⟨_,_,_,rfl⟩
   .exact absurd x h
  .exact⟨_,_,_,rfl⟩
 .rename_i b u off len
  cases i:upto σ b u with
  |none=>simp[i]at d
  |some B=>
   cases m:B.st<;>simp[i,m]at d;obtain⟨rfl,rfl⟩:=d;rw[f]at e;obtain⟨id,A⟩:=g b u B (tF e) i;unfold VR at e;have:=e.2.2 B id A;simp only[m]at this;obtain⟨c,el,o,cap,_,rfl,_⟩:=this;exact⟨rfl,false,by cases neg<;>rfl,.inr ⟨rfl,_,_,_,rfl⟩⟩
def C9{t: TypeId}{y:Operand}{m : Rf}(F:o.op = .binOp op t x y t') (g:ρ=a.eval)
  (bO:p5 op neg=true) (G:(aG P t).isSome=true) (i:∀b u B,C.lim b u->upto σ b u=some B->∃id,C.own b u=some (B,id))
  (j:(fW y=true/\VR C w.heap (r m) (ρ x))\/(fW x=true/\VR C w.heap (r m) (ρ y))) (E:ev ce σ nl ps r (.ma neg m)=some (z,p)):Plain P ρ o w C w.heap z/\p=none:=by
 obtain⟨e,q⟩:=n9.1 G;have H:=jd q w;have main:∀d f:Value,ρ x=d->ρ y=f->(∃n:Bool,z = .bool (n != neg)/\((d = .slice none 0 0/\((n=true/\f = .slice none 0 0)\/(n=false/\∃a l c,f = .slice (some a) l c)))\/
   (f = .slice none 0 0/\((n=true/\d = .slice none 0 0)\/(n=false/\∃a l c,d = .slice (some a) l c)))))->Plain P ρ o w C w.heap z:=by
  rintro d f I J ⟨n,rfl,h⟩;refine eR (s:=do eqGuard op t x y (ρ x) (ρ y);binOp op t (ρ x) (ρ y)) (v:=.bool (n != neg)) (by simp only[execOp,F]) ?_ (by unfold VR;rfl)
  rw[I,J];have K:(eqGuard op t x y d f).run P w = .ok () w:=by
   unfold eqGuard;rcases h with⟨rfl,⟨_,rfl⟩|⟨_,_,_,_,rfl⟩⟩|⟨rfl,⟨_,rfl⟩|⟨_,_,_,_,rfl⟩⟩<;>split<;>simp
  have L:(Op.equal t d f).run P w = .ok n w:=by
   unfold Op.equal Op.maxDepth Op.equalIn;rcases h with⟨rfl,⟨rfl,rfl⟩|⟨rfl,_,_,_,rfl⟩⟩|⟨rfl,⟨rfl,rfl⟩|⟨rfl,_,_,_,rfl⟩⟩<;>simp[aN,H,aU,aZ]
  have M:op = .eql/\neg=false\/op = .neq/\neg=true:=by
   unfold p5 at bO;split at bO
   .simp at bO;exact .inl ⟨rfl,bO⟩
   .exact .inr ⟨rfl,bO⟩
   .simp at bO
  rcases M with⟨rfl,rfl⟩|⟨rfl,rfl⟩ <;>
   rcases h with⟨rfl,⟨rfl,rfl⟩|⟨rfl,_,_,_,rfl⟩⟩|⟨rfl,⟨rfl,rfl⟩|⟨rfl,_,_,_,rfl⟩⟩ <;>
   simp[aN,K,aU,binOp,L,aZ]
 rcases j with⟨A,j⟩|⟨A,j⟩
 .obtain⟨rfl,n,D,h⟩:=D1 i j E
  exact⟨main _ _ rfl rfl ⟨n,D,.inr ⟨wM A g,h⟩⟩,rfl⟩
 .obtain⟨rfl,n,D,h⟩:=D1 i j E
  exact⟨main _ _ rfl rfl ⟨n,D,.inl ⟨wM A g,h⟩⟩,rfl⟩
variable{t:TypeId}{y:Rf}
def Mb(f:o.op = .unOp .not t x)
  (e:VR C w.heap (r y) (ρ x)) (a:ev ce σ nl ps r (.not y)=some (z,p)):Plain P ρ o w C w.heap z/\p=none:=by
 simp only[ev]at a;cases d : r y<;>simp only[d]at a<;>try(simp at a;done)
 rename_i b;rw[d]at e;simp at a;obtain⟨rfl,rfl⟩:=a;refine⟨eR (s:=Op.unary .not (ρ x)) (v:=.bool !b) (by simp only[execOp,f]) ?_ (by unfold VR;rfl),rfl⟩
 rw[e.ng];rfl
def Mc(e:o.op = .unOp .neg t x)
  (d:VR C w.heap (r y) (ρ x)) (f:r (.c (.int 0)) = .int 0) (a:ev ce σ nl ps r (.bin .sub (.c (.int 0)) y)=some (z,p)):Plain P ρ o w C w.heap z/\p=none:=by
 simp only[ev,f]at a;cases b : r y<;>simp only[b]at a<;>try(simp at a;done)
 rename_i n;rw[b]at d;simp only[bin]at a;split at a<;>simp at a
 rename_i h;obtain⟨rfl,rfl⟩:=a;refine⟨eR (s:=Op.unary .neg (ρ x)) (v:=.int .i64 (0-n)) (by simp only[execOp,e]) ?_ (by unfold VR;simp),rfl⟩
 rw[d.bo];simp only[Op.unary,Op.intArith,aZ,rK h]
def Md{c a b:Operand}{c' g h : Rf}(i:o.op = .pick c a b)
  (d:VR C w.heap (r c') (ρ c)) (j:VR C w.heap (r g) (ρ a)) (l:VR C w.heap (r h) (ρ b)) (e:ev ce σ nl ps r (.pick c' g h)=some (z,p)):Plain P ρ o w C w.heap z/\p=none:=by
 simp only[ev]at e;cases f : r c' <;>simp only[f]at e<;>try(simp at e;done)
 rename_i q;rw[f]at d;have d:=d.ng;cases q<;>simp at e<;>obtain⟨rfl,rfl⟩:=e
 .exact⟨⟨ρ b,by simp only[execOp,i,d,asBool,aN,aU,aZ];simp,l⟩,rfl⟩
 .exact⟨⟨ρ a,by simp only[execOp,i,d,asBool,aN,aU,aZ];simp,j⟩,rfl⟩
def xL{H:Array Obj}{x:AV}(d:VR C H x v) (h:x = .ag/\n=0\/(∃e l,x = .aA e l/\n=l.length)\/(∃b u o,x = .sl b u o n)):∃a c,v = .slice a n c:=by
 rcases h with⟨rfl,rfl⟩|⟨e,l,rfl,rfl⟩|⟨b,u,o,rfl⟩
 .exact⟨_,_,d⟩
 .unfold VR at d
  rcases d.2 with⟨rfl,_,h,_⟩|⟨_,_,_,_,_,_,_,h,_⟩
  .exact⟨_,_,h⟩
  .exact⟨_,_,h⟩
 .unfold VR at d
  obtain⟨⟨a,c,h,_⟩,_⟩:=d;exact⟨a,c,h⟩
variable{ca:Call}
def Me(s:o.op = .call ca) (A:ca.callee = .builtin .len) (B:ca.args.toList=[x]) (i:ca.argTypes.toList=[t])
  (D:(aG P t).isSome=true) (g:VR C w.heap (r y) (ρ x)) (d:ev ce σ nl ps r (.len y)=some (z,p)):Plain P ρ o w C w.heap z/\p=none:=by
 obtain⟨e,j⟩:=n9.1 D;have E:=jd j w;have key:∃n:Nat,z = .int n/\p=none/\∃a c,ρ x = .slice a n c:=by
  simp only[ev]at d;cases f : r y<;>simp only[f]at d<;>try(simp at d;done)
  .simp at d;obtain⟨rfl,rfl⟩:=d
   exact⟨0,rfl,rfl,xL (x:=.ag) (by rw[<-f];exact g) (.inl ⟨rfl,rfl⟩)⟩
  .simp at d;obtain⟨rfl,rfl⟩:=d
   rw[f]at g;unfold VR at g;obtain⟨F,g⟩:=g;exact⟨0,rfl,rfl,F,0,g⟩
  .rename_i q l
   simp at d;obtain⟨rfl,rfl⟩:=d;exact⟨l.length,rfl,rfl,xL (x:=.aA q l) (by rw[<-f];exact g) (.inr (.inl ⟨q,l,rfl,rfl⟩))⟩
  .rename_i b u off n
   simp at d;obtain⟨rfl,rfl⟩:=d;exact⟨n,rfl,rfl,xL (x:=.sl b u off n) (by rw[<-f];exact g) (.inr (.inr ⟨b,u,off,rfl⟩))⟩
 obtain⟨n,rfl,rfl,a,c,G⟩:=key;have m : ca.args = #[x]:=by rw[<-Array.toList_inj];simpa using B
 have h : ca.argTypes = #[t]:=by rw[<-Array.toList_inj];simpa using i
 refine⟨⟨.int .i64 n,?_,by unfold VR;rfl⟩,rfl⟩
 simp only[execOp,s,resolve,A,m, h, aN,aZ,aU,invoke,builtin,Builtin.len_];simp[G,aN,E,goInt]
def vL{y:Operand}{m:Bool}(j:o.op = .call ca) (l:ca.callee = .builtin (if m then .max else .min)) (n:ca.args.toList=[x,y])
  (e:VR C w.heap (r x') (ρ x)) (f:VR C w.heap (r y') (ρ y)) (d:ev ce σ nl ps r (.mx m x' y')=some (z,p)):Plain P ρ o w C w.heap z/\p=none:=by
 simp only[ev]at d;cases g : r x' <;>simp only[g]at d<;>try(simp at d;done)
 cases h : r y' <;>simp only[h]at d<;>try(simp at d;done)
 rename_i a b;rw[g]at e;rw[h]at f;have e:=e.bo;have f:=f.bo;simp at d;obtain⟨rfl,rfl⟩:=d;have i : ca.args = #[x,y]:=by rw[<-Array.toList_inj];simpa using n
 refine⟨⟨.int .i64 (if m then(if a<b then b else a)else(if b<a then b else a)),?_,by unfold VR;cases m<;>rfl⟩,rfl⟩
 cases m
 .simp only[execOp,j,resolve,l,i, aN,aZ,aU,invoke,builtin,Builtin.min_]
  simp[e,f,Builtin.min2]
 .simp only[execOp,j,resolve,l,i, aN,aZ,aU,invoke,builtin,Builtin.max_]
  simp[e,f,Builtin.max2]
def ud{H:Array Obj}{x:AV}(h:VR C H (.ar x) v) :
  aB x=true/\∃ay off c el a y,v = .pointer (some ⟨ay,off,none⟩)/\C.I ay/\H[ay]? = some (.cells c el a)/\VR C H x y/\∀j,j<y.cells.size->c[off+j]? = y.cells[j]?:=by
 unfold VR at h;exact h
variable{off:Nat}{k:Option Nat}
def Ny{cs:List AV}{x:AV}(h:aq cs=true) (d:part cs off k=some x):aB x=true:=by
 have b:∀y∈cs,aB y=true:=by
  clear d
  induction cs with
  |nil=>simp
  |cons a r f=>
   simp only[aq,aD]at h;intro y e;rcases bR.1 e with rfl|e
   .exact h.1
   .exact f h.2 y e
 cases k with
 |none=>simp only[part,p4]at d;exact b x (ke d)
 |some n=>
  simp only[part]at d;split at d<;>simp at d
  subst d;simp only[aB];exact xH λy e=>b y (List.mem_of_mem_drop (List.mem_of_mem_take e))
def Nz{x:AV}(h:aB x=true):aq x.cells=true:=by
 cases x<;>simp_all [AV.cells,aB,aq]
def D2{H:Array Obj}{x y:AV}{ay:Nat}{c:Array Value}{el:TypeId}{e:Nat×Nat}{val:Value}{d:Nat}(b:aB x=true) (g:C.I ay) (h:H[ay]? = some (.cells c el e))
  (f:VR C H x val) (i:∀j,j<val.cells.size->c[off+j]? = val.cells[j]?) (a:part x.cells d k=some y) :
  VR C H (.ar y) (.pointer (some ⟨ay,off+d,none⟩)):=by
 obtain⟨v,l,q,m,_⟩:=DY (rL b) f a;have o:=VR.size (rL b) f;have hle:d+aC k<=val.cells.size:=by
  rw[o];cases k with
  |none=>
   simp only[part,p4]at a;have:=(cM.1 a).1;simp[aC];omega
  |some n=>
   simp only[part]at a;split at a<;>simp at a
   simp[aC];omega
 unfold VR;refine⟨Ny (Nz b) a,ay,off+d,c,el,e,v,rfl,g,h,l,λj p =>?_⟩;rw[<-m j aa,<-i (d+j) aa,Nat.add_assoc]
variable{f:Nat}
def Mf{s:TypeId}{fs:Array Field}{fl:Field}(n:o.op = .fieldAddr s x f)
  (E:P.underlying s=some (.struct fs)) (F:fs[f]? = some fl) (i:fl.offset=off) (A:aR P fl.type k=true) (D:bw P fl.type 0=false)
  (j:VR C w.heap (r y) (ρ x)) (a:ev ce σ nl ps r (.nV y off k)=some (z,p)):Plain P ρ o w C w.heap z/\p=none:=by
 have l:aC k ≠ 0:=by
  intro h;have:=jf A;rw[h]at this;rw[this]at D;simp at D
 have d:∀ay b,ρ x = .pointer (some ⟨ay,b,none⟩)->(Instr.fieldAt s (ρ x) f).run P w = .ok (.pointer (some ⟨ay,b+off,none⟩)) w:=λay b e=>by
  rw[e];simp only[Instr.fieldAt,aN,run_underlying E,aU,F,Instr.sureAddr,aZ,fieldPlace,gp (jf A),ae l,i,lR]
 simp only[ev]at a;cases g : r y<;>simp only[g]at a<;>try(simp at a;done)
 .rename_i q
  rw[g]at j;cases m:part q.cells off k with
  |none=>simp[m]at a
  |some R =>
   simp[m]at a;obtain⟨rfl,rfl⟩:=a;obtain⟨G,ay,b,c,el,S,val,e,H,I,J,K⟩:=ud j;exact⟨eR (s:=Instr.fieldAt s (ρ x) f) (by simp only[execOp,n]) (d ay b e) (D2 G H I J K m),rfl⟩
 .rename_i b u L
  simp at a;obtain⟨rfl,rfl⟩:=a;rw[g]at j;unfold VR at j;obtain⟨⟨ay,e⟩,M,N⟩:=j;refine⟨eR (s:=Instr.fieldAt s (ρ x) f) (by simp only[execOp,n]) (d ay L e) ?_,rfl⟩
  unfold VR;refine⟨⟨ay,rfl⟩,M,λB id O Q=>?_⟩;have:=N B id O Q;rw[e]at this;simp at this;rw[this]
variable{l:List AV}
def NA{m : AV}(o:aR P t k=true) (f:VR C w.heap (.agg l) v) (a:part l off k=some m) :
  ∃cs d, v = .agg cs/\(Go.part t cs off).run P w = .ok d w/\VR C w.heap m d :=by
 have q :=a;have r:eG (AV.agg l):=⟨ab,ab⟩
 obtain⟨d, s,u,b,y,z⟩:=DY (x:=.agg l) r f a;unfold VR at f;obtain⟨A,e,g,_⟩:=f;refine⟨_,d, e,?_,s⟩;rw[e]at b;simp only[Go.part,aN,pI o,aU];cases k with
 |none=>
  simp only[oj,cZ,dg];have:=b 0 (by simp[aC])
  rw[y rfl]at this;simp[Value.cells]at this;simp[this]
 |some n=>
  obtain⟨us,rfl⟩:=z ab
  simp only[Option.isSome_some,cn,aN,gp (jf o),aU,aZ,aC]
  congr 2
  simp only[Value.cells,aC]at u b;apply Array.ext
  .simp
   have:off+n<=A.length:=by
    rcases Nat.eq_zero_or_pos n with p|p
    .subst p
     simp only[part]at a;split at a<;>simp at a
     rename_i hle;have hlen:=bm.length g;omega
    .have:=b (n-1) aa
     rw[iv (by omega:n-1<us.size)]at this
     have:=(eK.1 this).1;simp at this;omega
   omega
  .intro i B j
   have:=b i aa
   rw[iv j]at this;simp at this;simp;rw[cM]at this;obtain⟨h,D⟩:=this;exact D
variable{i:Operand}{e:TypeId}{i': Rf}
def Mk{m:Nat}(ho:o.op = .index t x i)
  (ht:P.underlying t=some (.array m e)) (hk:aR P e k=true)
  (hx:VR C w.heap (r x') (ρ x)) (hi:VR C w.heap (r i') (ρ i)) (he:ev ce σ nl ps r (.idx x' i' m k)=some (z,p)):Plain P ρ o w C w.heap z/\p=none:=by
 simp only[ev]at he;cases pG : r x' <;>simp only[pG]at he<;>try(simp at he;done)
 cases ja : r i' <;>simp only[ja]at he<;>try(simp at he;done)
 rename_i l j;split at he
 case isFalse=>simp at he
 rename_i hj;cases hp:part l (j.toNat*aC k) k with
 |none=>simp[hp]at he
 |some q' =>
  simp[hp]at he;obtain⟨rfl,rfl⟩:=he;rw[pG]at hx;rw[ja]at hi;have hi:=hi.bo;obtain⟨cs,v', e1,h1,h2⟩:=NA hk hx hp;refine⟨eR (s:=Instr.index t (ρ x) (ρ i)) (v:=v') km ?_ h2,rfl⟩
  rw[e1,hi];simp only[Instr.index,asIntOf,aN,aZ,aU,run_underlying ht,ah hj,gp (jf hk)];exact h1
def NB{H:Array Obj}{m:Bool}(h:VR C H (.aA m l) v){i:Nat}{x:AV}(b:l[i]? = some x) :
  aB x=true/\∃ay off cap st c el d val,v = .slice (some ⟨ay,off,none⟩) l.length cap/\C.I ay/\H[ay]? = some (.cells c el d)/\VR C H x val/\val.cells.size=st/\∀j,j<st->c[off+i*st+j]? = val.cells[j]?:=by
 unfold VR at h;obtain⟨n,h⟩:=h;have f:aB x=true:=by
  have:∀{l:List AV},aq l=true->∀y∈l,aB y=true:=by
   intro l
   induction l with
   |nil=>simp
   |cons a r o=>
    intro h y g;simp only[aq,aD]at h;rcases bR.1 g with rfl|g
    .exact h.1
    .exact o h.2 y g
  exact this n x (ke b)
 rcases h with⟨rfl,_⟩|⟨ay,off,cap,st,c,el,d,e,_,p,q,s⟩
 .simp at b
 .obtain⟨val,u,w,z⟩:=s.get i x b
  exact⟨f,ay,off,cap,st,c,el,d,val,e,p,q,u,w,z⟩
def Mg{st:Nat}(M:o.op = .indexAddr t x i)
  (Q:aG P t=some e) (J:bw P e st=true)
  (A:VR C w.heap (r x') (ρ x)) (g:VR C w.heap (r i') (ρ i)) (d:ev ce σ nl ps r (.bW x' i' st)=some (z,p)):Plain P ρ o w C w.heap z/\p=none:=by
 have h:∀ay off len cap (n:Int),ρ x = .slice (some ⟨ay,off,none⟩) len cap->ρ i = .int .i64 n->0<=n->n<len->(Instr.indexAt t (ρ x) (ρ i)).run P w = .ok (.pointer (some ⟨ay,off+n.toNat*st,none⟩)) w:=λay off len cap n q D K R=>by
  rw[q,D];simp only[Instr.indexAt,aN,asIntOf,aZ,aU,jd Q];simp only[K,R,and_self,cn,aN,gp J,aU,aZ,lR]
 simp only[ev]at d;cases m : r x' <;>simp only[m]at d<;>try(simp at d;done)
 .rename_i nn l
  cases f : r i' <;>simp only[f]at d<;>try(simp at d;done)
  rename_i n;rw[f]at g;have g:=g.bo;split at d<;>try(simp at d;done)
  rename_i H;rw[p4]at d;cases I:l[n.toNat]? with
  |none=>simp[I]at d
  |some y=>
   simp[I]at d;obtain⟨L,rfl,rfl⟩:=d;rw[m]at A;obtain⟨E,ay,off,cap,F, c,el,S,val,q,T,U,N,V,W⟩:=NB A I;have X:=(cM.1 I).1;have G : F = st:=by rw[<-V,VR.size (rL E) N,L]
   subst G;refine⟨eR (s:=Instr.indexAt t (ρ x) (ρ i)) (by simp only[execOp,M]) (h ay off l.length cap n q g H aa) ?_,rfl⟩
   unfold VR;exact⟨E,ay,off+n.toNat*F, c,el,S,val,rfl,T,U,N,λj Y =>W j aa⟩
 .rename_i b u off len
  cases f : r i' <;>simp only[f]at d<;>try(simp at d;done)
  rename_i n;rw[f]at g;have g:=g.bo;split at d<;>simp at d
  rename_i H;obtain⟨rfl,rfl⟩:=d;rw[m]at A;unfold VR at A;obtain⟨⟨a,cap,q,hc,Z⟩,K,h3⟩:=A;obtain⟨ay,rfl⟩:=Z aa
  refine⟨eR (s:=Instr.indexAt t (ρ x) (ρ i)) (by simp only[execOp,M]) (h ay off len cap n q g H.1 H.2) ?_,rfl⟩
  unfold VR;refine⟨⟨ay,rfl⟩,K,λB id hB hl=>?_⟩;have:=h3 B id hB;simp only[hl]at this;obtain⟨c,el,o', O, _,D,_⟩:=this;rw[q]at D;simp at D;rw[D.1.1]
def Mi(h:o.op = .nilCheck x) (g:VR C w.heap (r y) (ρ x)) (d:ev ce σ nl ps r (.vM y)=some (z,p)):Plain P ρ o w C w.heap z/\p=none:=by
 have key:z=r y/\p=none/\∃a,ρ x = .pointer (some a):=by
  simp only[ev]at d;cases f : r y<;>simp only[f]at d<;>try(simp at d;done)
  .simp at d
   rw[f]at g;obtain⟨_,ay,b,c,el,i,val,e,_⟩:=ud g;exact⟨d.1.symm,d.2.symm,_,e⟩
  .simp at d
   rw[f]at g;unfold VR at g;obtain⟨⟨ay,e⟩,_⟩:=g;exact⟨d.1.symm,d.2.symm,_,e⟩
 obtain⟨rfl,rfl,a,e⟩:=key;exact⟨⟨ρ x,by simp only[execOp,h,e,aZ],g⟩,rfl⟩
def Ml{i:Nat}(g:o.op = .extract x i) (d:VR C w.heap (r y) (ρ x)) (a:ev ce σ nl ps r (.ext y i)=some (z,p)):Plain P ρ o w C w.heap z/\p=none:=by
 simp only[ev]at a;cases b : r y<;>simp only[b]at a<;>try(simp at a;done)
 rename_i l;rw[p4]at a;cases f:l[i]? with
 |none=>simp[f]at a
 |some q=>
  simp[f]at a;obtain⟨rfl,rfl⟩:=a;rw[b]at d;unfold VR at d;obtain⟨n,e,h⟩:=d;obtain⟨v,j,m⟩:=h.get i q f;refine⟨eR (s:=Instr.extract (ρ x) i) (v:=v) (by simp only[execOp,g]) ?_ m,rfl⟩
  rw[e];simp[Instr.extract,j]
def Mm{fst a:Array Operand}{ys:List Rf}(d:o.op = .makeFunc (.func f) fst a) (e:fst.isEmpty=true)
  (g:bm C w.heap (ys.map r) (a.toList.map ρ)) (b:ev ce σ nl ps r (.tS f ys)=some (z,p)):Plain P ρ o w C w.heap z/\p=none:=by
 simp[ev]at b;obtain⟨rfl,rfl⟩:=b;have:fst = #[]:=gX
 refine⟨eR (s:=Instr.makeFunc (.func f) (fst.map ρ) (a.map ρ)) (v:=.func (.func f) #[] (a.toList.map ρ).toArray) (by simp only[execOp,d]) ?_ (by unfold VR;exact⟨_,rfl,g⟩),rfl⟩
 subst this;have:Array.map ρ a=(List.map ρ a.toList).toArray:=by rw[<-Array.toList_inj];simp
 simp[Instr.makeFunc,this]
def Mh(F:o.op = .indexAddr t x i)
  (G:P.underlying t=some (.array n e)) (H:aR P e k=true)
  (m:VR C w.heap (r x') (ρ x)) (f:VR C w.heap (r i') (ρ i)) (a:ev ce σ nl ps r (.ko x' i' n k)=some (z,p)):Plain P ρ o w C w.heap z/\p=none:=by
 have g:∀ay off (j:Int),ρ x = .pointer (some ⟨ay,off,none⟩)->ρ i = .int .i64 j->0<=j->j<n->(Instr.indexAt t (ρ x) (ρ i)).run P w = .ok (.pointer (some ⟨ay,off+j.toNat*aC k,none⟩)) w:=λay off j l I A J=>by
  rw[l,I];simp only[Instr.indexAt,aN,asIntOf,aZ,aU,run_underlying G,Instr.sureAddr];simp only[A,J,and_self,cn,aN,gp (jf H),aU,aZ,lR]
 simp only[ev]at a;cases h : r x' <;>simp only[h]at a<;>try(simp at a;done)
 .rename_i q
  cases d : r i' <;>simp only[d]at a<;>try(simp at a;done)
  rename_i j;rw[d]at f;have f:=f.bo;split at a<;>try(simp at a;done)
  rename_i y;cases D:part q.cells (j.toNat*aC k) k with
  |none=>simp[D]at a
  |some T =>
   simp[D]at a;obtain⟨rfl,rfl⟩:=a;rw[h]at m;obtain⟨E,ay,b,c,el,U,val,l,K,L,M,N⟩:=ud m;exact⟨eR (s:=Instr.indexAt t (ρ x) (ρ i)) (by simp only[execOp,F]) (g ay b j l f y.1 y.2) (D2 E K L M N D),rfl⟩
 .rename_i b u O
  cases d : r i' <;>simp only[d]at a<;>try(simp at a;done)
  rename_i j;rw[d]at f;have f:=f.bo;split at a<;>simp at a
  rename_i y;obtain⟨rfl,rfl⟩:=a;rw[h]at m;unfold VR at m;obtain⟨⟨ay,l⟩,A,Q⟩:=m;refine⟨eR (s:=Instr.indexAt t (ρ x) (ρ i)) (by simp only[execOp,F]) (g ay O j l f y.1 y.2) ?_,rfl⟩
  unfold VR;refine⟨⟨ay,rfl⟩,A,λB id R S=>?_⟩;have:=Q B id R S;rw[l]at this;simp at this;rw[this]
def C7(D:o.op = .load t x) (E:aR P t k=true)
  (u:VR C w.heap (r y) (ρ x)) (a:ev ce σ nl ps r (.bH y k)=some (z,p)):Plain P ρ o w C w.heap z/\p=none:=by
 simp only[ev]at a;cases d : r y<;>simp only[d]at a<;>try(simp at a;done)
 rename_i q;rw[d]at u;obtain⟨F,ay,b,c,el,K,val,e,L,G,f,H⟩:=ud u;have A:=rL F;have M:=VR.size A f;have key:z=q/\p=none/\q.cells.length=aC k/\(k=none->val.cells = #[val])/\(k ≠ none->∃B,val = .agg B):=by
  cases k with
  |none=>
   have g:∀l,q ≠ .agg l:=by intro l e;subst e;simp at a
   refine⟨?_,?_,?_,λ_=>rI (VR.leaf g A f),λh=>absurd rfl h⟩
   .cases q<;>first|exact absurd rfl (g _)|(simp at a;exact a.1.symm)
   .cases q<;>first|exact absurd rfl (g _)|(simp at a;exact a.2.symm)
   .cases q<;>first|exact absurd rfl (g _)|rfl
  |some n=>
   cases q<;>simp at a;obtain⟨I,rfl,rfl⟩:=a;refine⟨rfl,rfl,I,λh=>cy,λ_=>?_⟩
   unfold VR at f;obtain⟨B,e,_⟩:=f;exact⟨_,e⟩
 obtain⟨rfl,rfl,N,i,m⟩:=key;refine⟨eR (s:=Instr.loadAt t (ρ x)) (v:=val) (by simp only[execOp,D]) ?_ f,rfl⟩
 rw[e];simp only[Instr.loadAt,Instr.sureAddr,aN,aZ,aU];exact DZ E G aa (λj J =>H j aa) i m
def rf(m:o.op = .load t x) (n:aR P t k=true) (E:Good C w) (j:∀b u B,C.lim b u->upto σ b u=some B->∃id,C.own b u=some (B,id))
  (h:VR C w.heap (r y) (ρ x)) (a:ev ce σ nl ps r (.ld y k)=some (z,p)):Plain P ρ o w C w.heap z/\p=none:=by
 by_cases A:∃q,r y = .ar q
 .obtain⟨q,F⟩:=A
  refine C7 m n h (ce:=ce) (σ:=σ) (nl:=nl) (ps:=ps) ?_;rw[<-a];simp only[ev,F]
 .simp only[ev]at a
  cases d : r y<;>simp only[d]at a<;>try(simp at a;done)
  .exact absurd ⟨_,d⟩ A
  .rename_i b u G
   cases l:upto σ b u with
   |none=>simp[l]at a
   |some B=>
    simp only[l]at a;split at a<;>try(simp at a;done)
    rename_i f;cases g:part B.cells G k with
    |none=>simp[g]at a
    |some q=>
     simp[g]at a;obtain⟨rfl,rfl⟩:=a;rw[d]at h;obtain⟨id,i⟩:=j b u B (Nq h) l;unfold VR at h;obtain⟨⟨ay,e⟩,_,H⟩:=h;have D:B.st = .live:=by revert f;cases B.st<;>simp[c6.isLive]
     have I:=H B id i D;obtain⟨_,c,el,J,hle,K⟩:=E.live b u B id i D;obtain⟨v,L,M,N,O,Q⟩:=ub K g;refine⟨eR (s:=Instr.loadAt t (ρ x)) (v:=v) (by simp only[execOp,m]) ?_ L,rfl⟩
     rw[I];simp only[Instr.loadAt,Instr.sureAddr,aN,aZ,aU];exact DZ n J M N O Q
def od (cs new:List AV) (off:Nat) (h:off+new.length<=cs.length):(putAt cs off new).length=cs.length/\
  ∀j,(putAt cs off new)[j]? = if off<=j/\j<off+new.length then new[j-off]? else cs[j]?:=by
 unfold putAt;refine⟨ai,λj=>?_⟩
 by_cases a:j<off
 .rw[ae aa,fO,dG ai,List.getElem?_take_of_lt a]
 .by_cases b:j<off+new.length
  .rw[ah ⟨aa,b⟩,dG ai,fk ai]
   simp[Nat.min_eq_left (by omega:off<=cs.length)]
  .rw[ae aa,fk ai]
   simp[Nat.min_eq_left (by omega:off<=cs.length)]
   congr 1;omega
def bm.of{H:Array Obj}:∀{l:List AV}{vs:List Value},l.length=vs.length->(∀(i:Nat) x v,l[i]? = some x->vs[i]? = some v->VR C H x v)->bm C H l vs
 | [],[],_,_=>rfl
 | [],_::_,h,_=>by simp at h
 |_::_,[],h,_=>by simp at h
 |x::l,v::vs,h,Y=>⟨v,vs,rfl,Y 0 x v rfl rfl,bm.of ch λi y u h1 h2=>Y (i+1) y u (by simpa using h1) (by simpa using h2)⟩
def wH (off:Nat):∀(l:List Value) (k:Nat) (cs:Array Value) (i:Nat),off+k+l.length<=cs.size->
  ((l.zipIdx k).foldl (λcs (c,j)=>cs.setIfInBounds (off+j) c) cs).size=cs.size/\
  ((l.zipIdx k).foldl (λcs (c,j)=>cs.setIfInBounds (off+j) c) cs)[i]? = if off+k<=i/\i<off+k+l.length then l[i-(off+k)]? else cs[i]?
 | [],k,cs,i,_=>by simp;omega
 |c::l,k,cs,i,h=>by
  simp only[List.zipIdx_cons,List.foldl_cons];simp only[eO]at h;obtain⟨b,d⟩:=wH off l (k+1) (cs.setIfInBounds (off+k) c) i ai
  refine⟨by rw[b];simp,?_⟩
  rw[d];simp only[eO]
  by_cases e:i=off+k
  .subst e
   rw[ae aa,ah aa]
   simp[Array.getElem?_setIfInBounds];omega
  .by_cases a:off+(k+1)<=i/\i<off+(k+1)+l.length
   .rw[ah a,ah aa]
    have:i-(off+k)=(i-(off+(k+1)))+1:=aa
    rw[this];simp
   .rw[ae a,ae aa]
    rw[Array.getElem?_setIfInBounds];rw[ae aa]
end
end Ab
namespace Ab
open Go
variable{P:Program}
section
variable{ρ:Operand->Value}{r:Rf->AV}{w:World}{C:Ctx}{R:Operand->Rf->Bool}{ce:CE}{σ:List aj}{nl:Nat}{ps:List bI}
variable{x:AV}
def tA(h:aQ x=true):eG x:=by
 refine⟨?_,λl=>?_⟩<;>(intro e;subst e;simp[aQ]at h)
def dZ (C:Ctx) (H:Array Obj) (cs:List AV) (c:Array Value):Prop:=
 cs.length=c.size/\∀(i:Nat) x v,cs[i]? = some x->c[i]? = some v->VR C H x v/\v.oneCell' = true
variable{v:Value}
def dZ.put{H:Array Obj}{cs:List AV}{c:Array Value}{off:Nat}(h:dZ C H cs c) (hu:eG x) (hv:VR C H x v) (hb:off+x.cells.length<=cs.length) :
  dZ C H (putAt cs off x.cells) ((v.cells.zipIdx.foldl (λcs (c,j)=>cs.setIfInBounds (off+j) c) c)):=by
 obtain⟨h1,h2⟩:=od cs x.cells off hb;obtain⟨g1,g2⟩:=VR.cells hu hv;have hs:=VR.size hu hv;have hf:∀i,(v.cells.zipIdx.foldl (λcs (c,j)=>cs.setIfInBounds (off+j) c) c).size=c.size/\(v.cells.zipIdx.foldl (λcs (c,j)=>cs.setIfInBounds (off+j) c) c)[i]? = if off<=i/\i<off+v.cells.size then v.cells[i-off]? else c[i]?:=λi=>by
  have:=wH off v.cells.toList 0 c i (by rw[<-h.1];simp;omega)
  rw[<-Array.foldl_toList];simp only[Array.toList_zipIdx];simpa using this
 refine⟨by rw[h1,(hf 0).1];exact h.1,λi y u hi Y =>?_⟩
 rw[h2]at hi;rw[(hf i).2]at Y
 by_cases jQ:off<=i/\i<off+x.cells.length
 .rw[ah jQ]at hi
  rw[ah aa]at Y
  obtain⟨u', k1,k2⟩:=g1.get (i-off) y hi;rw[gQ]at k1;rw[k1]at Y;simp at Y; subst Y;exact⟨k2,g2 _ (by rw[n5];exact Array.mem_of_getElem? k1)⟩
 .rw[ae jQ]at hi
  rw[ae aa]at Y
  exact h.2 i y u hi Y
def xM{H:Array Obj}{place:Nat->Option (Nat×Nat)}(u:∀x y,R x y=true->VR C H (r y) (ρ x)):∀(xs:List (Nat×Operand)) (ys:List (Nat×Nat×Rf)) (cs d : List AV) (c:Array Value),
  dQ R place xs ys=true->dZ C H cs c->dY cs (ys.map λp=>(p.1,p.2.1,r p.2.2))=some d ->
  ∃c', Instr.fill place c (xs.map λ(i,x)=>(i,ρ x))=some c' /\dZ C H d c'
 | [],[],cs,d, c,_,l,h=>by simp[dY]at h;subst h;exact⟨c,rfl,l⟩
 |(i,x)::xs,(o,n,y)::ys,cs,d, c,j,l,h=>by
  simp only[dQ,aD]at j;obtain⟨⟨f,m⟩,q⟩:=j;have s:place i=some (o,n):=by
   split at f
   .rename_i a b e;simp at f;rw[e,f.1,f.2]
   .simp at f
  simp only[bC,dY]at h;split at h<;>try(simp at h;done)
  rename_i g;simp only[aD,bJ,cO]at g;obtain⟨⟨A,E⟩,B⟩:=g;have w:=tA B;have z:=u _ _ m;have D:=VR.size w z;simp only[bC,Instr.fill,s];rw[ae (by rw[D,A,<-l.1];simp;omega)]
  exact xM u xs ys _ d _ q (l.put w z aa) h
 | [],_::_,_,_,_,j,_,_=>by simp[dQ]at j
 |(_,_)::_,[],_,_,_,j,_,_=>by simp[dQ]at j
variable{t:TypeId}
def tC{z:List AV}(h:eN P t z=true) (w:World):∃v,(zeroValue t).run P w = .ok v w/\bm C w.heap z v.cells.toList/\(∀y,y∈v.cells.toList->y.oneCell' = true):=by
 unfold eN at h;cases b:P.info? t with
 |none=>simp[b]at h
 |some i=>
  simp only[b]at h;cases d:i.zero with
  |none=>simp[d]at h
  |some v=>
   simp only[d]at h;refine⟨v,?_,D0 h,?_⟩
   .simp only[zeroValue,aN,run_typeInfo w b,aU,d,aZ]
   .have:∀{a:List Value} {xs:List AV},cK a xs=true->∀y∈a,y.oneCell' = true:=by
     intro a
     induction a with
     |nil=>simp
     |cons v a f=>
      intro xs h y e;cases xs with
      |nil=>simp[cK]at h
      |cons x xs=>
       simp only[cK,aD]at h;rcases bR.1 e with rfl|e
       .have:=h.1
        unfold gl at this;split at this<;>first|rfl|(simp at this;done)
       .exact f h.2 y e
    exact this h
def D3{w:World}:∀{fs:List Field}{l:List (Nat×Nat)},placesOf P fs=some l->(fs.mapM λf=>do pure (f.offset,<-Go.sizeOf f.type):Sem (List (Nat×Nat))).run P w = .ok l w
 | [],l,h=>by simp[placesOf]at h;subst h;simp
 |f::r,l,h=>by
  simp only[placesOf]at h;cases a:P.info? f.type with
  |none=>simp[a]at h
  |some i=>
   cases b:placesOf P r with
   |none=>simp[a,b]at h
   |some e =>
    simp[a,b]at h;subst h;have d:(Go.sizeOf f.type).run P w = .ok i.size w:=gp (by simp[bw,a]) w
    simp only[List.mapM_cons,aN,d,aU,aZ,D3 b]
variable{o:Oper}{z:AV}{p:Option bI}
def Mj{xs:Array (Nat×Operand)}{B:List AV}{D:List (Nat×Nat×Rf)}(S:o.op = .build t xs) (V:eN P t B=true)
  (g:(match P.underlying t with
  |some (.struct F)=>(match placesOf P F.toList with|some l=>dQ R (λi=>l[i]?) xs.toList D|none=>false)
  |some (.array _ e)=>(match P.info? e with|some i=>dQ R (λj=>some (j*i.size,i.size)) xs.toList D|none=>false)
  |_=>false)=true)
  (T:∀x y,R x y=true->VR C w.heap (r y) (ρ x)) (G:ev ce σ nl ps r (.e9 B D)=some (z,p)):Plain P ρ o w C w.heap z/\p=none:=by
 simp only[ev]at G;cases H:dY B (D.map λp=>(p.1,p.2.1,r p.2.2))with
 |none=>simp[H]at G
 |some l=>
  simp[H]at G;obtain⟨rfl,rfl⟩:=G;obtain⟨v,I,J,W⟩:=tC (C:=C) V w;have E:dZ C w.heap B v.cells:=⟨by have:=bm.length J;simpa using this.symm,λi x u h q=>by
   obtain⟨u', L,X⟩:=J.get i x h;rw[gQ,q]at L;simp at L;subst L;exact⟨X,W _ (by rw[n5];exact Array.mem_of_getElem? q)⟩⟩
  have fin:∀b : Array Value,dZ C w.heap l b ->VR C w.heap (.agg l) (.agg b):=λb K=>by
   unfold VR;refine⟨b.toList,ab,bm.of (by simp[K.1]) (λi x u I J=>(K.2 i x u I (by simpa using J)).1),λy Y=>?_⟩
   obtain⟨i,h⟩:=List.getElem?_of_mem Y;have M:i<l.length:=by
    rw[K.1];have:=(cM.1 h).1;simpa using this
   exact(K.2 i l[i] y (by simp[M]) ch).2
  have U:(xs.map λ(i,x)=>(i,ρ x)).toList=xs.toList.map λ(i,x)=>(i,ρ x):=ab
  cases q:P.underlying t with
  |none=>simp[q]at g
  |some d=>
   cases d<;>simp only[q]at g<;>try(simp at g;done)
   .rename_i n e
    cases h:P.info? e with
    |none=>simp[h]at g
    |some i=>
     simp only[h]at g;obtain⟨b, N,O⟩:=xM T xs.toList D B l v.cells g E H;refine⟨eR (s:=Instr.build t (xs.map λ(i,x)=>(i,ρ x))) (v:=.agg b) (by simp only[execOp,S]) ?_ (fin b O),rfl⟩
     have Z:(Go.sizeOf e).run P w = .ok i.size w:=gp (by simp[bw,h]) w
     simp only[Instr.build,aN,I,run_underlying q,aU,Z,U,N,aZ]
   .rename_i F
    cases A:placesOf P F.toList with
    |none=>simp[A]at g
    |some pl=>
     simp only[A]at g;obtain⟨b, N,O⟩:=xM T xs.toList D B l v.cells g E H;refine⟨eR (s:=Instr.build t (xs.map λ(i,x)=>(i,ρ x))) (v:=.agg b) (by simp only[execOp,S]) ?_ (fin b O),rfl⟩
     have Q:(F.mapM λf=>do pure (f.offset,<-Go.sizeOf f.type):Sem (Array (Nat×Nat))).run P w = .ok pl.toArray w:=by
      rw[Array.mapM_eq_mapM_toList];have hr:=D3 (w:=w) A;have Q:∀m:Sem (List (Nat×Nat)),(List.toArray <$> m).run P w=(m >>= λa=>pure a.toArray).run P w:=λ_=>rfl;rw[Q,aN,hr];simp
     simp only[Instr.build,aN,I,run_underlying q,aU,Q,U];have:(λi:Nat=>pl.toArray[i]?)=λi:Nat=>pl[i]?:=by funext i;simp
     simp only[this,N,aZ]
variable{e:TypeId}{st:Nat}
def xN{b d:Option Value}(m:aG P t=some e) (f:bw P e st=true){a:Option Addr}{len cap l h:Nat}(n:v = .slice a len cap)
  (o:b=none/\l=0\/b=some (.int .i64 l)) (p:d=none/\h=len\/d=some (.int .i64 h)) (q:l<=h) (g:h<=len) (i:len<=cap) :
  (Instr.sliceAt t v b d none).run P w = .ok (.slice (if cap=l then a else a.map (·.add (l*st))) (h-l) (cap-l)) w:=by
 subst n;have j:=jd m w;have r:=gp f w;have s:(Instr.sliceBounds true len cap b d none).run P w = .ok (l,h,cap) w:=by
  have u:((0:Int)<=h/\(h:Int)<=cap):=aa
  have x:((0:Int)<=l/\(l:Int)<=h):=aa
  rcases o with⟨rfl,rfl⟩|rfl<;>rcases p with⟨rfl,rfl⟩|rfl <;>
   simp[Instr.sliceBounds,Instr.sliceBound,asIntOf,u,x,q,g,i,Nat.le_trans g i,aN,aU]
 have y:(Instr.sliceAt t (.slice a len cap) b d none).run P w=(Instr.slice t (.slice a len cap) b d none).run P w:=by
  simp only[Instr.sliceAt,aN,j,aU]
 rw[y];simp only[Instr.slice,aN,j,aU,s,r,aZ]
def NC{l:List AV}{a b:Nat}(h:aq l=true):aq ((l.drop a).take b)=true:=by
 have:∀{l:List AV},aq l=true->∀y∈l,aB y=true:=by
  intro l
  induction l with
  |nil=>simp
  |cons a r e=>
   intro h y d;simp only[aq,aD]at h;rcases bR.1 d with rfl|d
   .exact h.1
   .exact e h.2 y d
 exact xH λy d=>this h y (List.mem_of_mem_drop (List.mem_of_mem_take d))
variable{lo:Option Operand}{rM: Option Rf}
def ND{n:Int}(h:jW R lo rM = true) (d:∀x y,R x y=true->VR C w.heap (r y) (ρ x))
  (a:ow r rM = some n):lo.map ρ=none/\n=0\/lo.map ρ=some (.int .i64 n):=by
 cases lo with
 |none=>
  cases rM with
  |none=>simp[ow,ox]at a;exact .inl ⟨rfl,a.symm⟩
  |some y=>simp[jW]at h
 |some q=>
  cases rM with
  |none=>simp[jW]at h
  |some y=>
   simp only[jW]at h;have:=d _ _ h;right;simp only[ow,ox]at a;cases b:r y<;>simp[b]at a
   subst a;rw[b]at this;simp[this.bo]
def NF{n:Option Int}(h:jW R lo rM = true) (d:∀x y,R x y=true->VR C w.heap (r y) (ρ x))
  (a:ox r rM = some n):(lo.map ρ=none/\n=none)\/∃m,n=some m/\lo.map ρ=some (.int .i64 m):=by
 cases lo with
 |none=>
  cases rM with
  |none=>simp[ow,ox]at a;exact .inl ⟨rfl,a.symm⟩
  |some y=>simp[jW]at h
 |some q=>
  cases rM with
  |none=>simp[jW]at h
  |some y=>
   simp only[jW]at h;have:=d _ _ h;right;simp only[ow,ox]at a;cases b:r y<;>simp[b]at a
   subst a;rw[b]at this;exact⟨_,rfl,by simp[this.bo]⟩
def Da{x:Operand}{J:Option Operand}{y:Rf}{f: Option Rf}(ho:o.op = .slice t x lo J none)
  (Z:aG P t=some e) (M:bw P e st=true) (gk:∀b u B,C.lim b u->upto σ b u=some B->∃id,C.own b u=some (B,id)) (G:VR C w.heap (r y) (ρ x)) (hlo:jW R lo rM = true) (hhi:jW R J f = true)
  (hR:∀x y,R x y=true->VR C w.heap (r y) (ρ x)) (g:ev ce σ nl ps r (.l9 y rM f st)=some (z,p)):Plain P ρ o w C w.heap z/\p=none:=by
 simp only[ev]at g;have fin:∀z v,(Instr.sliceAt t (ρ x) (lo.map ρ) (J.map ρ) none).run P w = .ok v w->VR C w.heap z v->Plain P ρ o w C w.heap z:=λz v d h2=>
  eR (s:=Instr.sliceAt t (ρ x) (lo.map ρ) (J.map ρ) ((none:Option Operand).map ρ)) (v:=v) km d h2
 cases U:ow r rM with
 |none=>simp[U]at g
 |some a=>
  cases hb:ox r f with
  |none=>simp[U,hb]at g
  |some b=>
   simp only[U,hb]at g;have el:=ND hlo hR U;have eh:=NF hhi hR hb;cases N : r y<;>simp only[N]at g<;>try(simp at g;done)
   .rename_i nn l
    split at g<;>simp at g;rename_i K;obtain⟨rfl,rfl⟩:=g;rw[N]at G;refine⟨?_,rfl⟩
    -- bounds as natural numbers
    obtain⟨A,rfl⟩:=dz K.1.1;obtain⟨B,H⟩:=dz (by omega:0<=b.getD l.length)
    rw[H]at K ⊢;have V:J.map ρ=none/\B=l.length\/J.map ρ=some (.int .i64 B):=by
     rcases eh with⟨d,rfl⟩|⟨m,rfl,d⟩
     .left;simp at H;exact⟨d,aa⟩
     .right;simp at H;rw[d,H]
    have W:lo.map ρ=none/\A=0\/lo.map ρ=some (.int .i64 A):=by
     rcases el with⟨d,h2⟩|d
     .exact .inl ⟨d,aa⟩
     .exact .inr d
    simp only[kg];have hx0:=G;unfold VR at G;obtain⟨hn,G⟩:=G;have hlen:((l.drop A).take (B-A)).length=B-A:=ai
    rcases G with⟨rfl,a0,O,hnn⟩|⟨ay,off,cap,Q, c,D, fz,O,E,hI,hH,hl⟩
    .simp at K
     obtain rfl:B=0:=aa
     obtain rfl:A=0:=aa
     have:=xN (w:=w) Z M O W V aa ab (aY 0)
     refine fin _ _ this ?_;unfold VR;exact⟨rfl,.inl ⟨ab,a0,ab,ab⟩⟩
    .have:=xN (w:=w) Z M O W V aa aa E
     refine fin _ _ this ?_;unfold VR;refine⟨NC hn,.inr ?_⟩
     by_cases n:cap=A
     .refine⟨ay,off,cap-A,Q, c,D, fz,by rw[ah n,hlen],by rw[hlen];omega,hI,hH,?_⟩
      have:(l.drop A).take (B-A)=[]:=by rw[show B-A=0 by omega];simp
      rw[this];trivial
     .refine⟨ay,off+A*st,cap-A,Q, c,D, fz,by rw[ae n,hlen];simp[lR],by rw[hlen];omega,hI,hH,?_⟩
      refine fF.of λi u f =>?_;have L : l[A+i]? = some u:=by
       have h0:=(cM.1 f).1;rw[List.getElem?_take_of_lt aa,jO]at f
       exact f
      obtain⟨v,X,S,g3⟩:=hl.get (A+i) u L;have T : Q = st:=by
       have hf:=K.2;cases l with
       |nil=>simp at L
       |cons x0 r0=>
        simp only[dy,bJ]at hf;obtain⟨v0,k1,k2,_⟩:=hl.get 0 x0 rfl;have:aB x0=true:=by simp only[aq,aD]at hn;exact hn.1
        rw[<-k2,VR.size (rL this) k1,hf]
      subst T;refine⟨v,X,S,λj hj=>?_⟩;rw[<-g3 j hj,fa]
      congr 1;omega
   .rename_i b' u off len
    cases F : upto σ b' u with
    |none=>simp[F]at g
    |some B0=>
    simp only[F]at g;rw[N]at G;obtain⟨id0,hB0⟩:=gk b' u B0 (tF G) F;split at g<;>simp at g
    rename_i K;obtain⟨rfl,rfl⟩:=g;refine⟨?_,rfl⟩;obtain⟨A,rfl⟩:=dz K.1.1;obtain⟨B,H⟩:=dz (by omega:0<=b.getD len)
    rw[H]at K ⊢;have V:J.map ρ=none/\B=len\/J.map ρ=some (.int .i64 B):=by
     rcases eh with⟨d,rfl⟩|⟨m,rfl,d⟩
     .left;simp at H;exact⟨d,aa⟩
     .right;simp at H;rw[d,H]
    have W:lo.map ρ=none/\A=0\/lo.map ρ=some (.int .i64 A):=by
     rcases el with⟨d,h2⟩|d
     .exact .inl ⟨d,aa⟩
     .exact .inr d
    simp only[kg];unfold VR at G;obtain⟨⟨q,cap,O,E,hq⟩,d,h3⟩:=G;have:=xN (w:=w) Z M O W V aa aa E
    refine fin _ _ this ?_;unfold VR;refine⟨⟨_,_,rfl,aa,λbP=>?_⟩,d,λB' id I =>?_⟩
    .obtain⟨ay,rfl⟩:=hq aa
     exact⟨ay,by rw[ae aa];simp[lR]⟩
    .have Y:=h3 B' id I
     cases hs:B'.st with
     |dead=>trivial
     |map es=>trivial
     |fN=>
      simp only[hs]at Y;obtain⟨rfl,rfl,e4⟩:=Y;rw[O]at e4;simp at e4;obtain⟨rfl,rfl⟩:=e4;obtain rfl:B=0:=aa
      obtain rfl:A=0:=aa
      simp
     |live=>
      simp only[hs]at Y;obtain⟨c,D, o', abe, X,S,g3,g4,g5⟩:=Y;rw[O]at S;simp at S;obtain⟨rfl,rfl⟩:=S;rw[hB0]at I;simp at I;obtain⟨rfl,rfl⟩:=I;have hk:=K.2;rw[hk]at g5 ⊢;have hmul:A*st+(cap-A)*st=cap*st:=by rw[<-Nat.add_mul,Nat.add_sub_cancel' aa]
      by_cases n:cap=A
      .refine⟨c,D, o', 0,X,by rw[ah n,show cap-A=0 by omega],λh=>absurd h (Nat.lt_irrefl 0),aa,?_⟩
       subst n;simpa using g5
      .refine⟨c,D, off+A*st,cap-A,X,?_,λ_=>rfl,aa,?_⟩
       .rw[ae n]
        obtain rfl:=g3 aa
        simp[lR]
       .omega
end
end Ab
