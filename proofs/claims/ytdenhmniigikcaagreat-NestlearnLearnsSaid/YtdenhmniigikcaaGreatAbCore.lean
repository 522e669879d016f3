/- An abstract interpreter of a small language of straight-line regions, loops and calls, over immutable trees and owned blocks: its definitions. Condition: none. -/
set_option linter.all false
open Option renaming some->aa,none->ab
open Bool renaming true->ad,false->ae
open List renaming replicate->ag,length->ah
namespace Ab
def ax{p:Prop}(h:p:=by omega):p:=h
def aA{p:Prop}(h:p:=by simp):p:=h
def aR{p:Prop}(h:p:=by dsimp only;omega):p:=h
def aT{p:Prop}(h:p:=by simp;omega):p:=h
def bS{p:Prop}(h:p:=by simp[fj]):p:=h
def cp{p:Prop}(h:p:=by decide):p:=h
def du{p:Prop}(h:p:=by simpa using h):p:=h
def fk{p:Prop}(h:p:=by rw[e]):p:=h
def fE{p:Prop}(h:p:=by simp at h):p:=h
def gf{p:Prop}(h:p:=by simp[a]):p:=h
def eS{p:Prop}(h:p:=by simp[aI,aQ]at h):p:=h
def fS{p:Prop}(h:p:=by simp[b]):p:=h
def fW{p:Prop}(h:p:=by rw[e];rfl):p:=h
def fX{p:Prop}(h:p:=by simp[e]):p:=h
def iy{p:Prop}(h:p:=by unfold VR;rfl):p:=h
def iB{p:Prop}(h:p:=by split<;>rfl):p:=h
def iQ{p:Prop}(h:p:=by simpa using a):p:=h
def iT{p:Prop}(h:p:=by simpa using e):p:=h
def iU{p:Prop}(h:p:=by simp[d]):p:=h
def jC{p:Prop}(h:p:=by simp[g]):p:=h
def jE{p:Prop}(h:p:=by assumption):p:=h
def jG{p:Prop}(h:p:=by simp only[cV,bM,cT,eX];try omega):p:=h
def jH{p:Prop}(h:p:=by simp[Df]):p:=h
def kj{p:Prop}(h:p:=by simpa using hn):p:=h
def lf{p:Prop}(h:p:=by funext q;split<;>simp_all):p:=h
def mC{p:Prop}(h:p:=by simp only[execOp,ho]):p:=h
def mE{p:Prop}(h:p:=by simpa using hv):p:=h
def ox{p:Prop}(h:p:=by simpa using hi):p:=h
def oE{p:Prop}(h:p:=by simp[Go.MapKept.IsKey]):p:=h
def oG{p:Prop}(h:p:=by simp[u];omega):p:=h
def oH{p:Prop}(h:p:=by unfold VR;exact⟨[],rfl,rfl⟩):p:=h
def oI{p:Prop}(h:p:=by simp[want,rv,a]):p:=h
def oJ{p:Prop}(h:p:=by simp[List.map_set]):p:=h
def oL{p:Prop}(h:p:=by simp[idxs];omega):p:=h
def qt{p:Prop}(h:p:=by rw[kW];congr 1;omega):p:=h
def sI{p:Prop}(h:p:=by rw[<-Array.toList_inj];simp):p:=h
def sV{p:Prop}(h:p:=by simp only[tX,exec]at a ⊢;rw[a];simpa[g]using e):p:=h
def sW{p:Prop}(h:p:=by unfold nz nB;simp only[<-jt];rfl):p:=h
def sX{p:Prop}(h:p:=by simp[nu,aI,aQ]at h):p:=h
def sY{p:Prop}(h:p:=by rw[show((k+j+1:Nat):Int)-1=((k+j:Nat):Int)by omega];exact h):p:=h
def sZ{p:Prop}(h:p:=by rw[<-Nat.succ_mul];exact mq _ (by omega)):p:=h
def s3{p:Prop}(h:p:=by rw[Int.natCast_add,kW];congr 2;omega):p:=h
def s4{p:Prop}(h:p:=by rw[show((x.toNat:Nat):Int)=x by omega,show((y.toNat:Nat):Int)=y by omega];exact e):p:=h
def wg{p:Prop}(h:p:=by simp[Ab.results,cP,cu,mc,nth]):p:=h
def aC:type_of% @if_neg:=@if_neg
def aD:type_of% @if_pos:=@if_pos
def bd:type_of% @Bool.and_eq_true:=@Bool.and_eq_true
def bz:type_of% @eq_true:=@eq_true
def bM:type_of% @List.length_append:=@List.length_append
def bG:type_of% @Nat.le_refl:=@Nat.le_refl
def ct:type_of% @Option.some.injEq:=@Option.some.injEq
def cT:type_of% @List.length_cons:=@List.length_cons
def cC:type_of% @List.mem_cons:=@List.mem_cons
def cE:type_of% @List.mem_range:=@List.mem_range
def cJ:type_of% @List.mem_map:=@List.mem_map
def da:type_of% @List.map_cons:=@List.map_cons
def db:type_of% @List.length_map:=@List.length_map
def dp:type_of% @List.getElem?_eq_some_iff:=@List.getElem?_eq_some_iff
def dq:type_of% @List.getElem?_append_left:=@List.getElem?_append_left
def dA:type_of% @beq_iff_eq:=@beq_iff_eq
def dG:type_of% @List.getElem?_eq_getElem:=@List.getElem?_eq_getElem
def dI:type_of% @List.mem_append:=@List.mem_append
def eX:type_of% @List.length_nil:=@List.length_nil
def dM:type_of% @if_true:=@if_true
def dP:type_of% @Classical.byContradiction:=@Classical.byContradiction
def dW:type_of% @List.getElem?_append_right:=@List.getElem?_append_right
def eG:type_of% @eq_false:=@eq_false
def eK:type_of% @List.eq_nil_of_length_eq_zero:=@List.eq_nil_of_length_eq_zero
def ff:type_of% @Bool.false_eq_true:=@Bool.false_eq_true
def fm:type_of% @List.map_congr_left:=@List.map_congr_left
def fv:type_of% @if_false:=@if_false
def fy:type_of% @decide_eq_true_eq:=@decide_eq_true_eq
def fG:type_of% @Nat.add_mul:=@Nat.add_mul
def fI:type_of% @List.getD_eq_getElem?_getD:=@List.getD_eq_getElem?_getD
def fU:type_of% @Int.eq_ofNat_of_zero_le:=@Int.eq_ofNat_of_zero_le
def fY:type_of% @List.mem_iff_getElem:=@List.mem_iff_getElem
def gq:type_of% @List.getElem_map:=@List.getElem_map
def gF:type_of% @List.ext_getElem:=@List.ext_getElem
def gN:type_of% @List.take_of_length_le:=@List.take_of_length_le
def gP:type_of% @List.getElem?_map:=@List.getElem?_map
def gQ:type_of% @Nat.zero_add:=@Nat.zero_add
def il:type_of% @List.getElem?_eq_none:=@List.getElem?_eq_none
def kW:type_of% @Int.natCast_mul:=@Int.natCast_mul
def jg:type_of% @List.append_assoc:=@List.append_assoc
def jm:type_of% @List.getElem_set:=@List.getElem_set
def jn:type_of% @List.getElem_range:=@List.getElem_range
def jD:type_of% @List.flatMap_cons:=@List.flatMap_cons
def jS:type_of% @Array.getElem?_toList:=@Array.getElem?_toList
def jT:type_of% @Int.toNat_natCast:=@Int.toNat_natCast
def jV:type_of% @List.pairwise_cons:=@List.pairwise_cons
def kf:type_of% @List.drop_of_length_le:=@List.drop_of_length_le
def kk:type_of% @List.map_append:=@List.map_append
def mq:type_of% @Nat.mul_le_mul_right:=@Nat.mul_le_mul_right
def kH:type_of% @Nat.mul_le_mul:=@Nat.mul_le_mul
def kK:type_of% @List.cons_append:=@List.cons_append
def kL:type_of% @List.range_succ:=@List.range_succ
def kV:type_of% @Array.getElem?_eq_some_iff:=@Array.getElem?_eq_some_iff
def lT:type_of% @List.length_range:=@List.length_range
def mm:type_of% @Array.getElem?_append_left:=@Array.getElem?_append_left
def mu:type_of% @Array.getElem?_eq_getElem:=@Array.getElem?_eq_getElem
def my:type_of% @List.foldl_cons:=@List.foldl_cons
def mF:type_of% @beq_self_eq_true:=@beq_self_eq_true
def mG:type_of% @List.drop_zero:=@List.drop_zero
def mY:type_of% @Nat.mul_comm:=@Nat.mul_comm
def nc:type_of% @List.length_pos_iff:=@List.length_pos_iff
def nh:type_of% @Option.map_some:=@Option.map_some
def nm:type_of% @Bool.eq_iff_iff:=@Bool.eq_iff_iff
def nw:type_of% @List.nodup_cons:=@List.nodup_cons
def oB:type_of% @List.getElem?_drop:=@List.getElem?_drop
def oC:type_of% @Nat.le_trans:=@Nat.le_trans
def oF:type_of% @List.mem_flatMap:=@List.mem_flatMap
def pw:type_of% @Option.map_eq_some_iff:=@Option.map_eq_some_iff
def pA:type_of% @List.length_take:=@List.length_take
def pB:type_of% @Array.length_toList:=@Array.length_toList
def pE:type_of% @List.take_add_one:=@List.take_add_one
def pF:type_of% @List.length_set:=@List.length_set
def pG:type_of% @Nat.sub_self:=@Nat.sub_self
def pH:type_of% @Int.mul_nonneg:=@Int.mul_nonneg
def qu:type_of% @List.set_append:=@List.set_append
def qv:type_of% @decide_eq_true:=@decide_eq_true
def qw:type_of% @List.take_append_drop:=@List.take_append_drop
def qx:type_of% @Int.natCast_nonneg:=@Int.natCast_nonneg
def rB:type_of% @List.nil_append:=@List.nil_append
def rH:type_of% @List.drop_eq_getElem_cons:=@List.drop_eq_getElem_cons
def rI:type_of% @List.pairwise_iff_getElem:=@List.pairwise_iff_getElem
def sJ:type_of% @List.replicate_succ:=@List.replicate_succ
def sP:type_of% @decide_eq_false:=@decide_eq_false
def sQ:type_of% @List.set_cons_succ:=@List.set_cons_succ
def sU:type_of% @List.all_eq_true:=@List.all_eq_true
def ta:type_of% @Nat.min_eq_left:=@Nat.min_eq_left
def te:type_of% @List.getElem_append_left:=@List.getElem_append_left
def ud:type_of% @List.mem_of_getElem?:=@List.mem_of_getElem?
def ug:type_of% @Array.getElem?_modify:=@Array.getElem?_modify
def ux:type_of% @Array.size_range:=@Array.size_range
def uy:type_of% @List.nodup_append:=@List.nodup_append
def uz:type_of% @List.getElem_append_right:=@List.getElem_append_right
def vO:type_of% @Array.mem_toList_iff:=@Array.mem_toList_iff
def vQ:type_of% @Nat.div_lt_iff_lt_mul:=@Nat.div_lt_iff_lt_mul
def vS:type_of% @Option.isSome_iff_exists:=@Option.isSome_iff_exists
def vT:type_of% @Array.getElem?_append_right:=@Array.getElem?_append_right
def vX:type_of% @List.mem_iff_getElem?:=@List.mem_iff_getElem?
def vZ:type_of% @Option.isSome_none:=@Option.isSome_none
def wh:type_of% @List.getElem?_take:=@List.getElem?_take
def wj:type_of% @List.getElem?_range:=@List.getElem?_range
def wm:type_of% @List.mem_map_of_mem:=@List.mem_map_of_mem
def yM:type_of% @decide_eq_false_iff_not:=@decide_eq_false_iff_not
inductive AV where
 |int (n:Int)
 |ik (k:Nat) (n:Int)
 |bool (b:Bool)
 |str (s:List UInt8)
 |agg (l:List AV)
 |bY (l:List AV)
 |aJ
 |emp
 |aX (nn:Bool) (l:List AV)
 |arr (l:List AV)
 |sl (b u off len:Nat)
 |jj
 |bN (v:AV)
 |ptr (b u off:Nat)
 |lS
 |func (f:Nat) (cU:List AV)
 |iR
 |iface (t:Nat) (v:AV)
 |cZ (b:Nat)
 |rF
 |aW
 deriving Inhabited
inductive fR where
 |jN|live|dead
 |map (es:List (AV×AV))
 deriving Inhabited
def fR.isMap:fR->Bool
 |.map _=>ad
 |_=>ae
def fR.kI:fR->Bool
 |.live=>ad
 |.map _=>ad
 |_=>ae
def fR.shape:fR->fR
 |.map _=>.map []
 |x=>x
def fR.gx:fR->Bool
 |.jN=>ad
 |.live=>ad
 |_=>ae
def fR.isLive:fR->Bool
 |.live=>ad
 |_=>ae
structure aO where
 k:Option Nat
 cells:List AV
 st:fR
 deriving Inhabited
inductive Rf where
 |v (k:Nat)
 |t (d:Nat)
 |c (x:AV)
 deriving Inhabited
inductive Dg where
 |add|sub|mul|quo|rem|lss|leq|gtr|geq|eql|neq|wq
 deriving Inhabited
inductive dN where
 |mv (x:Rf)
 |bin (o:Dg) (x y:Rf)
 |beq (neg:Bool) (x y:Rf)
 |seq (neg:Bool) (n:Nat) (x y:Rf)
 |not (x:Rf)
 |pick (c a b:Rf)
 |len (x:Rf)
 |mx (max:Bool) (x y:Rf)
 |eu (x:Rf) (off:Nat) (k:Option Nat)
 |cz (x i:Rf) (st:Nat)
 |gy (x i:Rf) (n:Nat) (k:Option Nat)
 |p7 (x:Rf)
 |ig (x:Rf)
 |iA (n:Nat)
 |kP (p x:Rf) (n:Nat)
 |ju (zero:List AV) (parts:List (Nat×Nat×Rf))
 |fld (x:Rf) (off:Nat) (k:Option Nat)
 |idx (x i:Rf) (n:Nat) (k:Option Nat)
 |ext (x:Rf) (i:Nat)
 |D4 (f:Nat) (cU:List Rf)
 |NP (t:Nat) (x:Rf)
 |cq (parts:List Rf) (st:Nat)
 |dV (parts:List Rf) (st:Nat)
 |qp (x:Rf) (lo hi:Option Rf) (st:Nat)
 |abJ (x hi mx:Rf) (st:Nat)
 |ml (f:Nat) (args:List Rf)
 |mX (x:Rf) (args:List Rf)
 |inv (x:Rf) (sd:List (Nat×Nat)) (args:List Rf)
 |pI (neg:Bool) (x:Rf)
 |ew (x:Rf) (k:Option Nat)
 |ld (x:Rf) (k:Option Nat)
 |can (f:Nat) (args:List Rf)
 |Gy (x:Rf)
 |vC (f:Nat) (args:List Rf)
 |xB (x:Rf) (k:Option Nat)
 |oz (zero:List AV) (k:Option Nat)
 |kG (len cap:Rf) (zero:List AV) (k:Option Nat)
 |oA (parts:List Rf) (k:Option Nat)
 |nl (k:Option Nat)
 |app (s x:Rf) (k:Option Nat)
 |st (p x:Rf) (n:Nat)
 |dH (s x:Rf) (k:Option Nat)
 |gm (f:Nat) (args:List Rf)
 |mB (x:Rf) (args:List Rf)
 |uB (x:Rf) (sd:List (Nat×Nat)) (args:List Rf)
 |abK (x:Rf)
 |xF (x:Rf) (z:List AV) (k:Option Nat)
 |Az
 |xG (x:Rf) (kd:Nat) (k:Rf) (z:AV) (ok:Bool)
 |De (x:Rf)
 |xE (m:Rf) (kd:Nat) (k x:Rf)
 |cvu (x:Rf)
 |gtu (x y:Rf)
 |shu (x y:Rf)
 |NQ (d s:Rf) (k:Option Nat)
 |NM (x:Rf)
 |DR (x:Rf)
 |Af (m:Rf) (kd:Nat) (k x:Rf)
 |NH (x:Rf)
 |NN (x i:Rf)
 |DZ (x:Rf)
 |HU (x y:Rf)
 |NR (neg:Bool) (n:Nat) (x y:Rf)
 |slz (x:Rf) (st:Nat)
 |ue (st:Nat)
 |NO (neg:Bool) (x y:Rf)
 |NK (x:Rf) (lo hi:Option Rf) (st:Nat)
 deriving Inhabited
structure Ln where
 op:dN
 g:Option (Rf×Bool):=ab
 prev:Bool:=ae
 deriving Inhabited
abbrev Ln.p (o:dN):Ln:=⟨o,ab,ae⟩
abbrev Ln.v (n:Nat):Ln:=⟨.mv (.v n),ab,ae⟩
abbrev Ln.t (n:Nat):Ln:=⟨.mv (.t n),ab,ae⟩
abbrev Ln.x (k:Nat) (o:dN):Ln:=⟨o,aa (.t k,ad),ae⟩
abbrev Ln.y (k:Nat) (o:dN):Ln:=⟨o,aa (.t k,ae),ae⟩
structure gW where
 ls:List Ln
 outs:List (Nat×Nat)
 eI:List Nat
 fl:Option (Nat×Nat)
 deriving Inhabited
inductive IC where
 |skip
 |cM (r:gW)
 |seq (a b:IC)
 |cond (slot:Nat) (a b:IC)
 |me (k:Nat) (a b:IC)
 |block (id:Nat) (c:IC)
 |loop (c:IC)
 |exit (id:Nat)
 |ret
 |km (k:Nat)
 |lex (c:IC)
 |bad
 |cut (b:Bool) (c:IC)
 |Gz (c:IC)
 deriving Inhabited
structure Fn where
 np:Nat
 nv:Nat
 body:IC
 res:List (Nat×Option (Option Nat))
 fresh:Bool:=ae
 deriving Inhabited
inductive Ex where
 |fe|exit (id:Nat)|ret
 deriving Inhabited
structure St where
 vars:List AV
 fl:Option (Nat×AV)
 σ:List aO
 deriving Inhabited
@[reducible] def nth:List AV->Nat->AV
 | [],_=>.aW
 |x::_,0=>x
 |_::r,n+1=>nth r n
@[reducible] def eY:List AV->Nat->AV->List AV
 | [],_,_=>[]
 |_::r,0,y=>y::r
 |x::r,n+1,y=>x::eY r n y
@[reducible] def aQ:List aO->Nat->Option aO
 | [],_=>ab
 |x::_,0=>aa x
 |_::r,n+1=>aQ r n
@[reducible] def aV:List aO->Nat->aO->List aO
 | [],_,_=>[]
 |_::r,0,y=>y::r
 |x::r,n+1,y=>x::aV r n y
@[reducible] def lU:List AV->Nat->Option AV
 | [],_=>ab
 |x::_,0=>aa x
 |_::r,n+1=>lU r n
def cu{a b:Type}(f:a->Option b):List a->Option (List b)
 | []=>aa []
 |x::r=>match f x with
  |none=>ab
  |some y=>match cu f r with
   |none=>ab
   |some s=>aa (y::s)
def lA (n:Int):Bool:=decide (-9223372036854775808<=n)&&decide (n<=9223372036854775807)
@[reducible] def AV.cells:AV->List AV
 |.agg l=>l
 |x=>[x]
@[reducible] def ba:Option Nat->Nat
 |none=>1
 |some n=>n
def part (cs:List AV) (off:Nat):Option Nat->Option AV
 |none=>lU cs off
 |some n=>if off+n<=ah cs then aa (.agg ((cs.drop off).take n))else ab
def chunk (k:Option Nat):Nat->List AV->List AV
 |0,_=>[]
 |f+1,cs=>match k with
  |none=>match cs with
   | []=>[]
   |x::r=>x::chunk k f r
  |some n=>.agg (cs.take n)::chunk k f (cs.drop n)
mutual
def bC:AV->Bool
 |.sl .. | .ptr .. | .aW | .arr _ | .bY _ | .cZ _=>ae
 |.agg l | .func _ l=>aY l
 |.iface _ v=>bC v
 |_=>ad
def aY:List AV->Bool
 | []=>ad
 |x::r=>bC x&&aY r
end
def upto (σ:List aO) (b u:Nat):Option aO:=
 match aQ σ b with
 |some B=>match B.st with
  |.dead=>ab
  |.map _=>ab
  |_=>if (ah B.cells)==u then aa B else ab
 |none=>ab
def gI (σ:List aO) (b u:Nat):Option aO:=
 match aQ σ b with
 |some B=>match B.st with
  |.dead=>ab
  |_=>if (ah B.cells)==u then aa B else ab
 |none=>ab
def fM (σ:List aO) (b:Nat):Option (List (AV×AV)):=
 match aQ σ b with
 |some B=>match B.st with
  |.map es=>if (ah B.cells)==0 then aa es else ab
  |_=>ab
 |none=>ab
def view (σ:List aO) (fr:Bool):Nat->AV->Option AV
 |0,_=>ab
 |f+1,x=>match x with
  |.sl b u off len=>match upto σ b u with
   |none=>ab
   |some B=>if off+len*ba B.k<=ah B.cells then
     match cu (view σ fr f) (chunk B.k len (B.cells.drop off))with
     |none=>ab
     |some l=>aa (.aX ae l)
    else ab
  |.ptr b u off=>match upto σ b u with
   |none=>ab
   |some B=>if off==0&&ah B.cells==ba B.k&&B.st.isLive then
     match part B.cells 0 B.k with
     |none=>ab
     |some y=>match view σ fr f y with
      |none=>ab
      |some z=>aa (.bN z)
    else ab
  |.agg l=>match cu (view σ fr f) l with
   |none=>ab
   |some l=>aa (.agg l)
  |.bY _=>ab
  |.func g l=>match cu (view σ fr f) l with
   |none=>ab
   |some l=>aa (.func g l)
  |.iface t v=>match view σ fr f v with
   |none=>ab
   |some v=>aa (.iface t v)
  |.aX _ l=>if fr then ab else aa (.aX ae l)
  |.aJ=>aa (.aX ae [])
  |.emp=>aa (.aX ae [])
  |.bN v=>if fr then ab else aa (.bN v)
  |.aW=>ab
  |.arr _=>ab
  |.cZ _=>aa .rF
  |x=>aa x
def vd:Nat:=12
def cK (σ:List aO) (fr:Bool):AV->Option AV
 |.bY l=>match cu (view σ fr vd) l with
  |none=>ab
  |some l=>aa (.bY l)
 |x=>view σ fr vd x
abbrev CE:=Nat->List AV->List aO->Option (AV×List aO)
def gJ:AV->AV
 |.aJ=>.aX ae []
 |.emp=>.aX ae []
 |.aX _ l=>.aX ae l
 |x=>x
def wk:AV->AV
 |.agg l=>.agg (l.map gJ)
 |x=>gJ x
def j7 (ce:CE) (f:Nat) (args:List AV):Option AV:=
 if aY args then
  match ce f (args.map wk) []with
  |some (v,a)=>cK a ae v
  |none=>ab
 else ab
def wr (n:Int):Int:=(n+9223372036854775808)%18446744073709551616-9223372036854775808
def bin (o:Dg) (x y:Int):Option AV:=
 match o with
 |.add=>if lA (x+y)then aa (.int (x+y))else ab
 |.sub=>if lA (x-y)then aa (.int (x-y))else ab
 |.mul=>if lA (x*y)then aa (.int (x*y))else ab
 |.quo=>if y==0 then ab else if lA (x.tdiv y)then aa (.int (x.tdiv y))else ab
 |.rem=>if y==0 then ab else aa (.int (x.tmod y))
 |.lss=>aa (.bool (decide (x<y)))
 |.leq=>aa (.bool (decide (x<=y)))
 |.gtr=>aa (.bool (decide (y<x)))
 |.geq=>aa (.bool (decide (y<=x)))
 |.eql=>aa (.bool (x==y))
 |.neq=>aa (.bool (!(x==y)))
 |.wq=>aa (.int (wr (x+y)))
def bW:AV->Bool
 |.aW | .bY _=>ae
 |.agg l=>l.all fun
  |.aW | .bY _=>ae
  |.agg _=>ae
  |_=>ad
 |_=>ad
def vD:Option Nat->Option Nat->Bool
 |none,ab=>ad
 |some a,aa b=>a==b
 |_,_=>ae
inductive dd where
 |new (B:aO)
 |news (l:List aO)
 |grow (b:Nat) (cs:List AV)
 deriving Inhabited
def qj (b:Nat):List dd->Bool
 | []=>ae
 |.grow a _::r=>b==a || qj b r
 |_::r=>qj b r
mutual
def iz (n:Nat):AV->AV
 |.sl b u off len=>.sl (b+n) u off len
 |.ptr b u off=>.ptr (b+n) u off
 |.cZ b=>.cZ (b+n)
 |.agg l=>.agg (lR n l)
 |.bY l=>.bY (lR n l)
 |.func f l=>.func f (lR n l)
 |.arr l=>.arr (lR n l)
 |.iface t v=>.iface t (iz n v)
 |x=>x
def lR (n:Nat):List AV->List AV
 | []=>[]
 |x::r=>iz n x::lR n r
end
def HK (n:Nat):List (AV×AV)->List (AV×AV)
 | []=>[]
 |(k,x)::r=>(k,iz n x)::HK n r
def pZ (n:Nat):fR->fR
 |.map es=>.map (HK n es)
 |x=>x
def gl (n:Nat) (B:aO):aO:=⟨B.k,lR n B.cells,pZ n B.st⟩
def fitAll (st:Nat):List AV->Bool
 | []=>ad
 |x::r=>ah x.cells==st&&bW x&&fitAll st r
def bw (σ:List aO) (k:Option Nat):AV->Option (Nat×List AV)
 |.aJ=>aa (0,[])
 |.emp=>aa (0,[])
 |.aX _ l=>if fitAll (ba k) l then aa (ah l,l.flatMap AV.cells)else ab
 |.arr l=>if fitAll (ba k) l then aa (ah l,l.flatMap AV.cells)else ab
 |.sl b u off len=>match upto σ b u with
  |some B=>if off+len*ba k<=ah B.cells/\ba B.k=ba k then aa (len,(B.cells.drop off).take (len*ba k))else ab
  |none=>ab
 |_=>ab
def eE:Nat:=1073741824
def byteOf:AV->Option UInt8
 |.ik 4 n=>if 0<=n/\n<=255 then aa (UInt8.ofNat n.toNat)else ab
 |_=>ab
def bytesOf:List AV->Option (List UInt8)
 | []=>aa []
 |x::r=>match byteOf x,bytesOf r with
  |some b,aa s=>aa (b::s)
  |_,_=>ab
@[reducible] def fL:List (Nat×Nat)->Nat->Option Nat
 | [],_=>ab
 |(a,b)::r,t=>if a==t then aa b else fL r t
def fx (n:Nat) (l:List AV):List AV:=(ag n l).flatten
def putAt (cs:List AV) (off:Nat) (new:List AV):List AV:=cs.take off++new++cs.drop (off+ah new)
def iV (cs:List AV):List (Nat×Nat×AV)->Option (List AV)
 | []=>aa cs
 |(o,n,x)::r=>if (ah x.cells)==n&&decide (o+n<=ah cs)&&bW x then iV (putAt cs o x.cells) r else ab
def uq (r:Rf->AV):Option Rf->Option Int
 |none=>aa 0
 |some y=>match r y with
  |.int n=>aa n
  |_=>ab
def ur (r:Rf->AV):Option Rf->Option (Option Int)
 |none=>aa ab
 |some y=>match r y with
  |.int n=>aa (aa n)
  |_=>ab
def eL (st:Nat):List AV->Bool
 | []=>ad
 |x::_=>ah x.cells==st
@[reducible] def fV:List AV->List AV->Option Bool
 | [],[]=>aa ad
 |.int a::xs,.int b::ys=>match fV xs ys with
  |some c=>aa (decide (a=b)&&c)
  |none=>ab
 |_,_=>ab
def bP:Nat->AV->Bool
 |0,.int _=>ad
 |1,.str _=>ad
 |n+2,.agg l=>ah l==n&&(fV l l).isSome
 |_,_=>ae
def fh:AV->AV->Option Bool
 |.int a,.int b=>aa (decide (a=b))
 |.str a,.str b=>aa (decide (a=b))
 |.agg xs,.agg ys=>fV xs ys
 |_,_=>ab
def dg:List (AV×AV)->AV->Option (Option AV)
 | [],_=>aa ab
 |(k,x)::r,y=>match fh y k with
  |some ad=>aa (aa x)
  |some ae=>dg r y
  |none=>ab
def jU:List (AV×AV)->AV->AV->List (AV×AV)
 | [],_,_=>[]
 |(k,x)::r,y,z=>match fh y k with
  |some ad=>(k,z)::r
  |_=>(k,x)::jU r y z
@[reducible] def jI:List AV->List AV->Option Bool
 | [],[]=>aa ad
 |.str a::xs,.str b::ys=>match jI xs ys with
  |some c=>aa (decide (a=b)&&c)
  |none=>ab
 |_,_=>ab
def ev (ce:CE) (σ:List aO) (nl:Nat) (ps:List dd) (r:Rf->AV):dN->Option (AV×Option dd)
 |.mv x=>aa (r x,ab)
 |.bin o x y=>match r x,r y with
  |.int a,.int b=>(bin o a b).map (·,ab)
  |_,_=>ab
 |.seq neg n x y=>match r x,r y with
  |.agg xs,.agg w=>if (ah xs)=n then(match fV xs w with
   |some b=>aa (.bool (b != neg),ab)
   |none=>ab)else ab
  |_,_=>ab
 |.beq neg x y=>match r x,r y with
  |.bool a,.bool b=>aa (.bool ((a==b) != neg),ab)
  |_,_=>ab
 |.not x=>match r x with
  |.bool b=>aa (.bool (!b),ab)
  |_=>ab
 |.pick c a b=>match r c with
  |.bool ad=>aa (r a,ab)
  |.bool ae=>aa (r b,ab)
  |_=>ab
 |.len x=>match r x with
  |.aJ=>aa (.int 0,ab)
  |.emp=>aa (.int 0,ab)
  |.aX _ l=>aa (.int (ah l),ab)
  |.sl _ _ _ n=>aa (.int n,ab)
  |_=>ab
 |.mx m x y=>match r x,r y with
  |.int a,.int b=>aa (.int (if m then(if a<b then b else a)else(if b<a then b else a)),ab)
  |_,_=>ab
 |.eu x off k=>match r x with
  |.ptr b u o=>aa (.ptr b u (o+off),ab)
  |.bN v=>(part v.cells off k).map λy=>(.bN y,ab)
  |_=>ab
 |.cz x i st=>match r x,r i with
  |.aX _ l,.int n=>if 0<=n then(match lU l n.toNat with|some y=>if (ah y.cells)==st then aa (.bN y,ab)else ab|none=>ab)else ab
  |.sl b u off len,.int n=>if 0<=n/\n<len then aa (.ptr b u (off+n.toNat*st),ab)else ab
  |_,_=>ab
 |.gy x i n k=>match r x,r i with
  |.ptr b u o,.int j=>if 0<=j/\j<n then aa (.ptr b u (o+j.toNat*ba k),ab)else ab
  |.bN v,.int j=>if 0<=j/\j<n then(part v.cells (j.toNat*ba k) k).map λy=>(.bN y,ab)else ab
  |_,_=>ab
 |.p7 x=>match r x with
  |.ptr b u o=>aa (.ptr b u o,ab)
  |.bN v=>aa (.bN v,ab)
  |_=>ab
 |.ig x=>if bC (r x)then aa (.bN (r x),ab)else ab
 |.iA _=>aa (.aW,ab)
 |.kP _ x n=>if bC (r x)&&ah (r x).cells==n then aa (.bN (r x),ab)else ab
 |.ju z ps=>(iV z (ps.map λp=>(p.1,p.2.1,r p.2.2))).map λl=>(.agg l,ab)
 |.fld x off k=>match r x with
  |.agg l=>(part l off k).map (·,ab)
  |_=>ab
 |.idx x i n k=>match r x,r i with
  |.agg l,.int j=>if 0<=j/\j<n then(part l (j.toNat*ba k) k).map (·,ab)else ab
  |_,_=>ab
 |.ext x i=>match r x with
  |.bY l=>(lU l i).map (·,ab)
  |_=>ab
 |.D4 f cs=>aa (.func f (cs.map r),ab)
 |.NP t x=>aa (.iface t (r x),ab)
 |.cq ps st=>if aY (ps.map r)&&fitAll st (ps.map r)then aa (.aX ae (ps.map r),ab)else ab
 |.dV ps st=>if fitAll st (ps.map r)then aa (.arr (ps.map r),ab)else ab
 |.qp x A e st=>match uq r A,ur r e with
  |some a,aa b=>(match r x with
   |.aX g l=>
    let h:=b.getD (ah l)
    if(0<=a/\a<=h/\h<=ah l)/\eL st l=ad then aa (.aX (g&&decide (0<ah l)) ((l.drop a.toNat).take (h.toNat-a.toNat)),ab)else ab
   |.sl D u off len=>(match upto σ D u with
    |some B=>
     let h:=b.getD len
     if(0<=a/\a<=h/\h<=len)/\ba B.k=st then aa (.sl D u (off+a.toNat*st) (h.toNat-a.toNat),ab)else ab
    |none=>ab)
   |_=>ab)
  |_,_=>ab
 |.NK x A e st=>match uq r A,ur r e with
  |some a,aa b=>(match r x with
   |.aX g l=>
    let h:=b.getD (ah l)
    if(0<=a/\a<=h/\h<=ah l)/\eL st l=ad then aa (.aX (g&&decide (0<ah l)) ((l.drop a.toNat).take (h.toNat-a.toNat)),ab)else ab
   |_=>ab)
  |_,_=>ab
 |.abJ x e mx st=>match r x,r e,r mx with
  |.aX g l,.int h,.int m=>if(0<=h/\h<=m/\m<=ah l)/\eL st l=ad then aa (.aX (g&&decide (0<ah l)) (l.take h.toNat),ab)else ab
  |_,_,_=>ab
 |.Gy x=>match r x with
  |.int n=>if lA n then aa (.int n,ab)else ab
  |.ik _ n=>if lA n then aa (.int n,ab)else ab
  |_=>ab
 |.ml f args=>(j7 ce f (args.map r)).map (·,ab)
 |.mX x args=>match r x with
  |.func f q=>(j7 ce f (args.map r++q)).map (·,ab)
  |_=>ab
 |.inv x C args=>match r x with
  |.iface t v=>match fL C t with
   |some f=>(j7 ce f (v::args.map r)).map (·,ab)
   |none=>ab
  |_=>ab
 |.pI neg x=>match r x with
  |.aJ=>aa (.bool (!neg),ab)
  |.aX ad _=>aa (.bool neg,ab)
  |.aX ae (_::_)=>aa (.bool neg,ab)
  |.sl b u _ _=>match upto σ b u with
   |some B=>match B.st with
    |.live=>aa (.bool neg,ab)
    |_=>ab
   |none=>ab
  |_=>ab
 |.ew x k=>match r x with
  |.bN v=>match k,v with
   |none,.agg _=>ab
   |none,v=>aa (v,ab)
   |some n,.agg l=>if (ah l)==n then aa (.agg l,ab)else ab
   |some _,_=>ab
  |_=>ab
 |.can f args=>if aY (args.map r)then
   match ce f (args.map r) []with
   |some (v,d)=>aa (iz nl v,aa (.news (d.map (gl nl))))
   |none=>ab
  else ab
 |.ld x k=>match r x with
  |.bN v=>match k,v with
   |none,.agg _=>ab
   |none,v=>aa (v,ab)
   |some n,.agg l=>if (ah l)==n then aa (.agg l,ab)else ab
   |some _,_=>ab
  |.ptr b u o=>match upto σ b u with
   |some B=>if B.st.isLive then(part B.cells o k).map (·,ab)else ab
   |none=>ab
  |_=>ab
 |.vC f args=>match cu (λx=>view σ ae vd (r x)) args with
  |some E=>match ce f E []with
   |some (v,d)=>(cK d ad v).map (·,ab)
   |none=>ab
  |none=>ab
 |.xB x k=>if(ah (r x).cells)==ba k&&bW (r x)then aa (.ptr nl (ba k) 0,aa (.new ⟨k,(r x).cells,.live⟩))else ab
 |.oz z k=>if (ah z)==ba k then aa (.ptr nl (ba k) 0,aa (.new ⟨k,z,.live⟩))else ab
 |.kG n c z k=>match r n,r c with
  |.int n,.int c=>if 0<=n/\n<=c/\c<=eE/\ah z=ba k then
    aa (.sl nl (ah (fx c.toNat z)) 0 n.toNat,aa (.new ⟨k,fx c.toNat z,.live⟩))else ab
  |_,_=>ab
 |.oA ps k=>if fitAll (ba k) (ps.map r)then aa (.sl nl (ah ((ps.map r).flatMap AV.cells)) 0 (ah ps),aa (.new ⟨k,(ps.map r).flatMap AV.cells,.live⟩))else ab
 |.nl k=>aa (.sl nl 0 0 0,aa (.new ⟨k,[],.jN⟩))
 |.app s x k=>match bw σ k (r x)with
  |none=>ab
  |some (n,cs)=>match r s with
   |.sl b u off len=>match upto σ b u with
    |some B=>if off==0&&u==len*ba k&&decide (len+n<=eE) && !qj b ps&&vD B.k k then
      (if n==0 then aa (.sl b u off len,ab)else if (ah cs)==0 then ab else aa (.sl b (u+ah cs) 0 (len+n),aa (.grow b cs)))else ab
    |none=>ab
   |.aJ=>if n==0 then aa (.aJ,ab)else if n<=eE then aa (.sl nl (ah cs) 0 n,aa (.new ⟨k,cs,.live⟩))else ab
   |.emp=>if n==0 then aa (.emp,ab)else if n<=eE then aa (.sl nl (ah cs) 0 n,aa (.new ⟨k,cs,.live⟩))else ab
   |.arr l=>if n==0 then aa (if aY l then .aX ad l else .arr l,ab)else if fitAll (ba k) l&&decide (ah l+n<=eE)then aa (.sl nl (ah (l.flatMap AV.cells++cs)) 0 (ah l+n),aa (.new ⟨k,l.flatMap AV.cells++cs,.live⟩))else ab
   |_=>ab
 |.abK x=>match r x with
  |.aJ=>aa (.int 0,ab)
  |_=>ab
 |.Az=>aa (.cZ nl,aa (.new ⟨aa 0,[],.map []⟩))
 |.xG x F k z ok=>match r x with
  |.cZ b=>match fM σ b with
   |some es=>if bP F (r k)then(match dg es (r k)with
    |some (aa v)=>aa (if ok then .bY [v,.bool ad]else v,ab)
    |some ab=>aa (if ok then .bY [z,.bool ae]else z,ab)
    |none=>ab)else ab
   |none=>ab
  |_=>ab
 |.De x=>match r x with
  |.cZ b=>match fM σ b with
   |some es=>aa (.int (ah es),ab)
   |none=>ab
  |_=>ab
 |.cvu x=>match r x with
  |.int n=>if 0<=n/\n<=18446744073709551615 then aa (.ik 7 n,ab)else ab
  |.ik _ n=>if 0<=n/\n<=18446744073709551615 then aa (.ik 7 n,ab)else ab
  |_=>ab
 |.NM x=>match r x with
  |.int n=>if 0<=n/\n<=255 then aa (.ik 4 n,ab)else ab
  |_=>ab
 |.DR x=>match bw σ ab (r x)with
  |some (_,cs)=>match bytesOf cs with
   |some s=>aa (.str s,ab)
   |none=>ab
  |none=>ab
 |.NO neg x y=>match r x,r y with
  |.ik k a,.ik j b=>if k=j then aa (.bool ((a==b) != neg),ab)else ab
  |_,_=>ab
 |.ue _=>aa (.emp,ab)
 |.slz x _=>match r x with
  |.aJ=>aa (.emp,ab)
  |.emp=>aa (.emp,ab)
  |.aX _ _=>aa (.emp,ab)
  |.sl _ _ _ _=>aa (.emp,ab)
  |_=>ab
 |.NH x=>match r x with
  |.str s=>aa (.aX ae (s.map λb=>.ik 4 (b.toNat:Int)),ab)
  |_=>ab
 |.NN x i=>match r x,r i with
  |.str s,.int n=>if 0<=n then(match s[n.toNat]? with
   |some b=>aa (.ik 4 (b.toNat:Int),ab)
   |none=>ab)else ab
  |_,_=>ab
 |.DZ x=>match r x with
  |.int n=>aa (.ik 4 (n%256),ab)
  |_=>ab
 |.HU x y=>match r x,r y with
  |.int a,.int n=>if 0<=n/\n<64 then aa (.int (a.fdiv (2^n.toNat)),ab)else ab
  |.int a,.ik 7 n=>if 0<=n/\n<64 then aa (.int (a.fdiv (2^n.toNat)),ab)else ab
  |_,_=>ab
 |.NR neg n x y=>match r x,r y with
  |.agg xs,.agg w=>if (ah xs)=n then(match jI xs w with
   |some b=>aa (.bool (b != neg),ab)
   |none=>ab)else ab
  |_,_=>ab
 |.gtu x y=>match r x,r y with
  |.ik 7 a,.ik 7 b=>aa (.bool (decide (b<a)),ab)
  |_,_=>ab
 |.shu x y=>match r x,r y with
  |.ik 7 a,.int n=>if 0<=n/\n<64 then aa (.ik 7 (a.fdiv (2^n.toNat)),ab)else ab
  |.ik 7 a,.ik 7 n=>if 0<=n/\n<64 then aa (.ik 7 (a.fdiv (2^n.toNat)),ab)else ab
  |_,_=>ab
 |.st .. | .dH .. | .gm .. | .mB .. | .uB .. | .xF .. | .xE .. | .NQ .. | .Af ..=>ab
@[reducible] def rv (vars env:List AV):Rf->AV
 |.v k=>nth vars k
 |.t d=>nth env d
 |.c x=>x
def want (vars env:List AV):Option (Rf×Bool)->Option Bool
 |none=>aa ad
 |some (g,w)=>match rv vars env g with
  |.bool b=>aa (b==w)
  |.bY []=>aa ae
  |_=>ab
@[reducible] def uD (σ:List aO) (b:Nat) (cs:List AV):List aO:=
 match aQ σ b with
 |some B=>aV σ b ⟨B.k,B.cells++cs,.live⟩
 |none=>σ
@[reducible] def qo (σ:List aO) (b:Nat) (es:List (AV×AV)):List aO:=
 match aQ σ b with
 |some B=>aV σ b ⟨B.k,B.cells,.map es⟩
 |none=>σ
def gX (σ:List aO):dd->List aO
 |.new B=>σ ++ [B]
 |.news l=>σ++l
 |.grow b cs=>uD σ b cs
def gS (ce:CE) (σ:List aO) (r:Rf->AV):dN->Option (AV×List aO)
 |.st p x n=>match r p with
  |.ptr b u o=>match upto σ b u with
   |some B=>if(ah (r x).cells)==n&&o+n<=ah B.cells&&B.st.isLive&&bW (r x)then aa (.aW,aV σ b ⟨B.k,putAt B.cells o (r x).cells,B.st⟩)else ab
   |none=>ab
  |_=>ab
 |.dH s x k=>match bw σ k (r x)with
  |none=>ab
  |some (n,cs)=>match r s with
   |.sl b u off len=>match upto σ b u with
    |some B=>
     if off==0&&decide (len+n<=eE)&&vD B.k k then
      (if n==0 then aa (.sl b u off len,σ)
       else if (ah cs)==0 then ab else if u==len*ba k then aa (.sl b (u+ah cs) 0 (len+n),aV σ b ⟨B.k,B.cells++cs,.live⟩)
       else if(len+n)*ba k<=u then aa (.sl b u 0 (len+n),aV σ b ⟨B.k,putAt B.cells (len*ba k) cs,B.st⟩)
       else ab)
     else ab
    |none=>ab
   |.aJ=>if n==0 then aa (.aJ,σ)else if n<=eE then aa (.sl (ah σ) (ah cs) 0 n,σ ++ [⟨k,cs,.live⟩])else ab
   |.emp=>if n==0 then aa (.emp,σ)else if n<=eE then aa (.sl (ah σ) (ah cs) 0 n,σ ++ [⟨k,cs,.live⟩])else ab
   |.arr l=>if n==0 then aa (if aY l then .aX ad l else .arr l,σ)else if fitAll (ba k) l&&decide (ah l+n<=eE)then aa (.sl (ah σ) (ah (l.flatMap AV.cells++cs)) 0 (ah l+n),σ ++ [⟨k,l.flatMap AV.cells++cs,.live⟩])else ab
   |_=>ab
 |.gm f args=>ce f (args.map r) σ
 |.mB x args=>match r x with
  |.func f a=>ce f (args.map r++a) σ
  |_=>ab
 |.uB x e args=>match r x with
  |.iface t v=>match fL e t with
   |some f=>ce f (v::args.map r) σ
   |none=>ab
  |_=>ab
 |.xF x z k=>match r x with
  |.sl b u off len=>match upto σ b u with
   |some B=>if 0<len/\off+len*ba k<=ah B.cells/\ba B.k=ba k/\ah z=ba k/\B.st.isLive=ad then aa (.aW,aV σ b ⟨B.k,putAt B.cells off (fx len z),B.st⟩)else ab
   |none=>ab
  |_=>ab
 |.xE m g k x=>match r m with
  |.cZ b=>match fM σ b with
   |some es=>if bP g (r k)&&bC (r x)then(match dg es (r k)with
    |some ab=>aa (.aW,qo σ b (es ++ [(r k,r x)]))
    |_=>ab)else ab
   |none=>ab
  |_=>ab
 |.Af m g k x=>match r m with
  |.cZ b=>match fM σ b with
   |some es=>if bP g (r k)&&bW (r x)then(match dg es (r k)with
    |some ab=>aa (.aW,qo σ b (es ++ [(r k,r x)]))
    |some (aa _)=>aa (.aW,qo σ b (jU es (r k) (r x)))
    |none=>ab)else ab
   |none=>ab
  |_=>ab
 |.NQ d s k=>match bw σ k (r s)with
  |none=>ab
  |some (n,cs)=>match r d with
   |.sl b u off len=>match upto σ b u with
    |some B=>if off+len*ba k<=ah B.cells/\ba B.k=ba k/\B.st.isLive=ad then
      (if min n len=0 then aa (.int 0,σ)else aa (.int (min n len:Nat),aV σ b ⟨B.k,putAt B.cells off (cs.take (min n len*ba k)),B.st⟩))else ab
    |none=>ab
   |_=>ab
 |op=>match ev ce σ (ah σ) [] r op with
  |some (v,aa p)=>aa (v,gX σ p)
  |some (v,ab)=>aa (v,σ)
  |none=>ab
def dN.mb:dN->Bool
 |.st .. | .dH .. | .gm .. | .mB .. | .uB .. | .xF .. | .xE .. | .NQ .. | .Af ..=>ad
 |_=>ae
def dN.mU:dN->Bool
 |.can .. | .xB .. | .oz .. | .kG .. | .oA .. | .nl .. | .app .. | .Az=>ad
 |_=>ae
structure LS where
 env:List AV
 bg:List aO
 σ:List aO
def dQ (ce:CE) (vars:List AV) (s:LS) (l:Ln):Option LS:=
 match want vars s.env l.g with
 |none=>ab
 |some ae=>aa ⟨.bY []::s.env,s.bg,s.σ⟩
 |some ad=>if l.op.mb then
   match gS ce s.σ (rv vars s.env) l.op with
   |some (v,a)=>aa ⟨v::s.env,[],a⟩
   |none=>ab
  else match ev ce (if l.prev then s.bg else s.σ) (ah s.σ) [] (rv vars s.env) l.op with
   |some (v,ab)=>aa ⟨v::s.env,if l.op.mU then s.σ else s.bg,s.σ⟩
   |some (v,aa p)=>aa ⟨v::s.env,s.σ,gX s.σ p⟩
   |none=>ab
def lines (ce:CE) (vars:List AV):List Ln->LS->Option LS
 | [],s=>aa s
 |l::ls,s=>match dQ ce vars s l with
  |none=>ab
  |some s=>lines ce vars ls s
@[reducible] def outs (env:List AV):List (Nat×Nat)->List AV->List AV
 | [],vs=>vs
 |(k,d)::r,vs=>outs env r (eY vs k (nth env d))
@[reducible] def eI:List Nat->List AV->List AV
 | [],vs=>vs
 |k::r,vs=>eI r (eY vs k .aW)
def dJ (ce:CE) (r:gW) (s:St):Option St:=
 match lines ce s.vars r.ls ⟨[],s.σ,s.σ⟩with
 |some q=>aa {vars:=eI r.eI (outs q.env r.outs s.vars),fl:=match r.fl with|some (t,d)=>aa (t,nth q.env d)|none=>ab,σ:=q.σ}
 |none=>ab
def iter (f:St->Option (Ex×St)):Nat->St->Option (Ex×St)
 |0,_=>ab
 |k+1,s=>match f s with
  |some (.fe,s)=>iter f k s
  |x=>x
def reach (σ:List aO):Nat->AV->List Nat->List Nat
 |0,_,acc=>acc
 |f+1,x,acc=>match x with
  |.sl b _ _ _=>if acc.contains b then acc else match aQ σ b with
   |some B=>B.cells.foldl (λacc y=>reach σ f y acc) (b::acc)
   |none=>acc
  |.ptr b _ _=>if acc.contains b then acc else match aQ σ b with
   |some B=>B.cells.foldl (λacc y=>reach σ f y acc) (b::acc)
   |none=>acc
  |.agg l | .bY l | .func _ l=>l.foldl (λacc y=>reach σ f y acc) acc
  |.iface _ v=>reach σ f v acc
  |_=>acc
def bR (p:Nat->Bool):Nat->List aO->List aO
 |_,[]=>[]
 |n,B::r=>(if p n then⟨B.k,B.cells,.dead⟩else B)::bR p (n+1) r
def fJ (σ:List aO):AV->Bool
 |.sl b u _ _=>match upto σ b u with
  |some B=>match B.st with
   |.live=>ad
   |_=>ae
  |none=>ae
 |.aX nn _=>nn
 |_=>ae
def yN (n:Nat):AV->Bool
 |.sl b _ _ _=>decide (b<n)
 |.ptr b _ _=>decide (b<n)
 |.cZ b=>decide (b<n)
 |.aW=>ad
 |x=>bC x
def ny (n:Nat):AV->Bool
 |.arr _=>ae
 |.sl b _ _ _=>decide (b<n)
 |.ptr b _ _=>decide (b<n)
 |.cZ b=>decide (b<n)
 |.agg l | .bY l | .func _ l=>l.all (yN n)
 |.iface _ v=>bC v
 |_=>ad
def Pw (n:Nat):fR->Bool
 |.map es=>es.all λe=>ny n e.2
 |_=>ad
def wv (n:Nat):Nat->List aO->Bool
 |0,_=>ad
 |_,[]=>ad
 |m+1,B::r=>(B.cells.all (ny n)&&Pw n B.st)&&wv n m r
def exec (n:Nat) (ce:CE):IC->St->Option (Ex×St)
 |.skip,s=>aa (.fe,s)
 |.cM r,s=>match dJ ce r s with
  |some s=>aa (.fe,s)
  |none=>ab
 |.seq a b,s=>match exec n ce a s with
  |some (.fe,s)=>exec n ce b s
  |x=>x
 |.cond slot a b,s=>match s.fl with
  |some (t,.bool c)=>if t==slot then(if c then exec n ce a {s with fl:=ab}else exec n ce b {s with fl:=ab})else ab
  |_=>ab
 |.me k a b,s=>match nth s.vars k with
  |.bool c=>if c then exec n ce a s else exec n ce b s
  |_=>ab
 |.block id c,s=>match exec n ce c s with
  |some (.exit g, s)=>if g == id then aa (.fe,s)else aa (.exit g, s)
  |x=>x
 |.loop c,s=>iter (exec n ce c) n s
 |.exit id,s=>aa (.exit id,s)
 |.ret,s=>aa (.ret,s)
 |.km k,s=>
  let h:=reach s.σ vd (nth s.vars k) []
  match view (bR (λb=>!h.contains b) 0 s.σ) ae vd (nth s.vars k)with
  |some v=>aa (.fe,{s with vars:=eY s.vars k (if fJ s.σ (nth s.vars k)then(match v with | .aX _ l=>.aX ad l|x=>x)else v),σ:=bR (λb=>h.contains b) 0 s.σ})
  |none=>ab
 |.bad,_=>ab
 |.cut _ c,s=>exec n ce c s
 |.Gz c,s=>exec n ce c s
 |.lex c,s=>match exec n ce c s with
  |some (.ret,d)=>aa (.ret,d)
  |some (e,d)=>
   let m:=ah s.σ
   if d.vars.all (ny m)&&wv m m d.σ&&(match d.fl with|some _=>ae|none=>ad)then aa (e,{d with σ:=d.σ.take m})else ab
  |none=>ab
def mc (s:St):Nat×Option (Option Nat)->Option AV
 |(k,ab)=>aa (nth s.vars k)
 |(k,aa a)=>match ev (λ_ _ _=>ab) s.σ 0 [] (λ_=>nth s.vars k) (.ld (.v 0) a)with
  |some (v,_)=>aa v
  |none=>ab
def results (fn:Fn) (s:St):Option AV:=
 match cu (mc s) fn.res with
 |some [x]=>aa x
 |some l=>aa (.bY l)
 |none=>ab
abbrev lr:=Nat->Option (CE->List AV->List aO->Option (AV×List aO))
def eJ (G:Nat->Option Fn) (Q:lr) (n:Nat):Nat->CE
 |0=>λ_ _ _=>ab
 |d+1=>λf args σ=>match Q f with
  |some p=>p (eJ G Q n d) args σ
  |none=>match G f with
  |none=>ab
  |some fn=>if (ah args)==fn.np then
    match exec n (eJ G Q n d) fn.body {vars:=args++ag (fn.nv-fn.np) .aW,fl:=ab,σ}with
    |some (.exit _,_)=>ab
    |some (_,s)=>(results fn s).map (·,s.σ)
    |none=>ab
   else ab
def isScalar:AV->Bool
 |.int _ | .bool _ | .str _=>ad
 |_=>ae
def xI:CE->List AV->Option AV:=λ_ args=>match args with
 | [.aX _ l]=>if l.all isScalar&&decide (ah l<=eE)then aa (.aX ae l)else ab
 | [.aJ]=>aa (.aX ae [])
 |_=>ab
abbrev ak:=List Int
abbrev al:=List ak
abbrev ao:=List AV
abbrev aq:=List aO
end Ab
