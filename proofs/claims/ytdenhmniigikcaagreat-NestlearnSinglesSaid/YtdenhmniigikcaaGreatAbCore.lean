/- An abstract interpreter of a small language of straight-line regions, loops and calls, over immutable trees and owned blocks: its definitions. Condition: none. -/
set_option linter.all false
namespace Ab
def aa{p:Prop}(h:p:=by omega):p:=h
def ab{p:Prop}(h:p:=by simp):p:=h
def au{p:Prop}(h:p:=by dsimp only;omega):p:=h
def ax{p:Prop}(h:p:=by simp;omega):p:=h
def aX{p:Prop}(h:p:=by simp[du]):p:=h
def bO{p:Prop}(h:p:=by decide):p:=h
def cq{p:Prop}(h:p:=by simpa using h):p:=h
def dE{p:Prop}(h:p:=by split<;>rfl):p:=h
def eX{p:Prop}(h:p:=by simp at h):p:=h
def fV{p:Prop}(h:p:=by simp[af,aq]at h):p:=h
def eD{p:Prop}(h:p:=by rw[e]):p:=h
def fj{p:Prop}(h:p:=by simp[b]):p:=h
def fm{p:Prop}(h:p:=by simp[a]):p:=h
def ft{p:Prop}(h:p:=by simp[e]):p:=h
def fu{p:Prop}(h:p:=by simp[aY]<;>omega):p:=h
def fK{p:Prop}(h:p:=by rw[e];rfl):p:=h
def fM{p:Prop}(h:p:=by simp[d]):p:=h
def gB{p:Prop}(h:p:=by unfold VR;rfl):p:=h
def gC{p:Prop}(h:p:=by simpa using e):p:=h
def iH{p:Prop}(h:p:=by simp[g]):p:=h
def iJ{p:Prop}(h:p:=by simpa using a):p:=h
def iN{p:Prop}(h:p:=by simp only[aY,aU,cO,fe];try omega):p:=h
def jy{p:Prop}(h:p:=by assumption):p:=h
def jC{p:Prop}(h:p:=by simpa using hn):p:=h
def km{p:Prop}(h:p:=by funext q;split<;>simp_all):p:=h
def lF{p:Prop}(h:p:=by simp only[execOp,ho]):p:=h
def mM{p:Prop}(h:p:=by simpa using hi):p:=h
def mV{p:Prop}(h:p:=by simp[Go.MapKept.IsKey]):p:=h
def mX{p:Prop}(h:p:=by simp[u];omega):p:=h
def mY{p:Prop}(h:p:=by unfold VR;exact⟨[],rfl,rfl⟩):p:=h
def mZ{p:Prop}(h:p:=by simp[want,rv,a]):p:=h
def na{p:Prop}(h:p:=by simp[List.map_set]):p:=h
def ng{p:Prop}(h:p:=by simp[idxs];omega):p:=h
def o6{p:Prop}(h:p:=by rw[qb];congr 1;omega):p:=h
def o7{p:Prop}(h:p:=by rw[aB (by simp;omega),aB (by omega)];simp):p:=h
def rn{p:Prop}(h:p:=by rw[<-Array.toList_inj];simp):p:=h
def rF{p:Prop}(h:p:=by simp only[su,exec]at a ⊢;rw[a];simpa[g]using e):p:=h
def rG{p:Prop}(h:p:=by unfold nz nB;simp only[<-iC];rfl):p:=h
def rH{p:Prop}(h:p:=by simp[mc,af,aq]at h):p:=h
def rI{p:Prop}(h:p:=by rw[show((k+j+1:Nat):Int)-1=((k+j:Nat):Int)by omega];exact h):p:=h
def rJ{p:Prop}(h:p:=by rw[<-Nat.succ_mul];exact lr _ (by omega)):p:=h
def rK{p:Prop}(h:p:=by rw[Int.natCast_add,qb];congr 2;omega):p:=h
def rL{p:Prop}(h:p:=by rw[show((x.toNat:Nat):Int)=x by omega,show((y.toNat:Nat):Int)=y by omega];exact e):p:=h
def rM{p:Prop}(h:p:=by dsimp only;rw[aY];omega):p:=h
def uy{p:Prop}(h:p:=by simp[Ab.results,cv,bJ,lg,nth]):p:=h
def ad:type_of% @if_neg:=@if_neg
def ae:type_of% @if_pos:=@if_pos
def az:type_of% @eq_true:=@eq_true
def aH:type_of% @Bool.and_eq_true:=@Bool.and_eq_true
def aU:type_of% @List.length_append:=@List.length_append
def bd:type_of% @Nat.le_refl:=@Nat.le_refl
def bQ:type_of% @List.mem_range:=@List.mem_range
def bT:type_of% @Option.some.injEq:=@Option.some.injEq
def bX:type_of% @eq_false:=@eq_false
def b5:type_of% @List.mem_cons:=@List.mem_cons
def cO:type_of% @List.length_cons:=@List.length_cons
def cx:type_of% @List.mem_map:=@List.mem_map
def cS:type_of% @List.map_cons:=@List.map_cons
def cT:type_of% @beq_iff_eq:=@beq_iff_eq
def cY:type_of% @List.mem_append:=@List.mem_append
def db:type_of% @List.getElem?_eq_getElem:=@List.getElem?_eq_getElem
def dA:type_of% @List.length_map:=@List.length_map
def dC:type_of% @List.getElem?_eq_some_iff:=@List.getElem?_eq_some_iff
def dD:type_of% @if_true:=@if_true
def fe:type_of% @List.length_nil:=@List.length_nil
def dF:type_of% @Classical.byContradiction:=@Classical.byContradiction
def dY:type_of% @List.eq_nil_of_length_eq_zero:=@List.eq_nil_of_length_eq_zero
def ef:type_of% @Bool.false_eq_true:=@Bool.false_eq_true
def eo:type_of% @decide_eq_true_eq:=@decide_eq_true_eq
def eI:type_of% @if_false:=@if_false
def eJ:type_of% @List.getElem?_append_left:=@List.getElem?_append_left
def eL:type_of% @List.mem_iff_getElem:=@List.mem_iff_getElem
def eM:type_of% @List.map_congr_left:=@List.map_congr_left
def eZ:type_of% @List.take_of_length_le:=@List.take_of_length_le
def fh:type_of% @Nat.add_mul:=@Nat.add_mul
def gA:type_of% @List.getElem?_append_right:=@List.getElem?_append_right
def gD:type_of% @List.getD_eq_getElem?_getD:=@List.getD_eq_getElem?_getD
def gM:type_of% @Int.eq_ofNat_of_zero_le:=@Int.eq_ofNat_of_zero_le
def gX:type_of% @Nat.zero_add:=@Nat.zero_add
def gZ:type_of% @List.append_assoc:=@List.append_assoc
def iv:type_of% @List.getElem?_map:=@List.getElem?_map
def iI:type_of% @List.flatMap_cons:=@List.flatMap_cons
def ja:type_of% @Array.getElem?_toList:=@Array.getElem?_toList
def jg:type_of% @List.getElem?_eq_none:=@List.getElem?_eq_none
def jh:type_of% @List.range_succ:=@List.range_succ
def jD:type_of% @List.cons_append:=@List.cons_append
def jE:type_of% @List.map_append:=@List.map_append
def lr:type_of% @Nat.mul_le_mul_right:=@Nat.mul_le_mul_right
def jT:type_of% @Nat.mul_le_mul:=@Nat.mul_le_mul
def jW:type_of% @List.foldl_cons:=@List.foldl_cons
def jY:type_of% @List.drop_of_length_le:=@List.drop_of_length_le
def ke:type_of% @Array.getElem?_eq_some_iff:=@Array.getElem?_eq_some_iff
def kf:type_of% @Nat.add_zero:=@Nat.add_zero
def qb:type_of% @Int.natCast_mul:=@Int.natCast_mul
def ku:type_of% @List.pairwise_cons:=@List.pairwise_cons
def lq:type_of% @Array.getElem?_append_left:=@Array.getElem?_append_left
def lA:type_of% @Int.toNat_natCast:=@Int.toNat_natCast
def lB:type_of% @Array.getElem?_eq_getElem:=@Array.getElem?_eq_getElem
def lH:type_of% @beq_self_eq_true:=@beq_self_eq_true
def lI:type_of% @List.getElem_map:=@List.getElem_map
def l6:type_of% @Nat.mod_lt:=@Nat.mod_lt
def me:type_of% @List.ext_getElem:=@List.ext_getElem
def mf:type_of% @decide_eq_true:=@decide_eq_true
def mO:type_of% @Nat.mul_comm:=@Nat.mul_comm
def mP:type_of% @List.getElem?_drop:=@List.getElem?_drop
def mQ:type_of% @List.nil_append:=@List.nil_append
def mR:type_of% @List.length_pos_iff:=@List.length_pos_iff
def mS:type_of% @Option.map_some:=@Option.map_some
def mU:type_of% @Bool.eq_iff_iff:=@Bool.eq_iff_iff
def mW:type_of% @List.mem_flatMap:=@List.mem_flatMap
def nh:type_of% @List.take_add_one:=@List.take_add_one
def nj:type_of% @List.nodup_cons:=@List.nodup_cons
def nm:type_of% @List.take_append_drop:=@List.take_append_drop
def nY:type_of% @Option.map_eq_some_iff:=@Option.map_eq_some_iff
def og:type_of% @List.length_take:=@List.length_take
def oh:type_of% @Array.length_toList:=@Array.length_toList
def oq:type_of% @decide_eq_false:=@decide_eq_false
def ou:type_of% @List.length_range:=@List.length_range
def ow:type_of% @List.drop_zero:=@List.drop_zero
def ox:type_of% @List.length_set:=@List.length_set
def oV:type_of% @Nat.div_lt_iff_lt_mul:=@Nat.div_lt_iff_lt_mul
def o8:type_of% @List.map_set:=@List.map_set
def qj:type_of% @List.drop_eq_getElem_cons:=@List.drop_eq_getElem_cons
def qk:type_of% @List.set_cons_zero:=@List.set_cons_zero
def ql:type_of% @Nat.min_eq_left:=@Nat.min_eq_left
def qm:type_of% @List.pairwise_iff_getElem:=@List.pairwise_iff_getElem
def qn:type_of% @List.getElem_set:=@List.getElem_set
def ru:type_of% @Option.isSome_iff_exists:=@Option.isSome_iff_exists
def rE:type_of% @List.all_eq_true:=@List.all_eq_true
def rN:type_of% @List.getElem_inj:=@List.getElem_inj
def rO:type_of% @List.nodup_append:=@List.nodup_append
def sA:type_of% @List.mem_of_getElem?:=@List.mem_of_getElem?
def sC:type_of% @List.replicate_succ:=@List.replicate_succ
def sD:type_of% @Array.getElem?_modify:=@Array.getElem?_modify
def sT:type_of% @Array.size_range:=@Array.size_range
def ui:type_of% @Nat.lt_of_lt_of_le:=@Nat.lt_of_lt_of_le
def uj:type_of% @Array.mem_toList_iff:=@Array.mem_toList_iff
def uk:type_of% @Nat.eq_zero_or_pos:=@Nat.eq_zero_or_pos
def um:type_of% @Array.getElem?_append_right:=@Array.getElem?_append_right
def uo:type_of% @List.mem_iff_getElem?:=@List.mem_iff_getElem?
def uu:type_of% @Option.isSome_none:=@Option.isSome_none
def uz:type_of% @List.getElem?_take:=@List.getElem?_take
def uA:type_of% @decide_eq_false_iff_not:=@decide_eq_false_iff_not
def uB:type_of% @List.idxOf_eq_length:=@List.idxOf_eq_length
inductive AV where
 |int (n:Int)
 |ik (k:Nat) (n:Int)
 |bool (b:Bool)
 |str (s:List UInt8)
 |agg (l:List AV)
 |bM (l:List AV)
 |ag
 |emp
 |aF (nn:Bool) (l:List AV)
 |arr (l:List AV)
 |sl (b u off len:Nat)
 |iy
 |a8 (v:AV)
 |ptr (b u off:Nat)
 |kS
 |func (f:Nat) (cz:List AV)
 |hY
 |iface (t:Nat) (v:AV)
 |cP (b:Nat)
 |qh
 |aO
 deriving Inhabited
inductive fb where
 |gN|live|dead
 |map (es:List (AV×AV))
 deriving Inhabited
def fb.je:fb->Bool
 |.map _=>true
 |_=>false
def fb.jU:fb->Bool
 |.live=>true
 |.map _=>true
 |_=>false
def fb.shape:fb->fb
 |.map _=>.map []
 |x=>x
def fb.fG:fb->Bool
 |.gN=>true
 |.live=>true
 |_=>false
def fb.isLive:fb->Bool
 |.live=>true
 |_=>false
structure al where
 k:Option Nat
 cells:List AV
 st:fb
 deriving Inhabited
inductive Rf where
 |v (k:Nat)
 |t (d:Nat)
 |c (x:AV)
 deriving Inhabited
inductive AP where
 |add|sub|mul|quo|rem|lss|leq|gtr|geq|eql|neq|uC
 deriving Inhabited
inductive dh where
 |mv (x:Rf)
 |bin (o:AP) (x y:Rf)
 |beq (neg:Bool) (x y:Rf)
 |seq (neg:Bool) (n:Nat) (x y:Rf)
 |not (x:Rf)
 |pick (c a b:Rf)
 |len (x:Rf)
 |mx (max:Bool) (x y:Rf)
 |cV (x:Rf) (off:Nat) (k:Option Nat)
 |bu (x i:Rf) (st:Nat)
 |fN (x i:Rf) (n:Nat) (k:Option Nat)
 |o9 (x:Rf)
 |fD (x:Rf)
 |gw (n:Nat)
 |jX (p x:Rf) (n:Nat)
 |iz (zero:List AV) (parts:List (Nat×Nat×Rf))
 |fld (x:Rf) (off:Nat) (k:Option Nat)
 |idx (x i:Rf) (n:Nat) (k:Option Nat)
 |ext (x:Rf) (i:Nat)
 |BG (f:Nat) (cz:List Rf)
 |Mm (t:Nat) (x:Rf)
 |bN (parts:List Rf) (st:Nat)
 |bW (parts:List Rf) (st:Nat)
 |qX (x:Rf) (lo hi:Option Rf) (st:Nat)
 |Z2 (x hi mx:Rf) (st:Nat)
 |k9 (f:Nat) (args:List Rf)
 |l5 (x:Rf) (args:List Rf)
 |inv (x:Rf) (qQ:List (Nat×Nat)) (args:List Rf)
 |oy (neg:Bool) (x:Rf)
 |cW (x:Rf) (k:Option Nat)
 |ld (x:Rf) (k:Option Nat)
 |can (f:Nat) (args:List Rf)
 |Et (x:Rf)
 |rp (f:Nat) (args:List Rf)
 |vw (x:Rf) (k:Option Nat)
 |lW (zero:List AV) (k:Option Nat)
 |jc (len cap:Rf) (zero:List AV) (k:Option Nat)
 |lz (parts:List Rf) (k:Option Nat)
 |nl (k:Option Nat)
 |app (s x:Rf) (k:Option Nat)
 |st (p x:Rf) (n:Nat)
 |cp (s x:Rf) (k:Option Nat)
 |fE (f:Nat) (args:List Rf)
 |lE (x:Rf) (args:List Rf)
 |sU (x:Rf) (qQ:List (Nat×Nat)) (args:List Rf)
 |Z3 (x:Rf)
 |vA (x:Rf) (z:List AV) (k:Option Nat)
 |yr
 |vB (x:Rf) (kd:Nat) (k:Rf) (z:AV) (ok:Bool)
 |AO (x:Rf)
 |vz (m:Rf) (kd:Nat) (k x:Rf)
 |cvu (x:Rf)
 |gtu (x y:Rf)
 |shu (x y:Rf)
 |Mn (d s:Rf) (k:Option Nat)
 |Mj (x:Rf)
 |Bu (x:Rf)
 |xV (m:Rf) (kd:Nat) (k x:Rf)
 |Mb (x:Rf)
 |Mk (x i:Rf)
 |BD (x:Rf)
 |FJ (x y:Rf)
 |Mp (neg:Bool) (n:Nat) (x y:Rf)
 |slz (x:Rf) (st:Nat)
 |sB (st:Nat)
 |Ml (neg:Bool) (x y:Rf)
 |sli (x:Rf) (lo hi:Option Rf) (st:Nat)
 deriving Inhabited
structure Ln where
 op:dh
 g:Option (Rf×Bool):=none
 prev:Bool:=false
 deriving Inhabited
abbrev Ln.p (o:dh):Ln:=⟨o,none,false⟩
abbrev Ln.v (n:Nat):Ln:=⟨.mv (.v n),none,false⟩
abbrev Ln.t (n:Nat):Ln:=⟨.mv (.t n),none,false⟩
abbrev Ln.x (k:Nat) (o:dh):Ln:=⟨o,some (.t k,true),false⟩
abbrev Ln.y (k:Nat) (o:dh):Ln:=⟨o,some (.t k,false),false⟩
structure gi where
 ls:List Ln
 outs:List (Nat×Nat)
 dM:List Nat
 fl:Option (Nat×Nat)
 deriving Inhabited
inductive IC where
 |skip
 |cF (r:gi)
 |seq (a b:IC)
 |cond (slot:Nat) (a b:IC)
 |jN (k:Nat) (a b:IC)
 |block (id:Nat) (c:IC)
 |loop (c:IC)
 |exit (id:Nat)
 |ret
 |ji (k:Nat)
 |lex (c:IC)
 |bad
 |cut (b:Bool) (c:IC)
 |Eu (c:IC)
 deriving Inhabited
structure Fn where
 np:Nat
 nv:Nat
 body:IC
 res:List (Nat×Option (Option Nat))
 fresh:Bool:=false
 deriving Inhabited
inductive Ex where
 |eQ|exit (id:Nat)|ret
 deriving Inhabited
structure St where
 vars:List AV
 fl:Option (Nat×AV)
 σ:List al
 deriving Inhabited
@[reducible] def nth:List AV->Nat->AV
 | [],_=>.aO
 |x::_,0=>x
 |_::r,n+1=>nth r n
@[reducible] def eu:List AV->Nat->AV->List AV
 | [],_,_=>[]
 |_::r,0,y=>y::r
 |x::r,n+1,y=>x::eu r n y
@[reducible] def aq:List al->Nat->Option al
 | [],_=>none
 |x::_,0=>some x
 |_::r,n+1=>aq r n
@[reducible] def ar:List al->Nat->al->List al
 | [],_,_=>[]
 |_::r,0,y=>y::r
 |x::r,n+1,y=>x::ar r n y
@[reducible] def pa:List AV->Nat->Option AV
 | [],_=>none
 |x::_,0=>some x
 |_::r,n+1=>pa r n
def bJ{a b:Type}(f:a->Option b):List a->Option (List b)
 | []=>some []
 |x::r=>match f x with
  |none=>none
  |some y=>match bJ f r with
   |none=>none
   |some s=>some (y::s)
def kU (n:Int):Bool:=decide (-9223372036854775808<=n)&&decide (n<=9223372036854775807)
@[reducible] def AV.cells:AV->List AV
 |.agg l=>l
 |x=>[x]
@[reducible] def aM:Option Nat->Nat
 |none=>1
 |some n=>n
def part (cs:List AV) (off:Nat):Option Nat->Option AV
 |none=>pa cs off
 |some n=>if off+n<=cs.length then some (.agg ((cs.drop off).take n))else none
def chunk (k:Option Nat):Nat->List AV->List AV
 |0,_=>[]
 |f+1,cs=>match k with
  |none=>match cs with
   | []=>[]
   |x::r=>x::chunk k f r
  |some n=>.agg (cs.take n)::chunk k f (cs.drop n)
mutual
def aR:AV->Bool
 |.sl .. | .ptr .. | .aO | .arr _ | .bM _ | .cP _=>false
 |.agg l | .func _ l=>aC l
 |.iface _ v=>aR v
 |_=>true
def aC:List AV->Bool
 | []=>true
 |x::r=>aR x&&aC r
end
def upto (σ:List al) (b u:Nat):Option al:=
 match aq σ b with
 |some B=>match B.st with
  |.dead=>none
  |.map _=>none
  |_=>if B.cells.length==u then some B else none
 |none=>none
def fW (σ:List al) (b u:Nat):Option al:=
 match aq σ b with
 |some B=>match B.st with
  |.dead=>none
  |_=>if B.cells.length==u then some B else none
 |none=>none
def fc (σ:List al) (b:Nat):Option (List (AV×AV)):=
 match aq σ b with
 |some B=>match B.st with
  |.map es=>if B.cells.length==0 then some es else none
  |_=>none
 |none=>none
def view (σ:List al) (fr:Bool):Nat->AV->Option AV
 |0,_=>none
 |f+1,x=>match x with
  |.sl b u off len=>match upto σ b u with
   |none=>none
   |some B=>if off+len*aM B.k<=B.cells.length then
     match bJ (view σ fr f) (chunk B.k len (B.cells.drop off))with
     |none=>none
     |some l=>some (.aF false l)
    else none
  |.ptr b u off=>match upto σ b u with
   |none=>none
   |some B=>if off==0&&B.cells.length==aM B.k&&B.st.isLive then
     match part B.cells 0 B.k with
     |none=>none
     |some y=>match view σ fr f y with
      |none=>none
      |some z=>some (.a8 z)
    else none
  |.agg l=>match bJ (view σ fr f) l with
   |none=>none
   |some l=>some (.agg l)
  |.bM _=>none
  |.func g l=>match bJ (view σ fr f) l with
   |none=>none
   |some l=>some (.func g l)
  |.iface t v=>match view σ fr f v with
   |none=>none
   |some v=>some (.iface t v)
  |.aF _ l=>if fr then none else some (.aF false l)
  |.ag=>some (.aF false [])
  |.emp=>some (.aF false [])
  |.a8 v=>if fr then none else some (.a8 v)
  |.aO=>none
  |.arr _=>none
  |.cP _=>some .qh
  |x=>some x
def vd:Nat:=12
def bP (σ:List al) (fr:Bool):AV->Option AV
 |.bM l=>match bJ (view σ fr vd) l with
  |none=>none
  |some l=>some (.bM l)
 |x=>view σ fr vd x
abbrev CE:=Nat->List AV->List al->Option (AV×List al)
def gh:AV->AV
 |.ag=>.aF false []
 |.emp=>.aF false []
 |.aF _ l=>.aF false l
 |x=>x
def wk:AV->AV
 |.agg l=>.agg (l.map gh)
 |x=>gh x
def jq (ce:CE) (f:Nat) (args:List AV):Option AV:=
 if aC args then
  match ce f (args.map wk) []with
  |some (v,a)=>bP a false v
  |none=>none
 else none
def wr (n:Int):Int:=(n+9223372036854775808)%18446744073709551616-9223372036854775808
def bin (o:AP) (x y:Int):Option AV:=
 match o with
 |.add=>if kU (x+y)then some (.int (x+y))else none
 |.sub=>if kU (x-y)then some (.int (x-y))else none
 |.mul=>if kU (x*y)then some (.int (x*y))else none
 |.quo=>if y==0 then none else if kU (x.tdiv y)then some (.int (x.tdiv y))else none
 |.rem=>if y==0 then none else some (.int (x.tmod y))
 |.lss=>some (.bool (decide (x<y)))
 |.leq=>some (.bool (decide (x<=y)))
 |.gtr=>some (.bool (decide (y<x)))
 |.geq=>some (.bool (decide (y<=x)))
 |.eql=>some (.bool (x==y))
 |.neq=>some (.bool (!(x==y)))
 |.uC=>some (.int (wr (x+y)))
def bg:AV->Bool
 |.aO | .bM _=>false
 |.agg l=>l.all fun
  |.aO | .bM _=>false
  |.agg _=>false
  |_=>true
 |_=>true
def tX:Option Nat->Option Nat->Bool
 |none,none=>true
 |some a,some b=>a==b
 |_,_=>false
inductive cQ where
 |new (B:al)
 |news (l:List al)
 |grow (b:Nat) (cs:List AV)
 deriving Inhabited
def oW (b:Nat):List cQ->Bool
 | []=>false
 |.grow a _::r=>b==a || oW b r
 |_::r=>oW b r
mutual
def js (n:Nat):AV->AV
 |.sl b u off len=>.sl (b+n) u off len
 |.ptr b u off=>.ptr (b+n) u off
 |.cP b=>.cP (b+n)
 |.agg l=>.agg (kL n l)
 |.bM l=>.bM (kL n l)
 |.func f l=>.func f (kL n l)
 |.arr l=>.arr (kL n l)
 |.iface t v=>.iface t (js n v)
 |x=>x
def kL (n:Nat):List AV->List AV
 | []=>[]
 |x::r=>js n x::kL n r
end
def Nw (n:Nat):List (AV×AV)->List (AV×AV)
 | []=>[]
 |(k,x)::r=>(k,js n x)::Nw n r
def pV (n:Nat):fb->fb
 |.map es=>.map (Nw n es)
 |x=>x
def gH (n:Nat) (B:al):al:=⟨B.k,kL n B.cells,pV n B.st⟩
def fitAll (st:Nat):List AV->Bool
 | []=>true
 |x::r=>x.cells.length==st&&bg x&&fitAll st r
def aP (σ:List al) (k:Option Nat):AV->Option (Nat×List AV)
 |.ag=>some (0,[])
 |.emp=>some (0,[])
 |.aF _ l=>if fitAll (aM k) l then some (l.length,l.flatMap AV.cells)else none
 |.arr l=>if fitAll (aM k) l then some (l.length,l.flatMap AV.cells)else none
 |.sl b u off len=>match upto σ b u with
  |some B=>if off+len*aM k<=B.cells.length/\aM B.k=aM k then some (len,(B.cells.drop off).take (len*aM k))else none
  |none=>none
 |_=>none
def dK:Nat:=1073741824
def byteOf:AV->Option UInt8
 |.ik 4 n=>if 0<=n/\n<=255 then some (UInt8.ofNat n.toNat)else none
 |_=>none
def bytesOf:List AV->Option (List UInt8)
 | []=>some []
 |x::r=>match byteOf x,bytesOf r with
  |some b,some s=>some (b::s)
  |_,_=>none
@[reducible] def eY:List (Nat×Nat)->Nat->Option Nat
 | [],_=>none
 |(a,b)::r,t=>if a==t then some b else eY r t
def eK (n:Nat) (l:List AV):List AV:=(List.replicate n l).flatten
def putAt (cs:List AV) (off:Nat) (new:List AV):List AV:=cs.take off++new++cs.drop (off+new.length)
def ia (cs:List AV):List (Nat×Nat×AV)->Option (List AV)
 | []=>some cs
 |(o,n,x)::r=>if x.cells.length==n&&decide (o+n<=cs.length)&&bg x then ia (putAt cs o x.cells) r else none
def uD (r:Rf->AV):Option Rf->Option Int
 |none=>some 0
 |some y=>match r y with
  |.int n=>some n
  |_=>none
def uE (r:Rf->AV):Option Rf->Option (Option Int)
 |none=>some none
 |some y=>match r y with
  |.int n=>some (some n)
  |_=>none
def gv (st:Nat):List AV->Bool
 | []=>true
 |x::_=>x.cells.length==st
@[reducible] def fk:List AV->List AV->Option Bool
 | [],[]=>some true
 |.int a::xs,.int b::ys=>match fk xs ys with
  |some c=>some (decide (a=b)&&c)
  |none=>none
 |_,_=>none
def ba:Nat->AV->Bool
 |0,.int _=>true
 |1,.str _=>true
 |n+2,.agg l=>l.length==n&&(fk l l).isSome
 |_,_=>false
def eC:AV->AV->Option Bool
 |.int a,.int b=>some (decide (a=b))
 |.str a,.str b=>some (decide (a=b))
 |.agg xs,.agg ys=>fk xs ys
 |_,_=>none
def cL:List (AV×AV)->AV->Option (Option AV)
 | [],_=>some none
 |(k,x)::r,y=>match eC y k with
  |some true=>some (some x)
  |some false=>cL r y
  |none=>none
def jf:List (AV×AV)->AV->AV->List (AV×AV)
 | [],_,_=>[]
 |(k,x)::r,y,z=>match eC y k with
  |some true=>(k,z)::r
  |_=>(k,x)::jf r y z
@[reducible] def iO:List AV->List AV->Option Bool
 | [],[]=>some true
 |.str a::xs,.str b::ys=>match iO xs ys with
  |some c=>some (decide (a=b)&&c)
  |none=>none
 |_,_=>none
def ev (ce:CE) (σ:List al) (nl:Nat) (ps:List cQ) (r:Rf->AV):dh->Option (AV×Option cQ)
 |.mv x=>some (r x,none)
 |.bin o x y=>match r x,r y with
  |.int a,.int b=>(bin o a b).map (·,none)
  |_,_=>none
 |.seq neg n x y=>match r x,r y with
  |.agg xs,.agg w=>if xs.length=n then(match fk xs w with
   |some b=>some (.bool (b != neg),none)
   |none=>none)else none
  |_,_=>none
 |.beq neg x y=>match r x,r y with
  |.bool a,.bool b=>some (.bool ((a==b) != neg),none)
  |_,_=>none
 |.not x=>match r x with
  |.bool b=>some (.bool (!b),none)
  |_=>none
 |.pick c a b=>match r c with
  |.bool true=>some (r a,none)
  |.bool false=>some (r b,none)
  |_=>none
 |.len x=>match r x with
  |.ag=>some (.int 0,none)
  |.emp=>some (.int 0,none)
  |.aF _ l=>some (.int l.length,none)
  |.sl _ _ _ n=>some (.int n,none)
  |_=>none
 |.mx m x y=>match r x,r y with
  |.int a,.int b=>some (.int (if m then(if a<b then b else a)else(if b<a then b else a)),none)
  |_,_=>none
 |.cV x off k=>match r x with
  |.ptr b u o=>some (.ptr b u (o+off),none)
  |.a8 v=>(part v.cells off k).map λy=>(.a8 y,none)
  |_=>none
 |.bu x i st=>match r x,r i with
  |.aF _ l,.int n=>if 0<=n then(match pa l n.toNat with|some y=>if y.cells.length==st then some (.a8 y,none)else none|none=>none)else none
  |.sl b u off len,.int n=>if 0<=n/\n<len then some (.ptr b u (off+n.toNat*st),none)else none
  |_,_=>none
 |.fN x i n k=>match r x,r i with
  |.ptr b u o,.int j=>if 0<=j/\j<n then some (.ptr b u (o+j.toNat*aM k),none)else none
  |.a8 v,.int j=>if 0<=j/\j<n then(part v.cells (j.toNat*aM k) k).map λy=>(.a8 y,none)else none
  |_,_=>none
 |.o9 x=>match r x with
  |.ptr b u o=>some (.ptr b u o,none)
  |.a8 v=>some (.a8 v,none)
  |_=>none
 |.fD x=>if aR (r x)then some (.a8 (r x),none)else none
 |.gw _=>some (.aO,none)
 |.jX _ x n=>if aR (r x)&&(r x).cells.length==n then some (.a8 (r x),none)else none
 |.iz z ps=>(ia z (ps.map λp=>(p.1,p.2.1,r p.2.2))).map λl=>(.agg l,none)
 |.fld x off k=>match r x with
  |.agg l=>(part l off k).map (·,none)
  |_=>none
 |.idx x i n k=>match r x,r i with
  |.agg l,.int j=>if 0<=j/\j<n then(part l (j.toNat*aM k) k).map (·,none)else none
  |_,_=>none
 |.ext x i=>match r x with
  |.bM l=>(pa l i).map (·,none)
  |_=>none
 |.BG f cs=>some (.func f (cs.map r),none)
 |.Mm t x=>some (.iface t (r x),none)
 |.bN ps st=>if aC (ps.map r)&&fitAll st (ps.map r)then some (.aF false (ps.map r),none)else none
 |.bW ps st=>if fitAll st (ps.map r)then some (.arr (ps.map r),none)else none
 |.qX x A e st=>match uD r A,uE r e with
  |some a,some b=>(match r x with
   |.aF g l=>
    let h:=b.getD l.length
    if(0<=a/\a<=h/\h<=l.length)/\gv st l=true then some (.aF (g&&decide (0<l.length)) ((l.drop a.toNat).take (h.toNat-a.toNat)),none)else none
   |.sl D u off len=>(match upto σ D u with
    |some B=>
     let h:=b.getD len
     if(0<=a/\a<=h/\h<=len)/\aM B.k=st then some (.sl D u (off+a.toNat*st) (h.toNat-a.toNat),none)else none
    |none=>none)
   |_=>none)
  |_,_=>none
 |.sli x A e st=>match uD r A,uE r e with
  |some a,some b=>(match r x with
   |.aF g l=>
    let h:=b.getD l.length
    if(0<=a/\a<=h/\h<=l.length)/\gv st l=true then some (.aF (g&&decide (0<l.length)) ((l.drop a.toNat).take (h.toNat-a.toNat)),none)else none
   |_=>none)
  |_,_=>none
 |.Z2 x e mx st=>match r x,r e,r mx with
  |.aF g l,.int h,.int m=>if(0<=h/\h<=m/\m<=l.length)/\gv st l=true then some (.aF (g&&decide (0<l.length)) (l.take h.toNat),none)else none
  |_,_,_=>none
 |.Et x=>match r x with
  |.int n=>if kU n then some (.int n,none)else none
  |.ik _ n=>if kU n then some (.int n,none)else none
  |_=>none
 |.k9 f args=>(jq ce f (args.map r)).map (·,none)
 |.l5 x args=>match r x with
  |.func f q=>(jq ce f (args.map r++q)).map (·,none)
  |_=>none
 |.inv x C args=>match r x with
  |.iface t v=>match eY C t with
   |some f=>(jq ce f (v::args.map r)).map (·,none)
   |none=>none
  |_=>none
 |.oy neg x=>match r x with
  |.ag=>some (.bool (!neg),none)
  |.aF true _=>some (.bool neg,none)
  |.aF false (_::_)=>some (.bool neg,none)
  |.sl b u _ _=>match upto σ b u with
   |some B=>match B.st with
    |.live=>some (.bool neg,none)
    |_=>none
   |none=>none
  |_=>none
 |.cW x k=>match r x with
  |.a8 v=>match k,v with
   |none,.agg _=>none
   |none,v=>some (v,none)
   |some n,.agg l=>if l.length==n then some (.agg l,none)else none
   |some _,_=>none
  |_=>none
 |.can f args=>if aC (args.map r)then
   match ce f (args.map r) []with
   |some (v,d)=>some (js nl v,some (.news (d.map (gH nl))))
   |none=>none
  else none
 |.ld x k=>match r x with
  |.a8 v=>match k,v with
   |none,.agg _=>none
   |none,v=>some (v,none)
   |some n,.agg l=>if l.length==n then some (.agg l,none)else none
   |some _,_=>none
  |.ptr b u o=>match upto σ b u with
   |some B=>if B.st.isLive then(part B.cells o k).map (·,none)else none
   |none=>none
  |_=>none
 |.rp f args=>match bJ (λx=>view σ false vd (r x)) args with
  |some E=>match ce f E []with
   |some (v,d)=>(bP d true v).map (·,none)
   |none=>none
  |none=>none
 |.vw x k=>if(r x).cells.length==aM k&&bg (r x)then some (.ptr nl (aM k) 0,some (.new ⟨k,(r x).cells,.live⟩))else none
 |.lW z k=>if z.length==aM k then some (.ptr nl (aM k) 0,some (.new ⟨k,z,.live⟩))else none
 |.jc n c z k=>match r n,r c with
  |.int n,.int c=>if 0<=n/\n<=c/\c<=dK/\z.length=aM k then
    some (.sl nl (eK c.toNat z).length 0 n.toNat,some (.new ⟨k,eK c.toNat z,.live⟩))else none
  |_,_=>none
 |.lz ps k=>if fitAll (aM k) (ps.map r)then some (.sl nl ((ps.map r).flatMap AV.cells).length 0 ps.length,some (.new ⟨k,(ps.map r).flatMap AV.cells,.live⟩))else none
 |.nl k=>some (.sl nl 0 0 0,some (.new ⟨k,[],.gN⟩))
 |.app s x k=>match aP σ k (r x)with
  |none=>none
  |some (n,cs)=>match r s with
   |.sl b u off len=>match upto σ b u with
    |some B=>if off==0&&u==len*aM k&&decide (len+n<=dK) && !oW b ps&&tX B.k k then
      (if n==0 then some (.sl b u off len,none)else if cs.length==0 then none else some (.sl b (u+cs.length) 0 (len+n),some (.grow b cs)))else none
    |none=>none
   |.ag=>if n==0 then some (.ag,none)else if n<=dK then some (.sl nl cs.length 0 n,some (.new ⟨k,cs,.live⟩))else none
   |.emp=>if n==0 then some (.emp,none)else if n<=dK then some (.sl nl cs.length 0 n,some (.new ⟨k,cs,.live⟩))else none
   |.arr l=>if n==0 then some (if aC l then .aF true l else .arr l,none)else if fitAll (aM k) l&&decide (l.length+n<=dK)then some (.sl nl (l.flatMap AV.cells++cs).length 0 (l.length+n),some (.new ⟨k,l.flatMap AV.cells++cs,.live⟩))else none
   |_=>none
 |.Z3 x=>match r x with
  |.ag=>some (.int 0,none)
  |_=>none
 |.yr=>some (.cP nl,some (.new ⟨some 0,[],.map []⟩))
 |.vB x F k z ok=>match r x with
  |.cP b=>match fc σ b with
   |some es=>if ba F (r k)then(match cL es (r k)with
    |some (some v)=>some (if ok then .bM [v,.bool true]else v,none)
    |some none=>some (if ok then .bM [z,.bool false]else z,none)
    |none=>none)else none
   |none=>none
  |_=>none
 |.AO x=>match r x with
  |.cP b=>match fc σ b with
   |some es=>some (.int es.length,none)
   |none=>none
  |_=>none
 |.cvu x=>match r x with
  |.int n=>if 0<=n/\n<=18446744073709551615 then some (.ik 7 n,none)else none
  |.ik _ n=>if 0<=n/\n<=18446744073709551615 then some (.ik 7 n,none)else none
  |_=>none
 |.Mj x=>match r x with
  |.int n=>if 0<=n/\n<=255 then some (.ik 4 n,none)else none
  |_=>none
 |.Bu x=>match aP σ none (r x)with
  |some (_,cs)=>match bytesOf cs with
   |some s=>some (.str s,none)
   |none=>none
  |none=>none
 |.Ml neg x y=>match r x,r y with
  |.ik k a,.ik j b=>if k=j then some (.bool ((a==b) != neg),none)else none
  |_,_=>none
 |.sB _=>some (.emp,none)
 |.slz x _=>match r x with
  |.ag=>some (.emp,none)
  |.emp=>some (.emp,none)
  |.aF _ _=>some (.emp,none)
  |.sl _ _ _ _=>some (.emp,none)
  |_=>none
 |.Mb x=>match r x with
  |.str s=>some (.aF false (s.map λb=>.ik 4 (b.toNat:Int)),none)
  |_=>none
 |.Mk x i=>match r x,r i with
  |.str s,.int n=>if 0<=n then(match s[n.toNat]? with
   |some b=>some (.ik 4 (b.toNat:Int),none)
   |none=>none)else none
  |_,_=>none
 |.BD x=>match r x with
  |.int n=>some (.ik 4 (n%256),none)
  |_=>none
 |.FJ x y=>match r x,r y with
  |.int a,.int n=>if 0<=n/\n<64 then some (.int (a.fdiv (2^n.toNat)),none)else none
  |.int a,.ik 7 n=>if 0<=n/\n<64 then some (.int (a.fdiv (2^n.toNat)),none)else none
  |_,_=>none
 |.Mp neg n x y=>match r x,r y with
  |.agg xs,.agg w=>if xs.length=n then(match iO xs w with
   |some b=>some (.bool (b != neg),none)
   |none=>none)else none
  |_,_=>none
 |.gtu x y=>match r x,r y with
  |.ik 7 a,.ik 7 b=>some (.bool (decide (b<a)),none)
  |_,_=>none
 |.shu x y=>match r x,r y with
  |.ik 7 a,.int n=>if 0<=n/\n<64 then some (.ik 7 (a.fdiv (2^n.toNat)),none)else none
  |.ik 7 a,.ik 7 n=>if 0<=n/\n<64 then some (.ik 7 (a.fdiv (2^n.toNat)),none)else none
  |_,_=>none
 |.st .. | .cp .. | .fE .. | .lE .. | .sU .. | .vA .. | .vz .. | .Mn .. | .xV ..=>none
@[reducible] def rv (vars env:List AV):Rf->AV
 |.v k=>nth vars k
 |.t d=>nth env d
 |.c x=>x
def want (vars env:List AV):Option (Rf×Bool)->Option Bool
 |none=>some true
 |some (g,w)=>match rv vars env g with
  |.bool b=>some (b==w)
  |.bM []=>some false
  |_=>none
@[reducible] def sV (σ:List al) (b:Nat) (cs:List AV):List al:=
 match aq σ b with
 |some B=>ar σ b ⟨B.k,B.cells++cs,.live⟩
 |none=>σ
@[reducible] def o5 (σ:List al) (b:Nat) (es:List (AV×AV)):List al:=
 match aq σ b with
 |some B=>ar σ b ⟨B.k,B.cells,.map es⟩
 |none=>σ
def gk (σ:List al):cQ->List al
 |.new B=>σ ++ [B]
 |.news l=>σ++l
 |.grow b cs=>sV σ b cs
def gf (ce:CE) (σ:List al) (r:Rf->AV):dh->Option (AV×List al)
 |.st p x n=>match r p with
  |.ptr b u o=>match upto σ b u with
   |some B=>if(r x).cells.length==n&&o+n<=B.cells.length&&B.st.isLive&&bg (r x)then some (.aO,ar σ b ⟨B.k,putAt B.cells o (r x).cells,B.st⟩)else none
   |none=>none
  |_=>none
 |.cp s x k=>match aP σ k (r x)with
  |none=>none
  |some (n,cs)=>match r s with
   |.sl b u off len=>match upto σ b u with
    |some B=>
     if off==0&&decide (len+n<=dK)&&tX B.k k then
      (if n==0 then some (.sl b u off len,σ)
       else if cs.length==0 then none else if u==len*aM k then some (.sl b (u+cs.length) 0 (len+n),ar σ b ⟨B.k,B.cells++cs,.live⟩)
       else if(len+n)*aM k<=u then some (.sl b u 0 (len+n),ar σ b ⟨B.k,putAt B.cells (len*aM k) cs,B.st⟩)
       else none)
     else none
    |none=>none
   |.ag=>if n==0 then some (.ag,σ)else if n<=dK then some (.sl σ.length cs.length 0 n,σ ++ [⟨k,cs,.live⟩])else none
   |.emp=>if n==0 then some (.emp,σ)else if n<=dK then some (.sl σ.length cs.length 0 n,σ ++ [⟨k,cs,.live⟩])else none
   |.arr l=>if n==0 then some (if aC l then .aF true l else .arr l,σ)else if fitAll (aM k) l&&decide (l.length+n<=dK)then some (.sl σ.length (l.flatMap AV.cells++cs).length 0 (l.length+n),σ ++ [⟨k,l.flatMap AV.cells++cs,.live⟩])else none
   |_=>none
 |.fE f args=>ce f (args.map r) σ
 |.lE x args=>match r x with
  |.func f a=>ce f (args.map r++a) σ
  |_=>none
 |.sU x e args=>match r x with
  |.iface t v=>match eY e t with
   |some f=>ce f (v::args.map r) σ
   |none=>none
  |_=>none
 |.vA x z k=>match r x with
  |.sl b u off len=>match upto σ b u with
   |some B=>if 0<len/\off+len*aM k<=B.cells.length/\aM B.k=aM k/\z.length=aM k/\B.st.isLive=true then some (.aO,ar σ b ⟨B.k,putAt B.cells off (eK len z),B.st⟩)else none
   |none=>none
  |_=>none
 |.vz m g k x=>match r m with
  |.cP b=>match fc σ b with
   |some es=>if ba g (r k)&&aR (r x)then(match cL es (r k)with
    |some none=>some (.aO,o5 σ b (es ++ [(r k,r x)]))
    |_=>none)else none
   |none=>none
  |_=>none
 |.xV m g k x=>match r m with
  |.cP b=>match fc σ b with
   |some es=>if ba g (r k)&&bg (r x)then(match cL es (r k)with
    |some none=>some (.aO,o5 σ b (es ++ [(r k,r x)]))
    |some (some _)=>some (.aO,o5 σ b (jf es (r k) (r x)))
    |none=>none)else none
   |none=>none
  |_=>none
 |.Mn d s k=>match aP σ k (r s)with
  |none=>none
  |some (n,cs)=>match r d with
   |.sl b u off len=>match upto σ b u with
    |some B=>if off+len*aM k<=B.cells.length/\aM B.k=aM k/\B.st.isLive=true then
      (if min n len=0 then some (.int 0,σ)else some (.int (min n len:Nat),ar σ b ⟨B.k,putAt B.cells off (cs.take (min n len*aM k)),B.st⟩))else none
    |none=>none
   |_=>none
 |op=>match ev ce σ σ.length [] r op with
  |some (v,some p)=>some (v,gk σ p)
  |some (v,none)=>some (v,σ)
  |none=>none
def dh.lf:dh->Bool
 |.st .. | .cp .. | .fE .. | .lE .. | .sU .. | .vA .. | .vz .. | .Mn .. | .xV ..=>true
 |_=>false
def dh.lY:dh->Bool
 |.can .. | .vw .. | .lW .. | .jc .. | .lz .. | .nl .. | .app .. | .yr=>true
 |_=>false
structure LS where
 env:List AV
 aL:List al
 σ:List al
def dm (ce:CE) (vars:List AV) (s:LS) (l:Ln):Option LS:=
 match want vars s.env l.g with
 |none=>none
 |some false=>some ⟨.bM []::s.env,s.aL,s.σ⟩
 |some true=>if l.op.lf then
   match gf ce s.σ (rv vars s.env) l.op with
   |some (v,a)=>some ⟨v::s.env,[],a⟩
   |none=>none
  else match ev ce (if l.prev then s.aL else s.σ) s.σ.length [] (rv vars s.env) l.op with
   |some (v,none)=>some ⟨v::s.env,if l.op.lY then s.σ else s.aL,s.σ⟩
   |some (v,some p)=>some ⟨v::s.env,s.σ,gk s.σ p⟩
   |none=>none
def lines (ce:CE) (vars:List AV):List Ln->LS->Option LS
 | [],s=>some s
 |l::ls,s=>match dm ce vars s l with
  |none=>none
  |some s=>lines ce vars ls s
@[reducible] def outs (env:List AV):List (Nat×Nat)->List AV->List AV
 | [],vs=>vs
 |(k,d)::r,vs=>outs env r (eu vs k (nth env d))
@[reducible] def dM:List Nat->List AV->List AV
 | [],vs=>vs
 |k::r,vs=>dM r (eu vs k .aO)
def dc (ce:CE) (r:gi) (s:St):Option St:=
 match lines ce s.vars r.ls ⟨[],s.σ,s.σ⟩with
 |some q=>some {vars:=dM r.dM (outs q.env r.outs s.vars),fl:=match r.fl with|some (t,d)=>some (t,nth q.env d)|none=>none,σ:=q.σ}
 |none=>none
def iter (f:St->Option (Ex×St)):Nat->St->Option (Ex×St)
 |0,_=>none
 |k+1,s=>match f s with
  |some (.eQ,s)=>iter f k s
  |x=>x
def reach (σ:List al):Nat->AV->List Nat->List Nat
 |0,_,acc=>acc
 |f+1,x,acc=>match x with
  |.sl b _ _ _=>if acc.contains b then acc else match aq σ b with
   |some B=>B.cells.foldl (λacc y=>reach σ f y acc) (b::acc)
   |none=>acc
  |.ptr b _ _=>if acc.contains b then acc else match aq σ b with
   |some B=>B.cells.foldl (λacc y=>reach σ f y acc) (b::acc)
   |none=>acc
  |.agg l | .bM l | .func _ l=>l.foldl (λacc y=>reach σ f y acc) acc
  |.iface _ v=>reach σ f v acc
  |_=>acc
def bG (p:Nat->Bool):Nat->List al->List al
 |_,[]=>[]
 |n,B::r=>(if p n then⟨B.k,B.cells,.dead⟩else B)::bG p (n+1) r
def eE (σ:List al):AV->Bool
 |.sl b u _ _=>match upto σ b u with
  |some B=>match B.st with
   |.live=>true
   |_=>false
  |none=>false
 |.aF a _=>a
 |_=>false
def wH (n:Nat):AV->Bool
 |.sl b _ _ _=>decide (b<n)
 |.ptr b _ _=>decide (b<n)
 |.cP b=>decide (b<n)
 |.aO=>true
 |x=>aR x
def mg (n:Nat):AV->Bool
 |.arr _=>false
 |.sl b _ _ _=>decide (b<n)
 |.ptr b _ _=>decide (b<n)
 |.cP b=>decide (b<n)
 |.agg l | .bM l | .func _ l=>l.all (wH n)
 |.iface _ v=>aR v
 |_=>true
def NV (n:Nat):fb->Bool
 |.map es=>es.all λe=>mg n e.2
 |_=>true
def uF (n:Nat):Nat->List al->Bool
 |0,_=>true
 |_,[]=>true
 |m+1,B::r=>(B.cells.all (mg n)&&NV n B.st)&&uF n m r
def exec (n:Nat) (ce:CE):IC->St->Option (Ex×St)
 |.skip,s=>some (.eQ,s)
 |.cF r,s=>match dc ce r s with
  |some s=>some (.eQ,s)
  |none=>none
 |.seq a b,s=>match exec n ce a s with
  |some (.eQ,s)=>exec n ce b s
  |x=>x
 |.cond slot a b,s=>match s.fl with
  |some (t,.bool c)=>if t==slot then(if c then exec n ce a {s with fl:=none}else exec n ce b {s with fl:=none})else none
  |_=>none
 |.jN k a b,s=>match nth s.vars k with
  |.bool c=>if c then exec n ce a s else exec n ce b s
  |_=>none
 |.block id c,s=>match exec n ce c s with
  |some (.exit g, s)=>if g == id then some (.eQ,s)else some (.exit g, s)
  |x=>x
 |.loop c,s=>iter (exec n ce c) n s
 |.exit id,s=>some (.exit id,s)
 |.ret,s=>some (.ret,s)
 |.ji k,s=>
  let h:=reach s.σ vd (nth s.vars k) []
  match view (bG (λb=>!h.contains b) 0 s.σ) false vd (nth s.vars k)with
  |some v=>some (.eQ,{s with vars:=eu s.vars k (if eE s.σ (nth s.vars k)then(match v with | .aF _ l=>.aF true l|x=>x)else v),σ:=bG (λb=>h.contains b) 0 s.σ})
  |none=>none
 |.bad,_=>none
 |.cut _ c,s=>exec n ce c s
 |.Eu c,s=>exec n ce c s
 |.lex c,s=>match exec n ce c s with
  |some (.ret,d)=>some (.ret,d)
  |some (e,d)=>
   let m:=s.σ.length
   if d.vars.all (mg m)&&uF m m d.σ&&(match d.fl with|some _=>false|none=>true)then some (e,{d with σ:=d.σ.take m})else none
  |none=>none
def lg (s:St):Nat×Option (Option Nat)->Option AV
 |(k,none)=>some (nth s.vars k)
 |(k,some a)=>match ev (λ_ _ _=>none) s.σ 0 [] (λ_=>nth s.vars k) (.ld (.v 0) a)with
  |some (v,_)=>some v
  |none=>none
def results (fn:Fn) (s:St):Option AV:=
 match bJ (lg s) fn.res with
 |some [x]=>some x
 |some l=>some (.bM l)
 |none=>none
abbrev kv:=Nat->Option (CE->List AV->List al->Option (AV×List al))
def dN (G:Nat->Option Fn) (Q:kv) (n:Nat):Nat->CE
 |0=>λ_ _ _=>none
 |d+1=>λf args σ=>match Q f with
  |some p=>p (dN G Q n d) args σ
  |none=>match G f with
  |none=>none
  |some fn=>if args.length==fn.np then
    match exec n (dN G Q n d) fn.body {vars:=args++List.replicate (fn.nv-fn.np) .aO,fl:=none,σ}with
    |some (.exit _,_)=>none
    |some (_,s)=>(results fn s).map (·,s.σ)
    |none=>none
   else none
def isScalar:AV->Bool
 |.int _ | .bool _ | .str _=>true
 |_=>false
def vD:CE->List AV->Option AV:=λ_ args=>match args with
 | [.aF _ l]=>if l.all isScalar&&decide (l.length<=dK)then some (.aF false l)else none
 | [.ag]=>some (.aF false [])
 |_=>none
end Ab
