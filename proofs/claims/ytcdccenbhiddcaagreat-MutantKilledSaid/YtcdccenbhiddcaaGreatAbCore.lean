/- An abstract interpreter of a small language of straight-line regions, loops and calls, over immutable trees and owned blocks: its definitions. Condition: none. -/
set_option linter.all false
namespace Ab
def aa{p:Prop}(h:p:=by omega):p:=h
def ab{p:Prop}(h:p:=by simp):p:=h
def ai{p:Prop}(h:p:=by simp;omega):p:=h
def aI{p:Prop}(h:p:=by dsimp only;omega):p:=h
def ch{p:Prop}(h:p:=by simpa using h):p:=h
def cj{p:Prop}(h:p:=by rfl):p:=h
def cy{p:Prop}(h:p:=by simp at h):p:=h
def dA{p:Prop}(h:p:=by split<;>simp):p:=h
def dL{p:Prop}(h:p:=by simp[b5]):p:=h
def dS{p:Prop}(h:p:=by simp[b]):p:=h
def cV{p:Prop}(h:p:=by simpa using a):p:=h
def cW{p:Prop}(h:p:=by simp[d]):p:=h
def c7{p:Prop}(h:p:=by simp[ad,ay]at h):p:=h
def eT{p:Prop}(h:p:=by simpa using g):p:=h
def fx{p:Prop}(h:p:=by simpa using hn):p:=h
def l3{p:Prop}(h:p:=by assumption):p:=h
def gX{p:Prop}(h:p:=by simpa using e):p:=h
def gY{p:Prop}(h:p:=by simp[aC];omega):p:=h
def jj{p:Prop}(h:p:=by funext q;split<;>simp_all):p:=h
def jl{p:Prop}(h:p:=by simp[want,rv,a]):p:=h
def jm{p:Prop}(h:p:=by simpa using f):p:=h
def jo{p:Prop}(h:p:=by rw[jR,jR]):p:=h
def km{p:Prop}(h:p:=by simp only[execOp,ho]):p:=h
def kn{p:Prop}(h:p:=by have:=d.len;omega):p:=h
def l4{p:Prop}(h:p:=by unfold VR;exact⟨[],rfl,rfl⟩):p:=h
def l5{p:Prop}(h:p:=by simp only[mz,exec]at a ⊢;rw[a];simpa[f]using e):p:=h
def l6{p:Prop}(h:p:=by unfold nz nB;simp only[<-fg];rfl):p:=h
def l7{p:Prop}(h:p:=by simp[iE,ad,ay]at h):p:=h
def l8{p:Prop}(h:p:=by rw[show((k+j+1:Nat):Int)-1=((k+j:Nat):Int)by omega];exact h):p:=h
def oq{p:Prop}(h:p:=by simp[Ab.results,br,aM,gf,nth]):p:=h
def rj{p:Prop}(h:p:=by cases e<;>first|exact h _ _ d (g.put f)|exact⟨d,by simp⟩|exact ME d):p:=h
def rk{p:Prop}(h:p:=by unfold ak.dW;repeat (first|rw[ah (by assumption)]|rw[ae (by assumption)]|rw[ae (by omega)])):p:=h
def rl{p:Prop}(h:p:=by show(match kT (cJ m c (s:Int)) 0 (bF m c s).1 with|some n=>_|none=>_:List (List Int)×List Int).1=_;rw[l]):p:=h
def rm{p:Prop}(h:p:=by show(match kT (cJ m c (s:Int)) 0 (bF m c s).1 with|some n=>_|none=>_:List (List Int)×List Int).2=_;rw[l]):p:=h
def ae:type_of% @if_neg:=@if_neg
def ah:type_of% @if_pos:=@if_pos
def aD:type_of% @Bool.and_eq_true:=@Bool.and_eq_true
def aS:type_of% @Option.some.injEq:=@Option.some.injEq
def aY:type_of% @Nat.le_refl:=@Nat.le_refl
def bC:type_of% @List.map_cons:=@List.map_cons
def bJ:type_of% @beq_iff_eq:=@beq_iff_eq
def bR:type_of% @List.mem_cons:=@List.mem_cons
def cd:type_of% @List.mem_iff_getElem:=@List.mem_iff_getElem
def cf:type_of% @eq_false:=@eq_false
def cn:type_of% @if_true:=@if_true
def cp:type_of% @List.mem_append:=@List.mem_append
def cq:type_of% @eq_true:=@eq_true
def cB:type_of% @List.mem_map:=@List.mem_map
def cG:type_of% @List.getElem?_eq_getElem:=@List.getElem?_eq_getElem
def cM:type_of% @List.getElem?_eq_some_iff:=@List.getElem?_eq_some_iff
def cO:type_of% @decide_eq_true_eq:=@decide_eq_true_eq
def cP:type_of% @List.length_map:=@List.length_map
def cZ:type_of% @Bool.false_eq_true:=@Bool.false_eq_true
def dg:type_of% @if_false:=@if_false
def dz:type_of% @Int.eq_ofNat_of_zero_le:=@Int.eq_ofNat_of_zero_le
def dG:type_of% @List.getElem?_append_left:=@List.getElem?_append_left
def dX:type_of% @Option.bind_eq_some_iff:=@Option.bind_eq_some_iff
def ez:type_of% @List.length_append:=@List.length_append
def eD:type_of% @List.take_add_one:=@List.take_add_one
def eE:type_of% @List.map_append:=@List.map_append
def eK:type_of% @Array.getElem?_eq_some_iff:=@Array.getElem?_eq_some_iff
def eL:type_of% @Nat.zero_add:=@Nat.zero_add
def eO:type_of% @List.length_cons:=@List.length_cons
def eQ:type_of% @List.getElem?_map:=@List.getElem?_map
def eS:type_of% @List.all_eq_true:=@List.all_eq_true
def fa:type_of% @Nat.add_mul:=@Nat.add_mul
def fc:type_of% @List.length_pos_iff:=@List.length_pos_iff
def ff:type_of% @List.pairwise_cons:=@List.pairwise_cons
def fk:type_of% @List.getElem?_append_right:=@List.getElem?_append_right
def fO:type_of% @List.append_assoc:=@List.append_assoc
def fY:type_of% @List.eq_nil_of_length_eq_zero:=@List.eq_nil_of_length_eq_zero
def gw:type_of% @List.mem_range:=@List.mem_range
def gQ:type_of% @Array.getElem?_toList:=@Array.getElem?_toList
def gR:type_of% @List.flatMap_cons:=@List.flatMap_cons
def gZ:type_of% @List.getD_eq_getElem?_getD:=@List.getD_eq_getElem?_getD
def hJ:type_of% @List.take_of_length_le:=@List.take_of_length_le
def iv:type_of% @Array.getElem?_eq_getElem:=@Array.getElem?_eq_getElem
def iF:type_of% @List.drop_zero:=@List.drop_zero
def iG:type_of% @List.set_append:=@List.set_append
def iH:type_of% @List.length_set:=@List.length_set
def jg:type_of% @Nat.mul_le_mul:=@Nat.mul_le_mul
def ji:type_of% @List.length_take:=@List.length_take
def jr:type_of% @beq_self_eq_true:=@beq_self_eq_true
def js:type_of% @List.append_nil:=@List.append_nil
def jt:type_of% @List.mem_filter:=@List.mem_filter
def jO:type_of% @List.getElem?_drop:=@List.getElem?_drop
def jP:type_of% @Option.map_eq_some_iff:=@Option.map_eq_some_iff
def jS:type_of% @List.mem_flatMap:=@List.mem_flatMap
def jT:type_of% @Classical.byContradiction:=@Classical.byContradiction
def ke:type_of% @List.mem_of_getElem?:=@List.mem_of_getElem?
def kg:type_of% @Int.toNat_natCast:=@Int.toNat_natCast
def kL:type_of% @Array.getElem?_append_left:=@Array.getElem?_append_left
def kM:type_of% @List.nil_append:=@List.nil_append
def kP:type_of% @List.drop_of_length_le:=@List.drop_of_length_le
def kQ:type_of% @List.drop_eq_getElem_cons:=@List.drop_eq_getElem_cons
def kU:type_of% @List.cons_append:=@List.cons_append
def kV:type_of% @List.pairwise_map:=@List.pairwise_map
def kW:type_of% @List.take_length:=@List.take_length
def lV:type_of% @List.getElem?_eq_none:=@List.getElem?_eq_none
def lY:type_of% @Int.lt_trichotomy:=@Int.lt_trichotomy
def mH:type_of% @List.replicate_succ:=@List.replicate_succ
def mJ:type_of% @Array.length_toList:=@Array.length_toList
def mR:type_of% @Array.getD_eq_getD_getElem?:=@Array.getD_eq_getD_getElem?
def mS:type_of% @Option.bind_some:=@Option.bind_some
def mT:type_of% @List.map_congr_left:=@List.map_congr_left
def nZ:type_of% @Nat.mul_le_mul_right:=@Nat.mul_le_mul_right
def n5:type_of% @Array.mem_toList_iff:=@Array.mem_toList_iff
def n9:type_of% @Option.isSome_iff_exists:=@Option.isSome_iff_exists
def oa:type_of% @List.getElem?_toArray:=@List.getElem?_toArray
def oj:type_of% @Option.isSome_none:=@Option.isSome_none
def ou:type_of% @List.length_filter_le:=@List.length_filter_le
def pL:type_of% @List.pairwise_iff_getElem:=@List.pairwise_iff_getElem
def pM:type_of% @List.nodup_iff_pairwise_ne:=@List.nodup_iff_pairwise_ne
def pP:type_of% @List.exists_mem_of_ne_nil:=@List.exists_mem_of_ne_nil
def rn:type_of% @List.dropLast_concat_getLast:=@List.dropLast_concat_getLast
inductive AV where
 |int (n:Int)
 |ik (k:Nat) (n:Int)
 |bool (b:Bool)
 |str (s:List UInt8)
 |agg (l:List AV)
 |bz (l:List AV)
 |ag
 |emp
 |aA (nn:Bool) (l:List AV)
 |arr (l:List AV)
 |sl (b u off len:Nat)
 |gV
 |ar (v:AV)
 |ptr (b u off:Nat)
 |gu
 |func (f:Nat) (cT:List AV)
 |eP
 |iface (t:Nat) (v:AV)
 |b8 (b:Nat)
 |tK
 |au
 deriving Inhabited
inductive c6 where
 |fN|live|dead
 |map (es:List (AV×AV))
 deriving Inhabited
def c6.isMap:c6->Bool
 |.map _=>true
 |_=>false
def c6.fo:c6->Bool
 |.live=>true
 |.map _=>true
 |_=>false
def c6.shape:c6->c6
 |.map _=>.map []
 |x=>x
def c6.eH:c6->Bool
 |.fN=>true
 |.live=>true
 |_=>false
def c6.isLive:c6->Bool
 |.live=>true
 |_=>false
structure aj where
 k:Option Nat
 cells:List AV
 st:c6
 deriving Inhabited
inductive Rf where
 |v (k:Nat)
 |t (d:Nat)
 |c (x:AV)
 deriving Inhabited
inductive tm where
 |add|sub|mul|quo|rem|lss|leq|gtr|geq|eql|neq|xk
 deriving Inhabited
inductive bZ where
 |mv (x:Rf)
 |bin (o:tm) (x y:Rf)
 |beq (neg:Bool) (x y:Rf)
 |seq (neg:Bool) (n:Nat) (x y:Rf)
 |not (x:Rf)
 |pick (c a b:Rf)
 |len (x:Rf)
 |mx (max:Bool) (x y:Rf)
 |nV (x:Rf) (off:Nat) (k:Option Nat)
 |bW (x i:Rf) (st:Nat)
 |ko (x i:Rf) (n:Nat) (k:Option Nat)
 |vM (x:Rf)
 |cz (x:Rf)
 |eC (n:Nat)
 |gv (p x:Rf) (n:Nat)
 |e9 (zero:List AV) (parts:List (Nat×Nat×Rf))
 |fld (x:Rf) (off:Nat) (k:Option Nat)
 |idx (x i:Rf) (n:Nat) (k:Option Nat)
 |ext (x:Rf) (i:Nat)
 |tS (f:Nat) (cT:List Rf)
 |mki (t:Nat) (x:Rf)
 |cA (parts:List Rf) (st:Nat)
 |bY (parts:List Rf) (st:Nat)
 |l9 (x:Rf) (lo hi:Option Rf) (st:Nat)
 |MF (x hi mx:Rf) (st:Nat)
 |kG (f:Nat) (args:List Rf)
 |gP (x:Rf) (args:List Rf)
 |inv (x:Rf) (rp:List (Nat×Nat)) (args:List Rf)
 |ma (neg:Bool) (x:Rf)
 |bH (x:Rf) (k:Option Nat)
 |ld (x:Rf) (k:Option Nat)
 |can (f:Nat) (args:List Rf)
 |MG (x:Rf)
 |nY (f:Nat) (args:List Rf)
 |ti (x:Rf) (k:Option Nat)
 |j8 (zero:List AV) (k:Option Nat)
 |kf (len cap:Rf) (zero:List AV) (k:Option Nat)
 |je (parts:List Rf) (k:Option Nat)
 |nl (k:Option Nat)
 |app (s x:Rf) (k:Option Nat)
 |st (p x:Rf) (n:Nat)
 |bB (s x:Rf) (k:Option Nat)
 |lF (f:Nat) (args:List Rf)
 |mU (x:Rf) (args:List Rf)
 |mV (x:Rf) (rp:List (Nat×Nat)) (args:List Rf)
 |MH (x:Rf)
 |oY (x:Rf) (z:List AV) (k:Option Nat)
 |vG
 |tO (x:Rf) (kd:Nat) (k:Rf) (z:AV) (ok:Bool)
 |tk (x:Rf)
 |qH (m:Rf) (kd:Nat) (k x:Rf)
 |cvu (x:Rf)
 |gtu (x y:Rf)
 |shu (x y:Rf)
 |Cb (d s:Rf) (k:Option Nat)
 |cv8 (x:Rf)
 |sob (x:Rf)
 |ju (m:Rf) (kd:Nat) (k x:Rf)
 |bos (x:Rf)
 |six (x i:Rf)
 |cvw (x:Rf)
 |shi (x y:Rf)
 |sqs (neg:Bool) (n:Nat) (x y:Rf)
 |slz (x:Rf) (st:Nat)
 |mG (st:Nat)
 |ike (neg:Bool) (x y:Rf)
 |sli (x:Rf) (lo hi:Option Rf) (st:Nat)
 deriving Inhabited
structure Ln where
 op:bZ
 g:Option (Rf×Bool):=none
 prev:Bool:=false
 deriving Inhabited
abbrev Ln.p (o:bZ):Ln:=⟨o,none,false⟩
abbrev Ln.v (n:Nat):Ln:=⟨.mv (.v n),none,false⟩
abbrev Ln.t (n:Nat):Ln:=⟨.mv (.t n),none,false⟩
abbrev Ln.x (k:Nat) (o:bZ):Ln:=⟨o,some (.t k,true),false⟩
abbrev Ln.y (k:Nat) (o:bZ):Ln:=⟨o,some (.t k,false),false⟩
structure dt where
 ls:List Ln
 outs:List (Nat×Nat)
 ck:List Nat
 fl:Option (Nat×Nat)
 deriving Inhabited
inductive IC where
 |skip
 |bM (r:dt)
 |seq (a b:IC)
 |cond (slot:Nat) (a b:IC)
 |fh (k:Nat) (a b:IC)
 |block (id:Nat) (c:IC)
 |loop (c:IC)
 |exit (id:Nat)
 |ret
 |mW (k:Nat)
 |lex (c:IC)
 |bad
 |cut (b:Bool) (c:IC)
 |rq (c:IC)
 deriving Inhabited
structure Fn where
 np:Nat
 nv:Nat
 body:IC
 res:List (Nat×Option (Option Nat))
 fresh:Bool:=false
 deriving Inhabited
inductive Ex where
 |c5|exit (id:Nat)|ret
 deriving Inhabited
structure St where
 vars:List AV
 fl:Option (Nat×AV)
 σ:List aj
 deriving Inhabited
@[reducible] def nth:List AV->Nat->AV
 | [],_=>.au
 |x::_,0=>x
 |_::r,n+1=>nth r n
@[reducible] def bD:List AV->Nat->AV->List AV
 | [],_,_=>[]
 |_::r,0,y=>y::r
 |x::r,n+1,y=>x::bD r n y
@[reducible] def ay:List aj->Nat->Option aj
 | [],_=>none
 |x::_,0=>some x
 |_::r,n+1=>ay r n
@[reducible] def az:List aj->Nat->aj->List aj
 | [],_,_=>[]
 |_::r,0,y=>y::r
 |x::r,n+1,y=>x::az r n y
@[reducible] def jL:List AV->Nat->Option AV
 | [],_=>none
 |x::_,0=>some x
 |_::r,n+1=>jL r n
def aM{a b:Type}(f:a->Option b):List a->Option (List b)
 | []=>some []
 |x::r=>match f x with
  |none=>none
  |some y=>match aM f r with
   |none=>none
   |some s=>some (y::s)
def mA (n:Int):Bool:=decide (-9223372036854775808<=n)&&decide (n<=9223372036854775807)
@[reducible] def AV.cells:AV->List AV
 |.agg l=>l
 |x=>[x]
@[reducible] def aC:Option Nat->Nat
 |none=>1
 |some n=>n
def part (cs:List AV) (off:Nat):Option Nat->Option AV
 |none=>jL cs off
 |some n=>if off+n<=cs.length then some (.agg ((cs.drop off).take n))else none
def chunk (k:Option Nat):Nat->List AV->List AV
 |0,_=>[]
 |f+1,cs=>match k with
  |none=>match cs with
   | []=>[]
   |x::r=>x::chunk k f r
  |some n=>.agg (cs.take n)::chunk k f (cs.drop n)
mutual
def aB:AV->Bool
 |.sl .. | .ptr .. | .au | .arr _ | .bz _ | .b8 _=>false
 |.agg l | .func _ l=>aq l
 |.iface _ v=>aB v
 |_=>true
def aq:List AV->Bool
 | []=>true
 |x::r=>aB x&&aq r
end
def upto (σ:List aj) (b u:Nat):Option aj:=
 match ay σ b with
 |some B=>match B.st with
  |.dead=>none
  |.map _=>none
  |_=>if B.cells.length==u then some B else none
 |none=>none
def dm (σ:List aj) (b u:Nat):Option aj:=
 match ay σ b with
 |some B=>match B.st with
  |.dead=>none
  |_=>if B.cells.length==u then some B else none
 |none=>none
def da (σ:List aj) (b:Nat):Option (List (AV×AV)):=
 match ay σ b with
 |some B=>match B.st with
  |.map es=>if B.cells.length==0 then some es else none
  |_=>none
 |none=>none
def view (σ:List aj) (fr:Bool):Nat->AV->Option AV
 |0,_=>none
 |f+1,x=>match x with
  |.sl b u off len=>match upto σ b u with
   |none=>none
   |some B=>if off+len*aC B.k<=B.cells.length then
     match aM (view σ fr f) (chunk B.k len (B.cells.drop off))with
     |none=>none
     |some l=>some (.aA false l)
    else none
  |.ptr b u off=>match upto σ b u with
   |none=>none
   |some B=>if off==0&&B.cells.length==aC B.k&&B.st.isLive then
     match part B.cells 0 B.k with
     |none=>none
     |some y=>match view σ fr f y with
      |none=>none
      |some z=>some (.ar z)
    else none
  |.agg l=>match aM (view σ fr f) l with
   |none=>none
   |some l=>some (.agg l)
  |.bz _=>none
  |.func g l=>match aM (view σ fr f) l with
   |none=>none
   |some l=>some (.func g l)
  |.iface t v=>match view σ fr f v with
   |none=>none
   |some v=>some (.iface t v)
  |.aA _ l=>if fr then none else some (.aA false l)
  |.ag=>some (.aA false [])
  |.emp=>some (.aA false [])
  |.ar v=>if fr then none else some (.ar v)
  |.au=>none
  |.arr _=>none
  |.b8 _=>some .tK
  |x=>some x
def vd:Nat:=12
def bu (σ:List aj) (fr:Bool):AV->Option AV
 |.bz l=>match aM (view σ fr vd) l with
  |none=>none
  |some l=>some (.bz l)
 |x=>view σ fr vd x
abbrev CE:=Nat->List AV->List aj->Option (AV×List aj)
def dr:AV->AV
 |.ag=>.aA false []
 |.emp=>.aA false []
 |.aA _ l=>.aA false l
 |x=>x
def wk:AV->AV
 |.agg l=>.agg (l.map dr)
 |x=>dr x
def iu (ce:CE) (f:Nat) (args:List AV):Option AV:=
 if aq args then
  match ce f (args.map wk) []with
  |some (v,a)=>bu a false v
  |none=>none
 else none
def wr (n:Int):Int:=(n+9223372036854775808)%18446744073709551616-9223372036854775808
def bin (o:tm) (x y:Int):Option AV:=
 match o with
 |.add=>if mA (x+y)then some (.int (x+y))else none
 |.sub=>if mA (x-y)then some (.int (x-y))else none
 |.mul=>if mA (x*y)then some (.int (x*y))else none
 |.quo=>if y==0 then none else if mA (x.tdiv y)then some (.int (x.tdiv y))else none
 |.rem=>if y==0 then none else some (.int (x.tmod y))
 |.lss=>some (.bool (decide (x<y)))
 |.leq=>some (.bool (decide (x<=y)))
 |.gtr=>some (.bool (decide (y<x)))
 |.geq=>some (.bool (decide (y<=x)))
 |.eql=>some (.bool (x==y))
 |.neq=>some (.bool (!(x==y)))
 |.xk=>some (.int (wr (x+y)))
def aQ:AV->Bool
 |.au | .bz _=>false
 |.agg l=>l.all fun
  |.au | .bz _=>false
  |.agg _=>false
  |_=>true
 |_=>true
def ob:Option Nat->Option Nat->Bool
 |none,none=>true
 |some a,some b=>a==b
 |_,_=>false
inductive bI where
 |new (B:aj)
 |news (l:List aj)
 |grow (b:Nat) (cs:List AV)
 deriving Inhabited
def ki (b:Nat):List bI->Bool
 | []=>false
 |.grow a _::r=>b==a || ki b r
 |_::r=>ki b r
mutual
def iz (n:Nat):AV->AV
 |.sl b u off len=>.sl (b+n) u off len
 |.ptr b u off=>.ptr (b+n) u off
 |.b8 b=>.b8 (b+n)
 |.agg l=>.agg (iy n l)
 |.bz l=>.bz (iy n l)
 |.func f l=>.func f (iy n l)
 |.arr l=>.arr (iy n l)
 |.iface t v=>.iface t (iz n v)
 |x=>x
def iy (n:Nat):List AV->List AV
 | []=>[]
 |x::r=>iz n x::iy n r
end
def KE (n:Nat):List (AV×AV)->List (AV×AV)
 | []=>[]
 |(k,x)::r=>(k,iz n x)::KE n r
def kN (n:Nat):c6->c6
 |.map es=>.map (KE n es)
 |x=>x
def fZ (n:Nat) (B:aj):aj:=⟨B.k,iy n B.cells,kN n B.st⟩
def fitAll (st:Nat):List AV->Bool
 | []=>true
 |x::r=>x.cells.length==st&&aQ x&&fitAll st r
def aE (σ:List aj) (k:Option Nat):AV->Option (Nat×List AV)
 |.ag=>some (0,[])
 |.emp=>some (0,[])
 |.aA _ l=>if fitAll (aC k) l then some (l.length,l.flatMap AV.cells)else none
 |.arr l=>if fitAll (aC k) l then some (l.length,l.flatMap AV.cells)else none
 |.sl b u off len=>match upto σ b u with
  |some B=>if off+len*aC k<=B.cells.length/\aC B.k=aC k then some (len,(B.cells.drop off).take (len*aC k))else none
  |none=>none
 |_=>none
def cE:Nat:=1073741824
def byteOf:AV->Option UInt8
 |.ik 4 n=>if 0<=n/\n<=255 then some (UInt8.ofNat n.toNat)else none
 |_=>none
def bytesOf:List AV->Option (List UInt8)
 | []=>some []
 |x::r=>match byteOf x,bytesOf r with
  |some b,some s=>some (b::s)
  |_,_=>none
@[reducible] def fH:List (Nat×Nat)->Nat->Option Nat
 | [],_=>none
 |(a,b)::r,t=>if a==t then some b else fH r t
def cS (n:Nat) (l:List AV):List AV:=(List.replicate n l).flatten
def putAt (cs:List AV) (off:Nat) (new:List AV):List AV:=cs.take off++new++cs.drop (off+new.length)
def dY (cs:List AV):List (Nat×Nat×AV)->Option (List AV)
 | []=>some cs
 |(o,n,x)::r=>if x.cells.length==n&&decide (o+n<=cs.length)&&aQ x then dY (putAt cs o x.cells) r else none
def ow (r:Rf->AV):Option Rf->Option Int
 |none=>some 0
 |some y=>match r y with
  |.int n=>some n
  |_=>none
def ox (r:Rf->AV):Option Rf->Option (Option Int)
 |none=>some none
 |some y=>match r y with
  |.int n=>some (some n)
  |_=>none
def dy (st:Nat):List AV->Bool
 | []=>true
 |x::_=>x.cells.length==st
@[reducible] def cu:List AV->List AV->Option Bool
 | [],[]=>some true
 |.int a::xs,.int b::ys=>match cu xs ys with
  |some c=>some (decide (a=b)&&c)
  |none=>none
 |_,_=>none
def bd:Nat->AV->Bool
 |0,.int _=>true
 |1,.str _=>true
 |n+2,.agg l=>l.length==n&&(cu l l).isSome
 |_,_=>false
def ga:AV->AV->Option Bool
 |.int a,.int b=>some (decide (a=b))
 |.str a,.str b=>some (decide (a=b))
 |.agg xs,.agg ys=>cu xs ys
 |_,_=>none
def cw:List (AV×AV)->AV->Option (Option AV)
 | [],_=>some none
 |(k,x)::r,y=>match ga y k with
  |some true=>some (some x)
  |some false=>cw r y
  |none=>none
def oZ:List (AV×AV)->AV->AV->List (AV×AV)
 | [],_,_=>[]
 |(k,x)::r,y,z=>match ga y k with
  |some true=>(k,z)::r
  |_=>(k,x)::oZ r y z
@[reducible] def mb:List AV->List AV->Option Bool
 | [],[]=>some true
 |.str a::xs,.str b::ys=>match mb xs ys with
  |some c=>some (decide (a=b)&&c)
  |none=>none
 |_,_=>none
def ev (ce:CE) (σ:List aj) (nl:Nat) (ps:List bI) (r:Rf->AV):bZ->Option (AV×Option bI)
 |.mv x=>some (r x,none)
 |.bin o x y=>match r x,r y with
  |.int a,.int b=>(bin o a b).map (·,none)
  |_,_=>none
 |.seq neg n x y=>match r x,r y with
  |.agg xs,.agg w=>if xs.length=n then(match cu xs w with
   |some b=>some (.bool (b != neg),none)
   |none=>none)else none
  |_,_=>none
 |.beq neg x y=>match r x,r y with
  |.bool a,.bool b=>some (.bool ((a==b) != neg),none)
  |_,_=>none
 |.not x=>match r x with
  |.bool b=>some (.bool (!b),none)
  |_=>none
 |.pick c a b=>match r c with
  |.bool true=>some (r a,none)
  |.bool false=>some (r b,none)
  |_=>none
 |.len x=>match r x with
  |.ag=>some (.int 0,none)
  |.emp=>some (.int 0,none)
  |.aA _ l=>some (.int l.length,none)
  |.sl _ _ _ n=>some (.int n,none)
  |_=>none
 |.mx m x y=>match r x,r y with
  |.int a,.int b=>some (.int (if m then(if a<b then b else a)else(if b<a then b else a)),none)
  |_,_=>none
 |.nV x off k=>match r x with
  |.ptr b u o=>some (.ptr b u (o+off),none)
  |.ar v=>(part v.cells off k).map λy=>(.ar y,none)
  |_=>none
 |.bW x i st=>match r x,r i with
  |.aA _ l,.int n=>if 0<=n then(match jL l n.toNat with|some y=>if y.cells.length==st then some (.ar y,none)else none|none=>none)else none
  |.sl b u off len,.int n=>if 0<=n/\n<len then some (.ptr b u (off+n.toNat*st),none)else none
  |_,_=>none
 |.ko x i n k=>match r x,r i with
  |.ptr b u o,.int j=>if 0<=j/\j<n then some (.ptr b u (o+j.toNat*aC k),none)else none
  |.ar v,.int j=>if 0<=j/\j<n then(part v.cells (j.toNat*aC k) k).map λy=>(.ar y,none)else none
  |_,_=>none
 |.vM x=>match r x with
  |.ptr b u o=>some (.ptr b u o,none)
  |.ar v=>some (.ar v,none)
  |_=>none
 |.cz x=>if aB (r x)then some (.ar (r x),none)else none
 |.eC _=>some (.au,none)
 |.gv _ x n=>if aB (r x)&&(r x).cells.length==n then some (.ar (r x),none)else none
 |.e9 z ps=>(dY z (ps.map λp=>(p.1,p.2.1,r p.2.2))).map λl=>(.agg l,none)
 |.fld x off k=>match r x with
  |.agg l=>(part l off k).map (·,none)
  |_=>none
 |.idx x i n k=>match r x,r i with
  |.agg l,.int j=>if 0<=j/\j<n then(part l (j.toNat*aC k) k).map (·,none)else none
  |_,_=>none
 |.ext x i=>match r x with
  |.bz l=>(jL l i).map (·,none)
  |_=>none
 |.tS f cs=>some (.func f (cs.map r),none)
 |.mki t x=>some (.iface t (r x),none)
 |.cA ps st=>if aq (ps.map r)&&fitAll st (ps.map r)then some (.aA false (ps.map r),none)else none
 |.bY ps st=>if fitAll st (ps.map r)then some (.arr (ps.map r),none)else none
 |.l9 x A e st=>match ow r A,ox r e with
  |some a,some b=>(match r x with
   |.aA g l=>
    let h:=b.getD l.length
    if(0<=a/\a<=h/\h<=l.length)/\dy st l=true then some (.aA (g&&decide (0<l.length)) ((l.drop a.toNat).take (h.toNat-a.toNat)),none)else none
   |.sl D u off len=>(match upto σ D u with
    |some B=>
     let h:=b.getD len
     if(0<=a/\a<=h/\h<=len)/\aC B.k=st then some (.sl D u (off+a.toNat*st) (h.toNat-a.toNat),none)else none
    |none=>none)
   |_=>none)
  |_,_=>none
 |.sli x A e st=>match ow r A,ox r e with
  |some a,some b=>(match r x with
   |.aA g l=>
    let h:=b.getD l.length
    if(0<=a/\a<=h/\h<=l.length)/\dy st l=true then some (.aA (g&&decide (0<l.length)) ((l.drop a.toNat).take (h.toNat-a.toNat)),none)else none
   |_=>none)
  |_,_=>none
 |.MF x e mx st=>match r x,r e,r mx with
  |.aA g l,.int h,.int m=>if(0<=h/\h<=m/\m<=l.length)/\dy st l=true then some (.aA (g&&decide (0<l.length)) (l.take h.toNat),none)else none
  |_,_,_=>none
 |.MG x=>match r x with
  |.int n=>if mA n then some (.int n,none)else none
  |.ik _ n=>if mA n then some (.int n,none)else none
  |_=>none
 |.kG f args=>(iu ce f (args.map r)).map (·,none)
 |.gP x args=>match r x with
  |.func f q=>(iu ce f (args.map r++q)).map (·,none)
  |_=>none
 |.inv x C args=>match r x with
  |.iface t v=>match fH C t with
   |some f=>(iu ce f (v::args.map r)).map (·,none)
   |none=>none
  |_=>none
 |.ma neg x=>match r x with
  |.ag=>some (.bool (!neg),none)
  |.aA true _=>some (.bool neg,none)
  |.aA false (_::_)=>some (.bool neg,none)
  |.sl b u _ _=>match upto σ b u with
   |some B=>match B.st with
    |.live=>some (.bool neg,none)
    |_=>none
   |none=>none
  |_=>none
 |.bH x k=>match r x with
  |.ar v=>match k,v with
   |none,.agg _=>none
   |none,v=>some (v,none)
   |some n,.agg l=>if l.length==n then some (.agg l,none)else none
   |some _,_=>none
  |_=>none
 |.can f args=>if aq (args.map r)then
   match ce f (args.map r) []with
   |some (v,d)=>some (iz nl v,some (.news (d.map (fZ nl))))
   |none=>none
  else none
 |.ld x k=>match r x with
  |.ar v=>match k,v with
   |none,.agg _=>none
   |none,v=>some (v,none)
   |some n,.agg l=>if l.length==n then some (.agg l,none)else none
   |some _,_=>none
  |.ptr b u o=>match upto σ b u with
   |some B=>if B.st.isLive then(part B.cells o k).map (·,none)else none
   |none=>none
  |_=>none
 |.nY f args=>match aM (λx=>view σ false vd (r x)) args with
  |some E=>match ce f E []with
   |some (v,d)=>(bu d true v).map (·,none)
   |none=>none
  |none=>none
 |.ti x k=>if(r x).cells.length==aC k&&aQ (r x)then some (.ptr nl (aC k) 0,some (.new ⟨k,(r x).cells,.live⟩))else none
 |.j8 z k=>if z.length==aC k then some (.ptr nl (aC k) 0,some (.new ⟨k,z,.live⟩))else none
 |.kf n c z k=>match r n,r c with
  |.int n,.int c=>if 0<=n/\n<=c/\c<=cE/\z.length=aC k then
    some (.sl nl (cS c.toNat z).length 0 n.toNat,some (.new ⟨k,cS c.toNat z,.live⟩))else none
  |_,_=>none
 |.je ps k=>if fitAll (aC k) (ps.map r)then some (.sl nl ((ps.map r).flatMap AV.cells).length 0 ps.length,some (.new ⟨k,(ps.map r).flatMap AV.cells,.live⟩))else none
 |.nl k=>some (.sl nl 0 0 0,some (.new ⟨k,[],.fN⟩))
 |.app s x k=>match aE σ k (r x)with
  |none=>none
  |some (n,cs)=>match r s with
   |.sl b u off len=>match upto σ b u with
    |some B=>if off==0&&u==len*aC k&&decide (len+n<=cE) && !ki b ps&&ob B.k k then
      (if n==0 then some (.sl b u off len,none)else if cs.length==0 then none else some (.sl b (u+cs.length) 0 (len+n),some (.grow b cs)))else none
    |none=>none
   |.ag=>if n==0 then some (.ag,none)else if n<=cE then some (.sl nl cs.length 0 n,some (.new ⟨k,cs,.live⟩))else none
   |.emp=>if n==0 then some (.emp,none)else if n<=cE then some (.sl nl cs.length 0 n,some (.new ⟨k,cs,.live⟩))else none
   |.arr l=>if n==0 then some (if aq l then .aA true l else .arr l,none)else if fitAll (aC k) l&&decide (l.length+n<=cE)then some (.sl nl (l.flatMap AV.cells++cs).length 0 (l.length+n),some (.new ⟨k,l.flatMap AV.cells++cs,.live⟩))else none
   |_=>none
 |.MH x=>match r x with
  |.ag=>some (.int 0,none)
  |_=>none
 |.vG=>some (.b8 nl,some (.new ⟨some 0,[],.map []⟩))
 |.tO x F k z ok=>match r x with
  |.b8 b=>match da σ b with
   |some es=>if bd F (r k)then(match cw es (r k)with
    |some (some v)=>some (if ok then .bz [v,.bool true]else v,none)
    |some none=>some (if ok then .bz [z,.bool false]else z,none)
    |none=>none)else none
   |none=>none
  |_=>none
 |.tk x=>match r x with
  |.b8 b=>match da σ b with
   |some es=>some (.int es.length,none)
   |none=>none
  |_=>none
 |.cvu x=>match r x with
  |.int n=>if 0<=n/\n<=18446744073709551615 then some (.ik 7 n,none)else none
  |.ik _ n=>if 0<=n/\n<=18446744073709551615 then some (.ik 7 n,none)else none
  |_=>none
 |.cv8 x=>match r x with
  |.int n=>if 0<=n/\n<=255 then some (.ik 4 n,none)else none
  |_=>none
 |.sob x=>match aE σ none (r x)with
  |some (_,cs)=>match bytesOf cs with
   |some s=>some (.str s,none)
   |none=>none
  |none=>none
 |.ike neg x y=>match r x,r y with
  |.ik k a,.ik j b=>if k=j then some (.bool ((a==b) != neg),none)else none
  |_,_=>none
 |.mG _=>some (.emp,none)
 |.slz x _=>match r x with
  |.ag=>some (.emp,none)
  |.emp=>some (.emp,none)
  |.aA _ _=>some (.emp,none)
  |.sl _ _ _ _=>some (.emp,none)
  |_=>none
 |.bos x=>match r x with
  |.str s=>some (.aA false (s.map λb=>.ik 4 (b.toNat:Int)),none)
  |_=>none
 |.six x i=>match r x,r i with
  |.str s,.int n=>if 0<=n then(match s[n.toNat]? with
   |some b=>some (.ik 4 (b.toNat:Int),none)
   |none=>none)else none
  |_,_=>none
 |.cvw x=>match r x with
  |.int n=>some (.ik 4 (n%256),none)
  |_=>none
 |.shi x y=>match r x,r y with
  |.int a,.int n=>if 0<=n/\n<64 then some (.int (a.fdiv (2^n.toNat)),none)else none
  |.int a,.ik 7 n=>if 0<=n/\n<64 then some (.int (a.fdiv (2^n.toNat)),none)else none
  |_,_=>none
 |.sqs neg n x y=>match r x,r y with
  |.agg xs,.agg w=>if xs.length=n then(match mb xs w with
   |some b=>some (.bool (b != neg),none)
   |none=>none)else none
  |_,_=>none
 |.gtu x y=>match r x,r y with
  |.ik 7 a,.ik 7 b=>some (.bool (decide (b<a)),none)
  |_,_=>none
 |.shu x y=>match r x,r y with
  |.ik 7 a,.int n=>if 0<=n/\n<64 then some (.ik 7 (a.fdiv (2^n.toNat)),none)else none
  |.ik 7 a,.ik 7 n=>if 0<=n/\n<64 then some (.ik 7 (a.fdiv (2^n.toNat)),none)else none
  |_,_=>none
 |.st .. | .bB .. | .lF .. | .mU .. | .mV .. | .oY .. | .qH .. | .Cb .. | .ju ..=>none
@[reducible] def rv (vars env:List AV):Rf->AV
 |.v k=>nth vars k
 |.t d=>nth env d
 |.c x=>x
def want (vars env:List AV):Option (Rf×Bool)->Option Bool
 |none=>some true
 |some (g,w)=>match rv vars env g with
  |.bool b=>some (b==w)
  |.bz []=>some false
  |_=>none
@[reducible] def mX (σ:List aj) (b:Nat) (cs:List AV):List aj:=
 match ay σ b with
 |some B=>az σ b ⟨B.k,B.cells++cs,.live⟩
 |none=>σ
@[reducible] def pF (σ:List aj) (b:Nat) (es:List (AV×AV)):List aj:=
 match ay σ b with
 |some B=>az σ b ⟨B.k,B.cells,.map es⟩
 |none=>σ
def du (σ:List aj):bI->List aj
 |.new B=>σ ++ [B]
 |.news l=>σ++l
 |.grow b cs=>mX σ b cs
def dO (ce:CE) (σ:List aj) (r:Rf->AV):bZ->Option (AV×List aj)
 |.st p x n=>match r p with
  |.ptr b u o=>match upto σ b u with
   |some B=>if(r x).cells.length==n&&o+n<=B.cells.length&&B.st.isLive&&aQ (r x)then some (.au,az σ b ⟨B.k,putAt B.cells o (r x).cells,B.st⟩)else none
   |none=>none
  |_=>none
 |.bB s x k=>match aE σ k (r x)with
  |none=>none
  |some (n,cs)=>match r s with
   |.sl b u off len=>match upto σ b u with
    |some B=>
     if off==0&&decide (len+n<=cE)&&ob B.k k then
      (if n==0 then some (.sl b u off len,σ)
       else if cs.length==0 then none else if u==len*aC k then some (.sl b (u+cs.length) 0 (len+n),az σ b ⟨B.k,B.cells++cs,.live⟩)
       else if(len+n)*aC k<=u then some (.sl b u 0 (len+n),az σ b ⟨B.k,putAt B.cells (len*aC k) cs,B.st⟩)
       else none)
     else none
    |none=>none
   |.ag=>if n==0 then some (.ag,σ)else if n<=cE then some (.sl σ.length cs.length 0 n,σ ++ [⟨k,cs,.live⟩])else none
   |.emp=>if n==0 then some (.emp,σ)else if n<=cE then some (.sl σ.length cs.length 0 n,σ ++ [⟨k,cs,.live⟩])else none
   |.arr l=>if n==0 then some (if aq l then .aA true l else .arr l,σ)else if fitAll (aC k) l&&decide (l.length+n<=cE)then some (.sl σ.length (l.flatMap AV.cells++cs).length 0 (l.length+n),σ ++ [⟨k,l.flatMap AV.cells++cs,.live⟩])else none
   |_=>none
 |.lF f args=>ce f (args.map r) σ
 |.mU x args=>match r x with
  |.func f a=>ce f (args.map r++a) σ
  |_=>none
 |.mV x e args=>match r x with
  |.iface t v=>match fH e t with
   |some f=>ce f (v::args.map r) σ
   |none=>none
  |_=>none
 |.oY x z k=>match r x with
  |.sl b u off len=>match upto σ b u with
   |some B=>if 0<len/\off+len*aC k<=B.cells.length/\aC B.k=aC k/\z.length=aC k/\B.st.isLive=true then some (.au,az σ b ⟨B.k,putAt B.cells off (cS len z),B.st⟩)else none
   |none=>none
  |_=>none
 |.qH m g k x=>match r m with
  |.b8 b=>match da σ b with
   |some es=>if bd g (r k)&&aB (r x)then(match cw es (r k)with
    |some none=>some (.au,pF σ b (es ++ [(r k,r x)]))
    |_=>none)else none
   |none=>none
  |_=>none
 |.ju m g k x=>match r m with
  |.b8 b=>match da σ b with
   |some es=>if bd g (r k)&&aQ (r x)then(match cw es (r k)with
    |some none=>some (.au,pF σ b (es ++ [(r k,r x)]))
    |some (some _)=>some (.au,pF σ b (oZ es (r k) (r x)))
    |none=>none)else none
   |none=>none
  |_=>none
 |.Cb d s k=>match aE σ k (r s)with
  |none=>none
  |some (n,cs)=>match r d with
   |.sl b u off len=>match upto σ b u with
    |some B=>if off+len*aC k<=B.cells.length/\aC B.k=aC k/\B.st.isLive=true then
      (if min n len=0 then some (.int 0,σ)else some (.int (min n len:Nat),az σ b ⟨B.k,putAt B.cells off (cs.take (min n len*aC k)),B.st⟩))else none
    |none=>none
   |_=>none
 |op=>match ev ce σ σ.length [] r op with
  |some (v,some p)=>some (v,du σ p)
  |some (v,none)=>some (v,σ)
  |none=>none
def bZ.gG:bZ->Bool
 |.st .. | .bB .. | .lF .. | .mU .. | .mV .. | .oY .. | .qH .. | .Cb .. | .ju ..=>true
 |_=>false
def bZ.il:bZ->Bool
 |.can .. | .ti .. | .j8 .. | .kf .. | .je .. | .nl .. | .app .. | .vG=>true
 |_=>false
structure LS where
 env:List AV
 aF:List aj
 σ:List aj
def bS (ce:CE) (vars:List AV) (s:LS) (l:Ln):Option LS:=
 match want vars s.env l.g with
 |none=>none
 |some false=>some ⟨.bz []::s.env,s.aF,s.σ⟩
 |some true=>if l.op.gG then
   match dO ce s.σ (rv vars s.env) l.op with
   |some (v,a)=>some ⟨v::s.env,[],a⟩
   |none=>none
  else match ev ce (if l.prev then s.aF else s.σ) s.σ.length [] (rv vars s.env) l.op with
   |some (v,none)=>some ⟨v::s.env,if l.op.il then s.σ else s.aF,s.σ⟩
   |some (v,some p)=>some ⟨v::s.env,s.σ,du s.σ p⟩
   |none=>none
def lines (ce:CE) (vars:List AV):List Ln->LS->Option LS
 | [],s=>some s
 |l::ls,s=>match bS ce vars s l with
  |none=>none
  |some s=>lines ce vars ls s
@[reducible] def outs (env:List AV):List (Nat×Nat)->List AV->List AV
 | [],vs=>vs
 |(k,d)::r,vs=>outs env r (bD vs k (nth env d))
@[reducible] def ck:List Nat->List AV->List AV
 | [],vs=>vs
 |k::r,vs=>ck r (bD vs k .au)
def aT (ce:CE) (r:dt) (s:St):Option St:=
 match lines ce s.vars r.ls ⟨[],s.σ,s.σ⟩with
 |some q=>some {vars:=ck r.ck (outs q.env r.outs s.vars),fl:=match r.fl with|some (t,d)=>some (t,nth q.env d)|none=>none,σ:=q.σ}
 |none=>none
def iter (f:St->Option (Ex×St)):Nat->St->Option (Ex×St)
 |0,_=>none
 |k+1,s=>match f s with
  |some (.c5,s)=>iter f k s
  |x=>x
def reach (σ:List aj):Nat->AV->List Nat->List Nat
 |0,_,acc=>acc
 |f+1,x,acc=>match x with
  |.sl b _ _ _=>if acc.contains b then acc else match ay σ b with
   |some B=>B.cells.foldl (λacc y=>reach σ f y acc) (b::acc)
   |none=>acc
  |.ptr b _ _=>if acc.contains b then acc else match ay σ b with
   |some B=>B.cells.foldl (λacc y=>reach σ f y acc) (b::acc)
   |none=>acc
  |.agg l | .bz l | .func _ l=>l.foldl (λacc y=>reach σ f y acc) acc
  |.iface _ v=>reach σ f v acc
  |_=>acc
def cr (p:Nat->Bool):Nat->List aj->List aj
 |_,[]=>[]
 |n,B::r=>(if p n then⟨B.k,B.cells,.dead⟩else B)::cr p (n+1) r
def gg (σ:List aj):AV->Bool
 |.sl b u _ _=>match upto σ b u with
  |some B=>match B.st with
   |.live=>true
   |_=>false
  |none=>false
 |.aA a _=>a
 |_=>false
def pQ (n:Nat):AV->Bool
 |.sl b _ _ _=>decide (b<n)
 |.ptr b _ _=>decide (b<n)
 |.b8 b=>decide (b<n)
 |.au=>true
 |x=>aB x
def dh (n:Nat):AV->Bool
 |.arr _=>false
 |.sl b _ _ _=>decide (b<n)
 |.ptr b _ _=>decide (b<n)
 |.b8 b=>decide (b<n)
 |.agg l | .bz l | .func _ l=>l.all (pQ n)
 |.iface _ v=>aB v
 |_=>true
def mY (n:Nat):c6->Bool
 |.map es=>es.all λe=>dh n e.2
 |_=>true
def iI (n:Nat):Nat->List aj->Bool
 |0,_=>true
 |_,[]=>true
 |m+1,B::r=>(B.cells.all (dh n)&&mY n B.st)&&iI n m r
def exec (n:Nat) (ce:CE):IC->St->Option (Ex×St)
 |.skip,s=>some (.c5,s)
 |.bM r,s=>match aT ce r s with
  |some s=>some (.c5,s)
  |none=>none
 |.seq a b,s=>match exec n ce a s with
  |some (.c5,s)=>exec n ce b s
  |x=>x
 |.cond slot a b,s=>match s.fl with
  |some (t,.bool c)=>if t==slot then(if c then exec n ce a {s with fl:=none}else exec n ce b {s with fl:=none})else none
  |_=>none
 |.fh k a b,s=>match nth s.vars k with
  |.bool c=>if c then exec n ce a s else exec n ce b s
  |_=>none
 |.block id c,s=>match exec n ce c s with
  |some (.exit f, s)=>if f == id then some (.c5,s)else some (.exit f, s)
  |x=>x
 |.loop c,s=>iter (exec n ce c) n s
 |.exit id,s=>some (.exit id,s)
 |.ret,s=>some (.ret,s)
 |.mW k,s=>
  let g:=reach s.σ vd (nth s.vars k) []
  match view (cr (λb=>!g.contains b) 0 s.σ) false vd (nth s.vars k)with
  |some v=>some (.c5,{s with vars:=bD s.vars k (if gg s.σ (nth s.vars k)then(match v with | .aA _ l=>.aA true l|x=>x)else v),σ:=cr (λb=>g.contains b) 0 s.σ})
  |none=>none
 |.bad,_=>none
 |.cut _ c,s=>exec n ce c s
 |.rq c,s=>exec n ce c s
 |.lex c,s=>match exec n ce c s with
  |some (.ret,d)=>some (.ret,d)
  |some (e,d)=>
   let m:=s.σ.length
   if d.vars.all (dh m)&&iI m m d.σ&&(match d.fl with|some _=>false|none=>true)then some (e,{d with σ:=d.σ.take m})else none
  |none=>none
def gf (s:St):Nat×Option (Option Nat)->Option AV
 |(k,none)=>some (nth s.vars k)
 |(k,some a)=>match ev (λ_ _ _=>none) s.σ 0 [] (λ_=>nth s.vars k) (.ld (.v 0) a)with
  |some (v,_)=>some v
  |none=>none
def results (fn:Fn) (s:St):Option AV:=
 match aM (gf s) fn.res with
 |some [x]=>some x
 |some l=>some (.bz l)
 |none=>none
abbrev gH:=Nat->Option (CE->List AV->List aj->Option (AV×List aj))
def b9 (G:Nat->Option Fn) (Q:gH) (n:Nat):Nat->CE
 |0=>λ_ _ _=>none
 |d+1=>λf args σ=>match Q f with
  |some p=>p (b9 G Q n d) args σ
  |none=>match G f with
  |none=>none
  |some fn=>if args.length==fn.np then
    match exec n (b9 G Q n d) fn.body {vars:=args++List.replicate (fn.nv-fn.np) .au,fl:=none,σ}with
    |some (.exit _,_)=>none
    |some (_,s)=>(results fn s).map (·,s.σ)
    |none=>none
   else none
def isScalar:AV->Bool
 |.int _ | .bool _ | .str _=>true
 |_=>false
def o5:CE->List AV->Option AV:=λ_ args=>match args with
 | [.aA _ l]=>if l.all isScalar&&decide (l.length<=cE)then some (.aA false l)else none
 | [.ag]=>some (.aA false [])
 |_=>none
end Ab
