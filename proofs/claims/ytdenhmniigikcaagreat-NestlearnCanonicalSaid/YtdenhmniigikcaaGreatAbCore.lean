/- An abstract interpreter of a small language of straight-line regions, loops and calls, over immutable trees and owned blocks: its definitions. Condition: none. -/
set_option linter.all false
namespace Ab
def aa:type_of% @if_neg:=@if_neg
def ab:type_of% @if_pos:=@if_pos
def aA:type_of% @Bool.and_eq_true:=@Bool.and_eq_true
def aB:type_of% @eq_true:=@eq_true
def aT:type_of% @Nat.le_refl:=@Nat.le_refl
def aY:type_of% @List.length_append:=@List.length_append
def bJ:type_of% @Option.some.injEq:=@Option.some.injEq
def bT:type_of% @List.mem_range:=@List.mem_range
def bX:type_of% @List.length_cons:=@List.length_cons
def b5:type_of% @List.mem_cons:=@List.mem_cons
def cB:type_of% @List.mem_map:=@List.mem_map
def cF:type_of% @beq_iff_eq:=@beq_iff_eq
def cJ:type_of% @List.map_cons:=@List.map_cons
def cO:type_of% @List.getElem?_eq_getElem:=@List.getElem?_eq_getElem
def cY:type_of% @List.length_map:=@List.length_map
def cZ:type_of% @Classical.byContradiction:=@Classical.byContradiction
def dg:type_of% @List.length_nil:=@List.length_nil
def dq:type_of% @List.getElem?_eq_some_iff:=@List.getElem?_eq_some_iff
def dt:type_of% @if_true:=@if_true
def dM:type_of% @List.eq_nil_of_length_eq_zero:=@List.eq_nil_of_length_eq_zero
def dN:type_of% @eq_false:=@eq_false
def dQ:type_of% @List.mem_append:=@List.mem_append
def dY:type_of% @decide_eq_true_eq:=@decide_eq_true_eq
def eo:type_of% @Bool.false_eq_true:=@Bool.false_eq_true
def eC:type_of% @List.getElem?_append_left:=@List.getElem?_append_left
def eE:type_of% @List.getD_eq_getElem?_getD:=@List.getD_eq_getElem?_getD
def eJ:type_of% @if_false:=@if_false
def eK:type_of% @List.getElem?_append_right:=@List.getElem?_append_right
def eX:type_of% @Nat.add_mul:=@Nat.add_mul
def fc:type_of% @List.take_of_length_le:=@List.take_of_length_le
def fu:type_of% @List.mem_iff_getElem:=@List.mem_iff_getElem
def fv:type_of% @List.map_congr_left:=@List.map_congr_left
def fS:type_of% @List.getElem?_map:=@List.getElem?_map
def gd:type_of% @Int.eq_ofNat_of_zero_le:=@Int.eq_ofNat_of_zero_le
def gq:type_of% @Nat.zero_add:=@Nat.zero_add
def gw:type_of% @List.range_succ:=@List.range_succ
def gX:type_of% @List.flatMap_cons:=@List.flatMap_cons
def iu:type_of% @Array.getElem?_toList:=@Array.getElem?_toList
def iw:type_of% @List.append_assoc:=@List.append_assoc
def iI:type_of% @Int.natCast_mul:=@Int.natCast_mul
def jd:type_of% @Nat.mul_comm:=@Nat.mul_comm
def je:type_of% @Int.toNat_natCast:=@Int.toNat_natCast
def jh:type_of% @List.getElem?_eq_none:=@List.getElem?_eq_none
def ji:type_of% @List.drop_of_length_le:=@List.drop_of_length_le
def ju:type_of% @Array.getElem?_eq_some_iff:=@Array.getElem?_eq_some_iff
def jI:type_of% @List.cons_append:=@List.cons_append
def jJ:type_of% @List.ext_getElem:=@List.ext_getElem
def jK:type_of% @List.map_append:=@List.map_append
def kq:type_of% @Array.getElem?_append_left:=@Array.getElem?_append_left
def ku:type_of% @Array.getElem?_eq_getElem:=@Array.getElem?_eq_getElem
def kz:type_of% @List.getElem?_drop:=@List.getElem?_drop
def kD:type_of% @List.pairwise_cons:=@List.pairwise_cons
def kE:type_of% @beq_self_eq_true:=@beq_self_eq_true
def kF:type_of% @List.drop_zero:=@List.drop_zero
def kS:type_of% @Nat.mul_le_mul_right:=@Nat.mul_le_mul_right
def kY:type_of% @Bool.eq_iff_iff:=@Bool.eq_iff_iff
def k8:type_of% @List.take_add_one:=@List.take_add_one
def k9:type_of% @List.getElem_map:=@List.getElem_map
def lW:type_of% @Nat.add_zero:=@Nat.add_zero
def l0:type_of% @List.foldl_cons:=@List.foldl_cons
def l5:type_of% @List.length_pos_iff:=@List.length_pos_iff
def l6:type_of% @Option.map_some:=@Option.map_some
def l8:type_of% @List.nodup_cons:=@List.nodup_cons
def mH:type_of% @Option.map_eq_some_iff:=@Option.map_eq_some_iff
def mK:type_of% @Array.length_toList:=@Array.length_toList
def mN:type_of% @List.length_set:=@List.length_set
def mO:type_of% @List.take_append_drop:=@List.take_append_drop
def nw:type_of% @List.length_take:=@List.length_take
def nH:type_of% @List.getElem?_cons_succ:=@List.getElem?_cons_succ
def nI:type_of% @List.getElem_range:=@List.getElem_range
def nJ:type_of% @Int.natCast_nonneg:=@Int.natCast_nonneg
def nK:type_of% @Int.mul_nonneg:=@Int.mul_nonneg
def oP:type_of% @Nat.mul_le_mul:=@Nat.mul_le_mul
def oQ:type_of% @List.nil_append:=@List.nil_append
def oV:type_of% @decide_eq_false:=@decide_eq_false
def oW:type_of% @decide_eq_true:=@decide_eq_true
def pZ:type_of% @Nat.mod_eq_of_lt:=@Nat.mod_eq_of_lt
def p9:type_of% @List.drop_eq_getElem_cons:=@List.drop_eq_getElem_cons
def qf:type_of% @List.all_eq_true:=@List.all_eq_true
def qh:type_of% @List.mem_flatMap:=@List.mem_flatMap
def qi:type_of% @List.getElem?_range:=@List.getElem?_range
def qj:type_of% @List.pairwise_iff_getElem:=@List.pairwise_iff_getElem
def qk:type_of% @List.length_range:=@List.length_range
def qO:type_of% @List.mem_of_getElem?:=@List.mem_of_getElem?
def qQ:type_of% @Array.getElem?_modify:=@Array.getElem?_modify
def q8:type_of% @List.set_cons_succ:=@List.set_cons_succ
def re:type_of% @Array.size_range:=@Array.size_range
def rf:type_of% @Nat.div_eq_of_lt:=@Nat.div_eq_of_lt
def rh:type_of% @List.getElem_set:=@List.getElem_set
def rj:type_of% @List.nodup_append:=@List.nodup_append
def sH:type_of% @Nat.lt_of_lt_of_le:=@Nat.lt_of_lt_of_le
def sI:type_of% @Array.mem_toList_iff:=@Array.mem_toList_iff
def sK:type_of% @Nat.div_lt_iff_lt_mul:=@Nat.div_lt_iff_lt_mul
def sL:type_of% @List.replicate_succ:=@List.replicate_succ
def sM:type_of% @Option.isSome_iff_exists:=@Option.isSome_iff_exists
def sN:type_of% @Array.getElem?_append_right:=@Array.getElem?_append_right
def sO:type_of% @List.mem_iff_getElem?:=@List.mem_iff_getElem?
def sQ:type_of% @Option.isSome_none:=@Option.isSome_none
def sU:type_of% @List.getElem?_take:=@List.getElem?_take
def uV:type_of% @decide_eq_false_iff_not:=@decide_eq_false_iff_not
inductive AV where
 |int (n:Int)
 |ik (k:Nat) (n:Int)
 |bool (b:Bool)
 |str (s:List UInt8)
 |agg (l:List AV)
 |bF (l:List AV)
 |ae
 |emp
 |au (nn:Bool) (l:List AV)
 |arr (l:List AV)
 |sl (b u off len:Nat)
 |gI
 |aV (v:AV)
 |ptr (b u off:Nat)
 |j9
 |func (f:Nat) (cc:List AV)
 |gu
 |iface (t:Nat) (v:AV)
 |cC (b:Nat)
 |oT
 |aF
 deriving Inhabited
inductive eM where
 |jq|live|dead
 |map (es:List (AV×AV))
 deriving Inhabited
def eM.iv:eM->Bool
 |.map _=>true
 |_=>false
def eM.jf:eM->Bool
 |.live=>true
 |.map _=>true
 |_=>false
def eM.shape:eM->eM
 |.map _=>.map []
 |x=>x
def eM.eT:eM->Bool
 |.jq=>true
 |.live=>true
 |_=>false
def eM.isLive:eM->Bool
 |.live=>true
 |_=>false
structure ah where
 k:Option Nat
 cells:List AV
 st:eM
 deriving Inhabited
inductive Rf where
 |v (k:Nat)
 |t (d:Nat)
 |c (x:AV)
 deriving Inhabited
inductive zf where
 |add|sub|mul|quo|rem|lss|leq|gtr|geq|eql|neq|sV
 deriving Inhabited
inductive cS where
 |mv (x:Rf)
 |bin (o:zf) (x y:Rf)
 |beq (neg:Bool) (x y:Rf)
 |seq (neg:Bool) (n:Nat) (x y:Rf)
 |not (x:Rf)
 |pick (c a b:Rf)
 |len (x:Rf)
 |mx (max:Bool) (x y:Rf)
 |dB (x:Rf) (off:Nat) (k:Option Nat)
 |bd (x i:Rf) (st:Nat)
 |fg (x i:Rf) (n:Nat) (k:Option Nat)
 |nM (x:Rf)
 |eR (x:Rf)
 |ff (n:Nat)
 |iF (p x:Rf) (n:Nat)
 |ie (zero:List AV) (parts:List (Nat×Nat×Rf))
 |fld (x:Rf) (off:Nat) (k:Option Nat)
 |idx (x i:Rf) (n:Nat) (k:Option Nat)
 |ext (x:Rf) (i:Nat)
 |zU (f:Nat) (cc:List Rf)
 |JQ (t:Nat) (x:Rf)
 |bD (parts:List Rf) (st:Nat)
 |cp (parts:List Rf) (st:Nat)
 |pI (x:Rf) (lo hi:Option Rf) (st:Nat)
 |WT (x hi mx:Rf) (st:Nat)
 |kl (f:Nat) (args:List Rf)
 |kR (x:Rf) (args:List Rf)
 |inv (x:Rf) (pA:List (Nat×Nat)) (args:List Rf)
 |mP (neg:Bool) (x:Rf)
 |cK (x:Rf) (k:Option Nat)
 |ld (x:Rf) (k:Option Nat)
 |can (f:Nat) (args:List Rf)
 |CC (x:Rf)
 |qN (f:Nat) (args:List Rf)
 |sJ (x:Rf) (k:Option Nat)
 |ks (zero:List AV) (k:Option Nat)
 |iH (len cap:Rf) (zero:List AV) (k:Option Nat)
 |lZ (parts:List Rf) (k:Option Nat)
 |nl (k:Option Nat)
 |app (s x:Rf) (k:Option Nat)
 |st (p x:Rf) (n:Nat)
 |cu (s x:Rf) (k:Option Nat)
 |eZ (f:Nat) (args:List Rf)
 |kB (x:Rf) (args:List Rf)
 |rm (x:Rf) (pA:List (Nat×Nat)) (args:List Rf)
 |WU (x:Rf)
 |tY (x:Rf) (z:List AV) (k:Option Nat)
 |wM
 |tZ (x:Rf) (kd:Nat) (k:Rf) (z:AV) (ok:Bool)
 |ze (x:Rf)
 |tX (m:Rf) (kd:Nat) (k x:Rf)
 |cvu (x:Rf)
 |gtu (x y:Rf)
 |shu (x y:Rf)
 |JR (d s:Rf) (k:Option Nat)
 |JN (x:Rf)
 |zK (x:Rf)
 |wg (m:Rf) (kd:Nat) (k x:Rf)
 |JE (x:Rf)
 |JO (x i:Rf)
 |zR (x:Rf)
 |DQ (x y:Rf)
 |JS (neg:Bool) (n:Nat) (x y:Rf)
 |slz (x:Rf) (st:Nat)
 |qP (st:Nat)
 |JP (neg:Bool) (x y:Rf)
 |sli (x:Rf) (lo hi:Option Rf) (st:Nat)
 deriving Inhabited
structure Ln where
 op:cS
 g:Option (Rf×Bool):=none
 prev:Bool:=false
 deriving Inhabited
abbrev Ln.p (o:cS):Ln:=⟨o,none,false⟩
abbrev Ln.v (n:Nat):Ln:=⟨.mv (.v n),none,false⟩
abbrev Ln.t (n:Nat):Ln:=⟨.mv (.t n),none,false⟩
abbrev Ln.x (k:Nat) (o:cS):Ln:=⟨o,some (.t k,true),false⟩
abbrev Ln.y (k:Nat) (o:cS):Ln:=⟨o,some (.t k,false),false⟩
structure fQ where
 ls:List Ln
 outs:List (Nat×Nat)
 dC:List Nat
 fl:Option (Nat×Nat)
 deriving Inhabited
inductive IC where
 |skip
 |cq (r:fQ)
 |seq (a b:IC)
 |cond (slot:Nat) (a b:IC)
 |iX (k:Nat) (a b:IC)
 |block (id:Nat) (c:IC)
 |loop (c:IC)
 |exit (id:Nat)
 |ret
 |kO (k:Nat)
 |lex (c:IC)
 |bad
 |cut (b:Bool) (c:IC)
 |CD (c:IC)
 deriving Inhabited
structure Fn where
 np:Nat
 nv:Nat
 body:IC
 res:List (Nat×Option (Option Nat))
 fresh:Bool:=false
 deriving Inhabited
inductive Ex where
 |eU|exit (id:Nat)|ret
 deriving Inhabited
structure St where
 vars:List AV
 fl:Option (Nat×AV)
 σ:List ah
 deriving Inhabited
@[reducible] def nth:List AV->Nat->AV
 | [],_=>.aF
 |x::_,0=>x
 |_::r,n+1=>nth r n
@[reducible] def eu:List AV->Nat->AV->List AV
 | [],_,_=>[]
 |_::r,0,y=>y::r
 |x::r,n+1,y=>x::eu r n y
@[reducible] def ak:List ah->Nat->Option ah
 | [],_=>none
 |x::_,0=>some x
 |_::r,n+1=>ak r n
@[reducible] def ar:List ah->Nat->ah->List ah
 | [],_,_=>[]
 |_::r,0,y=>y::r
 |x::r,n+1,y=>x::ar r n y
@[reducible] def lQ:List AV->Nat->Option AV
 | [],_=>none
 |x::_,0=>some x
 |_::r,n+1=>lQ r n
def bI{a b:Type}(f:a->Option b):List a->Option (List b)
 | []=>some []
 |x::r=>match f x with
  |none=>none
  |some y=>match bI f r with
   |none=>none
   |some s=>some (y::s)
def ka (n:Int):Bool:=decide (-9223372036854775808<=n)&&decide (n<=9223372036854775807)
@[reducible] def AV.cells:AV->List AV
 |.agg l=>l
 |x=>[x]
@[reducible] def aE:Option Nat->Nat
 |none=>1
 |some n=>n
def part (cs:List AV) (off:Nat):Option Nat->Option AV
 |none=>lQ cs off
 |some n=>if off+n<=cs.length then some (.agg ((cs.drop off).take n))else none
def chunk (k:Option Nat):Nat->List AV->List AV
 |0,_=>[]
 |f+1,cs=>match k with
  |none=>match cs with
   | []=>[]
   |x::r=>x::chunk k f r
  |some n=>.agg (cs.take n)::chunk k f (cs.drop n)
mutual
def aI:AV->Bool
 |.sl .. | .ptr .. | .aF | .arr _ | .bF _ | .cC _=>false
 |.agg l | .func _ l=>ax l
 |.iface _ v=>aI v
 |_=>true
def ax:List AV->Bool
 | []=>true
 |x::r=>aI x&&ax r
end
def upto (σ:List ah) (b u:Nat):Option ah:=
 match ak σ b with
 |some B=>match B.st with
  |.dead=>none
  |.map _=>none
  |_=>if B.cells.length==u then some B else none
 |none=>none
def fC (σ:List ah) (b u:Nat):Option ah:=
 match ak σ b with
 |some B=>match B.st with
  |.dead=>none
  |_=>if B.cells.length==u then some B else none
 |none=>none
def eD (σ:List ah) (b:Nat):Option (List (AV×AV)):=
 match ak σ b with
 |some B=>match B.st with
  |.map es=>if B.cells.length==0 then some es else none
  |_=>none
 |none=>none
def view (σ:List ah) (fr:Bool):Nat->AV->Option AV
 |0,_=>none
 |f+1,x=>match x with
  |.sl b u off len=>match upto σ b u with
   |none=>none
   |some B=>if off+len*aE B.k<=B.cells.length then
     match bI (view σ fr f) (chunk B.k len (B.cells.drop off))with
     |none=>none
     |some l=>some (.au false l)
    else none
  |.ptr b u off=>match upto σ b u with
   |none=>none
   |some B=>if off==0&&B.cells.length==aE B.k&&B.st.isLive then
     match part B.cells 0 B.k with
     |none=>none
     |some y=>match view σ fr f y with
      |none=>none
      |some z=>some (.aV z)
    else none
  |.agg l=>match bI (view σ fr f) l with
   |none=>none
   |some l=>some (.agg l)
  |.bF _=>none
  |.func g l=>match bI (view σ fr f) l with
   |none=>none
   |some l=>some (.func g l)
  |.iface t v=>match view σ fr f v with
   |none=>none
   |some v=>some (.iface t v)
  |.au _ l=>if fr then none else some (.au false l)
  |.ae=>some (.au false [])
  |.emp=>some (.au false [])
  |.aV v=>if fr then none else some (.aV v)
  |.aF=>none
  |.arr _=>none
  |.cC _=>some .oT
  |x=>some x
def vd:Nat:=12
def bV (σ:List ah) (fr:Bool):AV->Option AV
 |.bF l=>match bI (view σ fr vd) l with
  |none=>none
  |some l=>some (.bF l)
 |x=>view σ fr vd x
abbrev CE:=Nat->List AV->List ah->Option (AV×List ah)
def fD:AV->AV
 |.ae=>.au false []
 |.emp=>.au false []
 |.au _ l=>.au false l
 |x=>x
def wk:AV->AV
 |.agg l=>.agg (l.map fD)
 |x=>fD x
def iE (ce:CE) (f:Nat) (args:List AV):Option AV:=
 if ax args then
  match ce f (args.map wk) []with
  |some (v,σ)=>bV σ false v
  |none=>none
 else none
def wr (n:Int):Int:=(n+9223372036854775808)%18446744073709551616-9223372036854775808
def bin (o:zf) (x y:Int):Option AV:=
 match o with
 |.add=>if ka (x+y)then some (.int (x+y))else none
 |.sub=>if ka (x-y)then some (.int (x-y))else none
 |.mul=>if ka (x*y)then some (.int (x*y))else none
 |.quo=>if y==0 then none else if ka (x.tdiv y)then some (.int (x.tdiv y))else none
 |.rem=>if y==0 then none else some (.int (x.tmod y))
 |.lss=>some (.bool (decide (x<y)))
 |.leq=>some (.bool (decide (x<=y)))
 |.gtr=>some (.bool (decide (y<x)))
 |.geq=>some (.bool (decide (y<=x)))
 |.eql=>some (.bool (x==y))
 |.neq=>some (.bool (!(x==y)))
 |.sV=>some (.int (wr (x+y)))
def bg:AV->Bool
 |.aF | .bF _=>false
 |.agg l=>l.all fun
  |.aF | .bF _=>false
  |.agg _=>false
  |_=>true
 |_=>true
def sz:Option Nat->Option Nat->Bool
 |none,none=>true
 |some a,some b=>a==b
 |_,_=>false
inductive cD where
 |new (B:ah)
 |news (l:List ah)
 |grow (b:Nat) (cs:List AV)
 deriving Inhabited
def ny (b:Nat):List cD->Bool
 | []=>false
 |.grow a _::r=>b==a || ny b r
 |_::r=>ny b r
mutual
def iW (n:Nat):AV->AV
 |.sl b u off len=>.sl (b+n) u off len
 |.ptr b u off=>.ptr (b+n) u off
 |.cC b=>.cC (b+n)
 |.agg l=>.agg (km n l)
 |.bF l=>.bF (km n l)
 |.func f l=>.func f (km n l)
 |.arr l=>.arr (km n l)
 |.iface t v=>.iface t (iW n v)
 |x=>x
def km (n:Nat):List AV->List AV
 | []=>[]
 |x::r=>iW n x::km n r
end
def KS (n:Nat):List (AV×AV)->List (AV×AV)
 | []=>[]
 |(k,x)::r=>(k,iW n x)::KS n r
def oG (n:Nat):eM->eM
 |.map es=>.map (KS n es)
 |x=>x
def gm (n:Nat) (B:ah):ah:=⟨B.k,km n B.cells,oG n B.st⟩
def fitAll (st:Nat):List AV->Bool
 | []=>true
 |x::r=>x.cells.length==st&&bg x&&fitAll st r
def aJ (σ:List ah) (k:Option Nat):AV->Option (Nat×List AV)
 |.ae=>some (0,[])
 |.emp=>some (0,[])
 |.au _ l=>if fitAll (aE k) l then some (l.length,l.flatMap AV.cells)else none
 |.arr l=>if fitAll (aE k) l then some (l.length,l.flatMap AV.cells)else none
 |.sl b u off len=>match upto σ b u with
  |some B=>if off+len*aE k<=B.cells.length/\aE B.k=aE k then some (len,(B.cells.drop off).take (len*aE k))else none
  |none=>none
 |_=>none
def dz:Nat:=1073741824
def byteOf:AV->Option UInt8
 |.ik 4 n=>if 0<=n/\n<=255 then some (UInt8.ofNat n.toNat)else none
 |_=>none
def bytesOf:List AV->Option (List UInt8)
 | []=>some []
 |x::r=>match byteOf x,bytesOf r with
  |some b,some s=>some (b::s)
  |_,_=>none
@[reducible] def eA:List (Nat×Nat)->Nat->Option Nat
 | [],_=>none
 |(a,b)::r,t=>if a==t then some b else eA r t
def dI (n:Nat) (l:List AV):List AV:=(List.replicate n l).flatten
def putAt (cs:List AV) (off:Nat) (new:List AV):List AV:=cs.take off++new++cs.drop (off+new.length)
def gx (cs:List AV):List (Nat×Nat×AV)->Option (List AV)
 | []=>some cs
 |(o,n,x)::r=>if x.cells.length==n&&decide (o+n<=cs.length)&&bg x then gx (putAt cs o x.cells) r else none
def sW (r:Rf->AV):Option Rf->Option Int
 |none=>some 0
 |some y=>match r y with
  |.int n=>some n
  |_=>none
def sX (r:Rf->AV):Option Rf->Option (Option Int)
 |none=>some none
 |some y=>match r y with
  |.int n=>some (some n)
  |_=>none
def fR (st:Nat):List AV->Bool
 | []=>true
 |x::_=>x.cells.length==st
@[reducible] def eN:List AV->List AV->Option Bool
 | [],[]=>some true
 |.int a::xs,.int b::ys=>match eN xs ys with
  |some c=>some (decide (a=b)&&c)
  |none=>none
 |_,_=>none
def aW:Nat->AV->Bool
 |0,.int _=>true
 |1,.str _=>true
 |n+2,.agg l=>l.length==n&&(eN l l).isSome
 |_,_=>false
def dT:AV->AV->Option Bool
 |.int a,.int b=>some (decide (a=b))
 |.str a,.str b=>some (decide (a=b))
 |.agg xs,.agg ys=>eN xs ys
 |_,_=>none
def cy:List (AV×AV)->AV->Option (Option AV)
 | [],_=>some none
 |(k,x)::r,y=>match dT y k with
  |some true=>some (some x)
  |some false=>cy r y
  |none=>none
def iz:List (AV×AV)->AV->AV->List (AV×AV)
 | [],_,_=>[]
 |(k,x)::r,y,z=>match dT y k with
  |some true=>(k,z)::r
  |_=>(k,x)::iz r y z
@[reducible] def hU:List AV->List AV->Option Bool
 | [],[]=>some true
 |.str a::xs,.str b::ys=>match hU xs ys with
  |some c=>some (decide (a=b)&&c)
  |none=>none
 |_,_=>none
def ev (ce:CE) (σ:List ah) (nl:Nat) (ps:List cD) (r:Rf->AV):cS->Option (AV×Option cD)
 |.mv x=>some (r x,none)
 |.bin o x y=>match r x,r y with
  |.int a,.int b=>(bin o a b).map (·,none)
  |_,_=>none
 |.seq neg n x y=>match r x,r y with
  |.agg xs,.agg ys=>if xs.length=n then(match eN xs ys with
   |some b=>some (.bool (b != neg),none)
   |none=>none)else none
  |_,_=>none
 |.beq neg x y=>match r x,r y with
  |.bool a,.bool b=>some (.bool ((a==b) != neg),none)
  |_,_=>none
 |.not x=>match r x with
  |.bool b=>some (.bool (!b),none)
  |_=>none
 |.pick c a b=>match r c with
  |.bool true=>some (r a,none)
  |.bool false=>some (r b,none)
  |_=>none
 |.len x=>match r x with
  |.ae=>some (.int 0,none)
  |.emp=>some (.int 0,none)
  |.au _ l=>some (.int l.length,none)
  |.sl _ _ _ n=>some (.int n,none)
  |_=>none
 |.mx m x y=>match r x,r y with
  |.int a,.int b=>some (.int (if m then(if a<b then b else a)else(if b<a then b else a)),none)
  |_,_=>none
 |.dB x off k=>match r x with
  |.ptr b u o=>some (.ptr b u (o+off),none)
  |.aV v=>(part v.cells off k).map λy=>(.aV y,none)
  |_=>none
 |.bd x i st=>match r x,r i with
  |.au _ l,.int n=>if 0<=n then(match lQ l n.toNat with|some y=>if y.cells.length==st then some (.aV y,none)else none|none=>none)else none
  |.sl b u off len,.int n=>if 0<=n/\n<len then some (.ptr b u (off+n.toNat*st),none)else none
  |_,_=>none
 |.fg x i n k=>match r x,r i with
  |.ptr b u o,.int j=>if 0<=j/\j<n then some (.ptr b u (o+j.toNat*aE k),none)else none
  |.aV v,.int j=>if 0<=j/\j<n then(part v.cells (j.toNat*aE k) k).map λy=>(.aV y,none)else none
  |_,_=>none
 |.nM x=>match r x with
  |.ptr b u o=>some (.ptr b u o,none)
  |.aV v=>some (.aV v,none)
  |_=>none
 |.eR x=>if aI (r x)then some (.aV (r x),none)else none
 |.ff _=>some (.aF,none)
 |.iF _ x n=>if aI (r x)&&(r x).cells.length==n then some (.aV (r x),none)else none
 |.ie z ps=>(gx z (ps.map λp=>(p.1,p.2.1,r p.2.2))).map λl=>(.agg l,none)
 |.fld x off k=>match r x with
  |.agg l=>(part l off k).map (·,none)
  |_=>none
 |.idx x i n k=>match r x,r i with
  |.agg l,.int j=>if 0<=j/\j<n then(part l (j.toNat*aE k) k).map (·,none)else none
  |_,_=>none
 |.ext x i=>match r x with
  |.bF l=>(lQ l i).map (·,none)
  |_=>none
 |.zU f cs=>some (.func f (cs.map r),none)
 |.JQ t x=>some (.iface t (r x),none)
 |.bD ps st=>if ax (ps.map r)&&fitAll st (ps.map r)then some (.au false (ps.map r),none)else none
 |.cp ps st=>if fitAll st (ps.map r)then some (.arr (ps.map r),none)else none
 |.pI x w e st=>match sW r w,sX r e with
  |some a,some b=>(match r x with
   |.au g l=>
    let h:=b.getD l.length
    if(0<=a/\a<=h/\h<=l.length)/\fR st l=true then some (.au (g&&decide (0<l.length)) ((l.drop a.toNat).take (h.toNat-a.toNat)),none)else none
   |.sl C u off len=>(match upto σ C u with
    |some B=>
     let h:=b.getD len
     if(0<=a/\a<=h/\h<=len)/\aE B.k=st then some (.sl C u (off+a.toNat*st) (h.toNat-a.toNat),none)else none
    |none=>none)
   |_=>none)
  |_,_=>none
 |.sli x w e st=>match sW r w,sX r e with
  |some a,some b=>(match r x with
   |.au g l=>
    let h:=b.getD l.length
    if(0<=a/\a<=h/\h<=l.length)/\fR st l=true then some (.au (g&&decide (0<l.length)) ((l.drop a.toNat).take (h.toNat-a.toNat)),none)else none
   |_=>none)
  |_,_=>none
 |.WT x e mx st=>match r x,r e,r mx with
  |.au g l,.int h,.int m=>if(0<=h/\h<=m/\m<=l.length)/\fR st l=true then some (.au (g&&decide (0<l.length)) (l.take h.toNat),none)else none
  |_,_,_=>none
 |.CC x=>match r x with
  |.int n=>if ka n then some (.int n,none)else none
  |.ik _ n=>if ka n then some (.int n,none)else none
  |_=>none
 |.kl f args=>(iE ce f (args.map r)).map (·,none)
 |.kR x args=>match r x with
  |.func f q=>(iE ce f (args.map r++q)).map (·,none)
  |_=>none
 |.inv x A args=>match r x with
  |.iface t v=>match eA A t with
   |some f=>(iE ce f (v::args.map r)).map (·,none)
   |none=>none
  |_=>none
 |.mP neg x=>match r x with
  |.ae=>some (.bool (!neg),none)
  |.au true _=>some (.bool neg,none)
  |.au false (_::_)=>some (.bool neg,none)
  |.sl b u _ _=>match upto σ b u with
   |some B=>match B.st with
    |.live=>some (.bool neg,none)
    |_=>none
   |none=>none
  |_=>none
 |.cK x k=>match r x with
  |.aV v=>match k,v with
   |none,.agg _=>none
   |none,v=>some (v,none)
   |some n,.agg l=>if l.length==n then some (.agg l,none)else none
   |some _,_=>none
  |_=>none
 |.can f args=>if ax (args.map r)then
   match ce f (args.map r) []with
   |some (v,d)=>some (iW nl v,some (.news (d.map (gm nl))))
   |none=>none
  else none
 |.ld x k=>match r x with
  |.aV v=>match k,v with
   |none,.agg _=>none
   |none,v=>some (v,none)
   |some n,.agg l=>if l.length==n then some (.agg l,none)else none
   |some _,_=>none
  |.ptr b u o=>match upto σ b u with
   |some B=>if B.st.isLive then(part B.cells o k).map (·,none)else none
   |none=>none
  |_=>none
 |.qN f args=>match bI (λx=>view σ false vd (r x)) args with
  |some vs=>match ce f vs []with
   |some (v,d)=>(bV d true v).map (·,none)
   |none=>none
  |none=>none
 |.sJ x k=>if(r x).cells.length==aE k&&bg (r x)then some (.ptr nl (aE k) 0,some (.new ⟨k,(r x).cells,.live⟩))else none
 |.ks z k=>if z.length==aE k then some (.ptr nl (aE k) 0,some (.new ⟨k,z,.live⟩))else none
 |.iH n c z k=>match r n,r c with
  |.int n,.int c=>if 0<=n/\n<=c/\c<=dz/\z.length=aE k then
    some (.sl nl (dI c.toNat z).length 0 n.toNat,some (.new ⟨k,dI c.toNat z,.live⟩))else none
  |_,_=>none
 |.lZ ps k=>if fitAll (aE k) (ps.map r)then some (.sl nl ((ps.map r).flatMap AV.cells).length 0 ps.length,some (.new ⟨k,(ps.map r).flatMap AV.cells,.live⟩))else none
 |.nl k=>some (.sl nl 0 0 0,some (.new ⟨k,[],.jq⟩))
 |.app s x k=>match aJ σ k (r x)with
  |none=>none
  |some (n,cs)=>match r s with
   |.sl b u off len=>match upto σ b u with
    |some B=>if off==0&&u==len*aE k&&decide (len+n<=dz) && !ny b ps&&sz B.k k then
      (if n==0 then some (.sl b u off len,none)else if cs.length==0 then none else some (.sl b (u+cs.length) 0 (len+n),some (.grow b cs)))else none
    |none=>none
   |.ae=>if n==0 then some (.ae,none)else if n<=dz then some (.sl nl cs.length 0 n,some (.new ⟨k,cs,.live⟩))else none
   |.emp=>if n==0 then some (.emp,none)else if n<=dz then some (.sl nl cs.length 0 n,some (.new ⟨k,cs,.live⟩))else none
   |.arr l=>if n==0 then some (if ax l then .au true l else .arr l,none)else if fitAll (aE k) l&&decide (l.length+n<=dz)then some (.sl nl (l.flatMap AV.cells++cs).length 0 (l.length+n),some (.new ⟨k,l.flatMap AV.cells++cs,.live⟩))else none
   |_=>none
 |.WU x=>match r x with
  |.ae=>some (.int 0,none)
  |_=>none
 |.wM=>some (.cC nl,some (.new ⟨some 0,[],.map []⟩))
 |.tZ x D k z ok=>match r x with
  |.cC b=>match eD σ b with
   |some es=>if aW D (r k)then(match cy es (r k)with
    |some (some v)=>some (if ok then .bF [v,.bool true]else v,none)
    |some none=>some (if ok then .bF [z,.bool false]else z,none)
    |none=>none)else none
   |none=>none
  |_=>none
 |.ze x=>match r x with
  |.cC b=>match eD σ b with
   |some es=>some (.int es.length,none)
   |none=>none
  |_=>none
 |.cvu x=>match r x with
  |.int n=>if 0<=n/\n<=18446744073709551615 then some (.ik 7 n,none)else none
  |.ik _ n=>if 0<=n/\n<=18446744073709551615 then some (.ik 7 n,none)else none
  |_=>none
 |.JN x=>match r x with
  |.int n=>if 0<=n/\n<=255 then some (.ik 4 n,none)else none
  |_=>none
 |.zK x=>match aJ σ none (r x)with
  |some (_,cs)=>match bytesOf cs with
   |some s=>some (.str s,none)
   |none=>none
  |none=>none
 |.JP neg x y=>match r x,r y with
  |.ik k a,.ik j b=>if k=j then some (.bool ((a==b) != neg),none)else none
  |_,_=>none
 |.qP _=>some (.emp,none)
 |.slz x _=>match r x with
  |.ae=>some (.emp,none)
  |.emp=>some (.emp,none)
  |.au _ _=>some (.emp,none)
  |.sl _ _ _ _=>some (.emp,none)
  |_=>none
 |.JE x=>match r x with
  |.str s=>some (.au false (s.map λb=>.ik 4 (b.toNat:Int)),none)
  |_=>none
 |.JO x i=>match r x,r i with
  |.str s,.int n=>if 0<=n then(match s[n.toNat]? with
   |some b=>some (.ik 4 (b.toNat:Int),none)
   |none=>none)else none
  |_,_=>none
 |.zR x=>match r x with
  |.int n=>some (.ik 4 (n%256),none)
  |_=>none
 |.DQ x y=>match r x,r y with
  |.int a,.int n=>if 0<=n/\n<64 then some (.int (a.fdiv (2^n.toNat)),none)else none
  |.int a,.ik 7 n=>if 0<=n/\n<64 then some (.int (a.fdiv (2^n.toNat)),none)else none
  |_,_=>none
 |.JS neg n x y=>match r x,r y with
  |.agg xs,.agg ys=>if xs.length=n then(match hU xs ys with
   |some b=>some (.bool (b != neg),none)
   |none=>none)else none
  |_,_=>none
 |.gtu x y=>match r x,r y with
  |.ik 7 a,.ik 7 b=>some (.bool (decide (b<a)),none)
  |_,_=>none
 |.shu x y=>match r x,r y with
  |.ik 7 a,.int n=>if 0<=n/\n<64 then some (.ik 7 (a.fdiv (2^n.toNat)),none)else none
  |.ik 7 a,.ik 7 n=>if 0<=n/\n<64 then some (.ik 7 (a.fdiv (2^n.toNat)),none)else none
  |_,_=>none
 |.st .. | .cu .. | .eZ .. | .kB .. | .rm .. | .tY .. | .tX .. | .JR .. | .wg ..=>none
@[reducible] def rv (vars env:List AV):Rf->AV
 |.v k=>nth vars k
 |.t d=>nth env d
 |.c x=>x
def want (vars env:List AV):Option (Rf×Bool)->Option Bool
 |none=>some true
 |some (g,w)=>match rv vars env g with
  |.bool b=>some (b==w)
  |.bF []=>some false
  |_=>none
@[reducible] def rn (σ:List ah) (b:Nat) (cs:List AV):List ah:=
 match ak σ b with
 |some B=>ar σ b ⟨B.k,B.cells++cs,.live⟩
 |none=>σ
@[reducible] def nG (σ:List ah) (b:Nat) (es:List (AV×AV)):List ah:=
 match ak σ b with
 |some B=>ar σ b ⟨B.k,B.cells,.map es⟩
 |none=>σ
def fK (σ:List ah):cD->List ah
 |.new B=>σ ++ [B]
 |.news l=>σ++l
 |.grow b cs=>rn σ b cs
def fI (ce:CE) (σ:List ah) (r:Rf->AV):cS->Option (AV×List ah)
 |.st p x n=>match r p with
  |.ptr b u o=>match upto σ b u with
   |some B=>if(r x).cells.length==n&&o+n<=B.cells.length&&B.st.isLive&&bg (r x)then some (.aF,ar σ b ⟨B.k,putAt B.cells o (r x).cells,B.st⟩)else none
   |none=>none
  |_=>none
 |.cu s x k=>match aJ σ k (r x)with
  |none=>none
  |some (n,cs)=>match r s with
   |.sl b u off len=>match upto σ b u with
    |some B=>
     if off==0&&decide (len+n<=dz)&&sz B.k k then
      (if n==0 then some (.sl b u off len,σ)
       else if cs.length==0 then none else if u==len*aE k then some (.sl b (u+cs.length) 0 (len+n),ar σ b ⟨B.k,B.cells++cs,.live⟩)
       else if(len+n)*aE k<=u then some (.sl b u 0 (len+n),ar σ b ⟨B.k,putAt B.cells (len*aE k) cs,B.st⟩)
       else none)
     else none
    |none=>none
   |.ae=>if n==0 then some (.ae,σ)else if n<=dz then some (.sl σ.length cs.length 0 n,σ ++ [⟨k,cs,.live⟩])else none
   |.emp=>if n==0 then some (.emp,σ)else if n<=dz then some (.sl σ.length cs.length 0 n,σ ++ [⟨k,cs,.live⟩])else none
   |.arr l=>if n==0 then some (if ax l then .au true l else .arr l,σ)else if fitAll (aE k) l&&decide (l.length+n<=dz)then some (.sl σ.length (l.flatMap AV.cells++cs).length 0 (l.length+n),σ ++ [⟨k,l.flatMap AV.cells++cs,.live⟩])else none
   |_=>none
 |.eZ f args=>ce f (args.map r) σ
 |.kB x args=>match r x with
  |.func f a=>ce f (args.map r++a) σ
  |_=>none
 |.rm x e args=>match r x with
  |.iface t v=>match eA e t with
   |some f=>ce f (v::args.map r) σ
   |none=>none
  |_=>none
 |.tY x z k=>match r x with
  |.sl b u off len=>match upto σ b u with
   |some B=>if 0<len/\off+len*aE k<=B.cells.length/\aE B.k=aE k/\z.length=aE k/\B.st.isLive=true then some (.aF,ar σ b ⟨B.k,putAt B.cells off (dI len z),B.st⟩)else none
   |none=>none
  |_=>none
 |.tX m g k x=>match r m with
  |.cC b=>match eD σ b with
   |some es=>if aW g (r k)&&aI (r x)then(match cy es (r k)with
    |some none=>some (.aF,nG σ b (es ++ [(r k,r x)]))
    |_=>none)else none
   |none=>none
  |_=>none
 |.wg m g k x=>match r m with
  |.cC b=>match eD σ b with
   |some es=>if aW g (r k)&&bg (r x)then(match cy es (r k)with
    |some none=>some (.aF,nG σ b (es ++ [(r k,r x)]))
    |some (some _)=>some (.aF,nG σ b (iz es (r k) (r x)))
    |none=>none)else none
   |none=>none
  |_=>none
 |.JR d s k=>match aJ σ k (r s)with
  |none=>none
  |some (n,cs)=>match r d with
   |.sl b u off len=>match upto σ b u with
    |some B=>if off+len*aE k<=B.cells.length/\aE B.k=aE k/\B.st.isLive=true then
      (if min n len=0 then some (.int 0,σ)else some (.int (min n len:Nat),ar σ b ⟨B.k,putAt B.cells off (cs.take (min n len*aE k)),B.st⟩))else none
    |none=>none
   |_=>none
 |op=>match ev ce σ σ.length [] r op with
  |some (v,some p)=>some (v,fK σ p)
  |some (v,none)=>some (v,σ)
  |none=>none
def cS.kn:cS->Bool
 |.st .. | .cu .. | .eZ .. | .kB .. | .rm .. | .tY .. | .tX .. | .JR .. | .wg ..=>true
 |_=>false
def cS.kP:cS->Bool
 |.can .. | .sJ .. | .ks .. | .iH .. | .lZ .. | .nl .. | .app .. | .wM=>true
 |_=>false
structure LS where
 env:List AV
 aC:List ah
 σ:List ah
def cT (ce:CE) (vars:List AV) (s:LS) (l:Ln):Option LS:=
 match want vars s.env l.g with
 |none=>none
 |some false=>some ⟨.bF []::s.env,s.aC,s.σ⟩
 |some true=>if l.op.kn then
   match fI ce s.σ (rv vars s.env) l.op with
   |some (v,a)=>some ⟨v::s.env,[],a⟩
   |none=>none
  else match ev ce (if l.prev then s.aC else s.σ) s.σ.length [] (rv vars s.env) l.op with
   |some (v,none)=>some ⟨v::s.env,if l.op.kP then s.σ else s.aC,s.σ⟩
   |some (v,some p)=>some ⟨v::s.env,s.σ,fK s.σ p⟩
   |none=>none
def lines (ce:CE) (vars:List AV):List Ln->LS->Option LS
 | [],s=>some s
 |l::ls,s=>match cT ce vars s l with
  |none=>none
  |some s=>lines ce vars ls s
@[reducible] def outs (env:List AV):List (Nat×Nat)->List AV->List AV
 | [],vs=>vs
 |(k,d)::r,vs=>outs env r (eu vs k (nth env d))
@[reducible] def dC:List Nat->List AV->List AV
 | [],vs=>vs
 |k::r,vs=>dC r (eu vs k .aF)
def da (ce:CE) (r:fQ) (s:St):Option St:=
 match lines ce s.vars r.ls ⟨[],s.σ,s.σ⟩with
 |some q=>some {vars:=dC r.dC (outs q.env r.outs s.vars),fl:=match r.fl with|some (t,d)=>some (t,nth q.env d)|none=>none,σ:=q.σ}
 |none=>none
def iter (f:St->Option (Ex×St)):Nat->St->Option (Ex×St)
 |0,_=>none
 |k+1,s=>match f s with
  |some (.eU,s)=>iter f k s
  |x=>x
def reach (σ:List ah):Nat->AV->List Nat->List Nat
 |0,_,acc=>acc
 |f+1,x,acc=>match x with
  |.sl b _ _ _=>if acc.contains b then acc else match ak σ b with
   |some B=>B.cells.foldl (λacc y=>reach σ f y acc) (b::acc)
   |none=>acc
  |.ptr b _ _=>if acc.contains b then acc else match ak σ b with
   |some B=>B.cells.foldl (λacc y=>reach σ f y acc) (b::acc)
   |none=>acc
  |.agg l | .bF l | .func _ l=>l.foldl (λacc y=>reach σ f y acc) acc
  |.iface _ v=>reach σ f v acc
  |_=>acc
def bC (p:Nat->Bool):Nat->List ah->List ah
 |_,[]=>[]
 |n,B::r=>(if p n then⟨B.k,B.cells,.dead⟩else B)::bC p (n+1) r
def gy (σ:List ah):AV->Bool
 |.sl b u _ _=>match upto σ b u with
  |some B=>match B.st with
   |.live=>true
   |_=>false
  |none=>false
 |.au a _=>a
 |_=>false
def uW (n:Nat):AV->Bool
 |.sl b _ _ _=>decide (b<n)
 |.ptr b _ _=>decide (b<n)
 |.cC b=>decide (b<n)
 |.aF=>true
 |x=>aI x
def lf (n:Nat):AV->Bool
 |.arr _=>false
 |.sl b _ _ _=>decide (b<n)
 |.ptr b _ _=>decide (b<n)
 |.cC b=>decide (b<n)
 |.agg l | .bF l | .func _ l=>l.all (uW n)
 |.iface _ v=>aI v
 |_=>true
def Lm (n:Nat):eM->Bool
 |.map es=>es.all λe=>lf n e.2
 |_=>true
def sY (n:Nat):Nat->List ah->Bool
 |0,_=>true
 |_,[]=>true
 |m+1,B::r=>(B.cells.all (lf n)&&Lm n B.st)&&sY n m r
def exec (n:Nat) (ce:CE):IC->St->Option (Ex×St)
 |.skip,s=>some (.eU,s)
 |.cq r,s=>match da ce r s with
  |some s=>some (.eU,s)
  |none=>none
 |.seq a b,s=>match exec n ce a s with
  |some (.eU,s)=>exec n ce b s
  |x=>x
 |.cond slot a b,s=>match s.fl with
  |some (t,.bool c)=>if t==slot then(if c then exec n ce a {s with fl:=none}else exec n ce b {s with fl:=none})else none
  |_=>none
 |.iX k a b,s=>match nth s.vars k with
  |.bool c=>if c then exec n ce a s else exec n ce b s
  |_=>none
 |.block id c,s=>match exec n ce c s with
  |some (.exit id', s)=>if id' == id then some (.eU,s)else some (.exit id', s)
  |x=>x
 |.loop c,s=>iter (exec n ce c) n s
 |.exit id,s=>some (.exit id,s)
 |.ret,s=>some (.ret,s)
 |.kO k,s=>
  let ds:=reach s.σ vd (nth s.vars k) []
  match view (bC (λb=>!ds.contains b) 0 s.σ) false vd (nth s.vars k)with
  |some v=>some (.eU,{s with vars:=eu s.vars k (if gy s.σ (nth s.vars k)then(match v with | .au _ l=>.au true l|x=>x)else v),σ:=bC (λb=>ds.contains b) 0 s.σ})
  |none=>none
 |.bad,_=>none
 |.cut _ c,s=>exec n ce c s
 |.CD c,s=>exec n ce c s
 |.lex c,s=>match exec n ce c s with
  |some (.ret,s')=>some (.ret,s')
  |some (e,s')=>
   let m:=s.σ.length
   if s'.vars.all (lf m)&&sY m m s'.σ&&(match s'.fl with|some _=>false|none=>true)then some (e,{s' with σ:=s'.σ.take m})else none
  |none=>none
def iY (s:St):Nat×Option (Option Nat)->Option AV
 |(k,none)=>some (nth s.vars k)
 |(k,some a)=>match ev (λ_ _ _=>none) s.σ 0 [] (λ_=>nth s.vars k) (.ld (.v 0) a)with
  |some (v,_)=>some v
  |none=>none
def results (fn:Fn) (s:St):Option AV:=
 match bI (iY s) fn.res with
 |some [x]=>some x
 |some l=>some (.bF l)
 |none=>none
abbrev jF:=Nat->Option (CE->List AV->List ah->Option (AV×List ah))
def dD (G:Nat->Option Fn) (Q:jF) (n:Nat):Nat->CE
 |0=>λ_ _ _=>none
 |d+1=>λf args σ=>match Q f with
  |some p=>p (dD G Q n d) args σ
  |none=>match G f with
  |none=>none
  |some fn=>if args.length==fn.np then
    match exec n (dD G Q n d) fn.body {vars:=args++List.replicate (fn.nv-fn.np) .aF,fl:=none,σ}with
    |some (.exit _,_)=>none
    |some (_,s)=>(results fn s).map (·,s.σ)
    |none=>none
   else none
def isScalar:AV->Bool
 |.int _ | .bool _ | .str _=>true
 |_=>false
def ub:CE->List AV->Option AV:=λ_ args=>match args with
 | [.au _ l]=>if l.all isScalar&&decide (l.length<=dz)then some (.au false l)else none
 | [.ae]=>some (.au false [])
 |_=>none
end Ab
