/- An abstract interpreter of a small language of straight-line regions, loops and calls, over immutable trees and owned blocks: its definitions. Condition: none. -/
set_option linter.all false
namespace Ab
theorem aa:type_of% @if_neg:=@if_neg
theorem ab:type_of% @if_pos:=@if_pos
theorem aD:type_of% @Bool.and_eq_true:=@Bool.and_eq_true
theorem bu:type_of% @List.length_append:=@List.length_append
theorem bw:type_of% @Nat.le_refl:=@Nat.le_refl
theorem bF:type_of% @Option.some.injEq:=@Option.some.injEq
theorem bM:type_of% @eq_true:=@eq_true
theorem cw:type_of% @List.length_cons:=@List.length_cons
theorem cy:type_of% @List.mem_range:=@List.mem_range
theorem cB:type_of% @List.mem_cons:=@List.mem_cons
theorem cL:type_of% @beq_iff_eq:=@beq_iff_eq
theorem cR:type_of% @List.mem_map:=@List.mem_map
theorem cT:type_of% @List.getElem?_eq_some_iff:=@List.getElem?_eq_some_iff
theorem db:type_of% @List.map_cons:=@List.map_cons
theorem dc:type_of% @List.getElem?_eq_getElem:=@List.getElem?_eq_getElem
theorem dC:type_of% @if_true:=@if_true
theorem dD:type_of% @List.length_nil:=@List.length_nil
theorem dR:type_of% @List.length_map:=@List.length_map
theorem dW:type_of% @List.eq_nil_of_length_eq_zero:=@List.eq_nil_of_length_eq_zero
theorem eE:type_of% @Bool.false_eq_true:=@Bool.false_eq_true
theorem eG:type_of% @if_false:=@if_false
theorem eI:type_of% @List.mem_append:=@List.mem_append
theorem eP:type_of% @decide_eq_true_eq:=@decide_eq_true_eq
theorem eS:type_of% @Classical.byContradiction:=@Classical.byContradiction
theorem ft:type_of% @List.getElem?_append_left:=@List.getElem?_append_left
theorem fx:type_of% @Nat.add_mul:=@Nat.add_mul
theorem fJ:type_of% @List.mem_iff_getElem:=@List.mem_iff_getElem
theorem gf:type_of% @List.map_congr_left:=@List.map_congr_left
theorem gg:type_of% @eq_false:=@eq_false
theorem gl:type_of% @List.take_of_length_le:=@List.take_of_length_le
theorem gm:type_of% @List.getElem?_append_right:=@List.getElem?_append_right
theorem gG:type_of% @List.getD_eq_getElem?_getD:=@List.getD_eq_getElem?_getD
theorem ie:type_of% @List.getElem?_map:=@List.getElem?_map
theorem iR:type_of% @Array.getElem?_toList:=@Array.getElem?_toList
theorem iS:type_of% @List.append_assoc:=@List.append_assoc
theorem jd:type_of% @Array.getElem?_eq_some_iff:=@Array.getElem?_eq_some_iff
theorem jf:type_of% @Nat.zero_add:=@Nat.zero_add
theorem jg:type_of% @Array.getElem?_eq_getElem:=@Array.getElem?_eq_getElem
theorem jD:type_of% @List.flatMap_cons:=@List.flatMap_cons
theorem jF:type_of% @List.getElem?_eq_none:=@List.getElem?_eq_none
theorem jH:type_of% @List.drop_of_length_le:=@List.drop_of_length_le
theorem jR:type_of% @Nat.mul_le_mul_right:=@Nat.mul_le_mul_right
theorem kE:type_of% @Int.toNat_natCast:=@Int.toNat_natCast
theorem kS:type_of% @Array.getElem?_append_left:=@Array.getElem?_append_left
theorem kV:type_of% @List.pairwise_cons:=@List.pairwise_cons
theorem kW:type_of% @beq_self_eq_true:=@beq_self_eq_true
theorem kX:type_of% @List.cons_append:=@List.cons_append
theorem kY:type_of% @List.map_append:=@List.map_append
theorem lE:type_of% @List.getElem?_drop:=@List.getElem?_drop
theorem lH:type_of% @Option.map_some:=@Option.map_some
theorem my:type_of% @List.length_take:=@List.length_take
theorem mz:type_of% @List.length_pos_iff:=@List.length_pos_iff
theorem mC:type_of% @List.ext_getElem:=@List.ext_getElem
theorem mD:type_of% @List.nodup_cons:=@List.nodup_cons
theorem mE:type_of% @List.range_succ:=@List.range_succ
theorem nu:type_of% @Option.map_eq_some_iff:=@Option.map_eq_some_iff
theorem nD:type_of% @Array.length_toList:=@Array.length_toList
theorem nH:type_of% @List.take_add_one:=@List.take_add_one
theorem nI:type_of% @List.drop_zero:=@List.drop_zero
theorem nJ:type_of% @List.length_set:=@List.length_set
theorem oy:type_of% @Int.natCast_mul:=@Int.natCast_mul
theorem oA:type_of% @List.foldl_cons:=@List.foldl_cons
theorem oL:type_of% @Bool.eq_iff_iff:=@Bool.eq_iff_iff
theorem oM:type_of% @List.take_append_drop:=@List.take_append_drop
theorem oN:type_of% @List.getElem_map:=@List.getElem_map
theorem qU:type_of% @List.mem_of_getElem?:=@List.mem_of_getElem?
theorem qV:type_of% @Int.eq_ofNat_of_zero_le:=@Int.eq_ofNat_of_zero_le
theorem qX:type_of% @Nat.min_eq_left:=@Nat.min_eq_left
theorem q7:type_of% @List.nil_append:=@List.nil_append
theorem rf:type_of% @Option.isSome_none:=@Option.isSome_none
theorem rh:type_of% @List.drop_eq_getElem_cons:=@List.drop_eq_getElem_cons
theorem rj:type_of% @decide_eq_false:=@decide_eq_false
theorem rp:type_of% @List.all_eq_true:=@List.all_eq_true
theorem rq:type_of% @List.mem_flatMap:=@List.mem_flatMap
theorem rr:type_of% @List.pairwise_iff_getElem:=@List.pairwise_iff_getElem
theorem sj:type_of% @List.getElem?_take_of_lt:=@List.getElem?_take_of_lt
theorem ss:type_of% @Option.isSome_iff_exists:=@Option.isSome_iff_exists
theorem su:type_of% @Array.getElem?_modify:=@Array.getElem?_modify
theorem sD:type_of% @List.mem_iff_getElem?:=@List.mem_iff_getElem?
theorem sJ:type_of% @Array.size_range:=@Array.size_range
theorem sK:type_of% @List.nodup_append:=@List.nodup_append
theorem ub:type_of% @Array.mem_toList_iff:=@Array.mem_toList_iff
theorem uc:type_of% @List.replicate_succ:=@List.replicate_succ
theorem ud:type_of% @Array.getElem?_append_right:=@Array.getElem?_append_right
theorem uo:type_of% @List.getElem?_take:=@List.getElem?_take
theorem wg:type_of% @decide_eq_false_iff_not:=@decide_eq_false_iff_not
inductive AV where
 |int (n:Int)
 |ik (k:Nat) (n:Int)
 |bool (b:Bool)
 |str (s:List UInt8)
 |agg (l:List AV)
 |bQ (l:List AV)
 |ah
 |emp
 |aE (nn:Bool) (l:List AV)
 |arr (l:List AV)
 |sl (b u off len:Nat)
 |ig
 |bd (v:AV)
 |ptr (b u off:Nat)
 |kH
 |func (f:Nat) (aI:List AV)
 |gQ
 |iface (t:Nat) (v:AV)
 |cM (b:Nat)
 |p7
 |aM
 deriving Inhabited
inductive eo where
 |jN|live|dead
 |map (es:List (AV×AV))
 deriving Inhabited
def eo.iz:eo->Bool
 |.map _=>true
 |_=>false
def eo.jE:eo->Bool
 |.live=>true
 |.map _=>true
 |_=>false
def eo.shape:eo->eo
 |.map _=>.map []
 |x=>x
def eo.gw:eo->Bool
 |.jN=>true
 |.live=>true
 |_=>false
def eo.isLive:eo->Bool
 |.live=>true
 |_=>false
structure ag where
 k:Option Nat
 cells:List AV
 st:eo
 deriving Inhabited
inductive Rf where
 |v (k:Nat)
 |t (d:Nat)
 |c (x:AV)
 deriving Inhabited
inductive BG where
 |add|sub|mul|quo|rem|lss|leq|gtr|geq|eql|neq|uq
 deriving Inhabited
inductive cU where
 |mv (x:Rf)
 |bin (o:BG) (x y:Rf)
 |beq (neg:Bool) (x y:Rf)
 |seq (neg:Bool) (n:Nat) (x y:Rf)
 |not (x:Rf)
 |pick (c a b:Rf)
 |len (x:Rf)
 |mx (max:Bool) (x y:Rf)
 |b5 (x:Rf) (off:Nat) (k:Option Nat)
 |bU (x i:Rf) (st:Nat)
 |fS (x i:Rf) (n:Nat) (k:Option Nat)
 |oO (x:Rf)
 |iD (x:Rf)
 |gn (n:Nat)
 |ku (p x:Rf) (n:Nat)
 |jI (zero:List AV) (parts:List (Nat×Nat×Rf))
 |Zd (x:Rf) (off:Nat) (k:Option Nat)
 |idx (x i:Rf) (n:Nat) (k:Option Nat)
 |ext (x:Rf) (i:Nat)
 |BH (f:Nat) (aI:List Rf)
 |KU (t:Nat) (x:Rf)
 |bX (parts:List Rf) (st:Nat)
 |dI (parts:List Rf) (st:Nat)
 |pK (x:Rf) (lo hi:Option Rf) (st:Nat)
 |Hz (x hi mx:Rf) (st:Nat)
 |cu (f:Nat) (args:List Rf)
 |lD (x:Rf) (args:List Rf)
 |inv (x:Rf) (gB:List (Nat×Nat)) (args:List Rf)
 |nK (neg:Bool) (x:Rf)
 |cg (x:Rf) (k:Option Nat)
 |ld (x:Rf) (k:Option Nat)
 |can (f:Nat) (args:List Rf)
 |FT (x:Rf)
 |tO (f:Nat) (args:List Rf)
 |u9 (x:Rf) (k:Option Nat)
 |ox (zero:List AV) (k:Option Nat)
 |jT (len cap:Rf) (zero:List AV) (k:Option Nat)
 |mw (parts:List Rf) (k:Option Nat)
 |nl (k:Option Nat)
 |app (s x:Rf) (k:Option Nat)
 |st (p x:Rf) (n:Nat)
 |dm (s x:Rf) (k:Option Nat)
 |fF (f:Nat) (args:List Rf)
 |kT (x:Rf) (args:List Rf)
 |p8 (x:Rf) (gB:List (Nat×Nat)) (args:List Rf)
 |Hf (x:Rf)
 |vi (x:Rf) (z:List AV) (k:Option Nat)
 |ya
 |vj (x:Rf) (kd:Nat) (k:Rf) (z:AV) (ok:Bool)
 |AH (x:Rf)
 |vh (m:Rf) (kd:Nat) (k x:Rf)
 |YP (x:Rf)
 |YS (x y:Rf)
 |YT (x y:Rf)
 |FN (d s:Rf) (k:Option Nat)
 |KR (x:Rf)
 |Bp (x:Rf)
 |xu (m:Rf) (kd:Nat) (k x:Rf)
 |KM (x:Rf)
 |KS (x i:Rf)
 |BD (x:Rf)
 |Hn (x y:Rf)
 |KV (neg:Bool) (n:Nat) (x y:Rf)
 |Ze (x:Rf) (st:Nat)
 |si (st:Nat)
 |KT (neg:Bool) (x y:Rf)
 |Ya (x:Rf) (lo hi:Option Rf) (st:Nat)
 deriving Inhabited
structure Ln where
 op:cU
 g:Option (Rf×Bool):=none
 prev:Bool:=false
 deriving Inhabited
abbrev Ln.p (o:cU):Ln:=⟨o,none,false⟩
abbrev Ln.v (n:Nat):Ln:=⟨.mv (.v n),none,false⟩
abbrev Ln.t (n:Nat):Ln:=⟨.mv (.t n),none,false⟩
abbrev Ln.x (k:Nat) (o:cU):Ln:=⟨o,some (.t k,true),false⟩
abbrev Ln.y (k:Nat) (o:cU):Ln:=⟨o,some (.t k,false),false⟩
structure ga where
 ls:List Ln
 outs:List (Nat×Nat)
 dG:List Nat
 fl:Option (Nat×Nat)
 deriving Inhabited
inductive IC where
 |skip
 |ae (r:ga)
 |seq (a b:IC)
 |cond (slot:Nat) (a b:IC)
 |kO (k:Nat) (a b:IC)
 |block (id:Nat) (c:IC)
 |loop (c:IC)
 |exit (id:Nat)
 |ret
 |lu (k:Nat)
 |lex (c:IC)
 |bad
 |cut (b:Bool) (c:IC)
 |FU (c:IC)
 deriving Inhabited
structure Fn where
 np:Nat
 nv:Nat
 body:IC
 res:List (Nat×Option (Option Nat))
 fresh:Bool:=false
 deriving Inhabited
inductive Ex where
 |fm|exit (id:Nat)|ret
 deriving Inhabited
structure St where
 vars:List AV
 fl:Option (Nat×AV)
 σ:List ag
 deriving Inhabited
@[reducible] def nth:List AV->Nat->AV
 | [],_=>.aM
 |x::_,0=>x
 |_::r,n+1=>nth r n
@[reducible] def eT:List AV->Nat->AV->List AV
 | [],_,_=>[]
 |_::r,0,y=>y::r
 |x::r,n+1,y=>x::eT r n y
@[reducible] def ak:List ag->Nat->Option ag
 | [],_=>none
 |x::_,0=>some x
 |_::r,n+1=>ak r n
@[reducible] def ay:List ag->Nat->ag->List ag
 | [],_,_=>[]
 |_::r,0,y=>y::r
 |x::r,n+1,y=>x::ay r n y
@[reducible] def oP:List AV->Nat->Option AV
 | [],_=>none
 |x::_,0=>some x
 |_::r,n+1=>oP r n
def bV{α β:Type}(f:α->Option β):List α->Option (List β)
 | []=>some []
 |x::r=>match f x with
  |none=>none
  |some y=>match bV f r with
   |none=>none
   |some s=>some (y::s)
def kZ (n:Int):Bool:=decide (-9223372036854775808<=n)&&decide (n<=9223372036854775807)
@[reducible] def AV.cells:AV->List AV
 |.agg l=>l
 |x=>[x]
@[reducible] def aC:Option Nat->Nat
 |none=>1
 |some n=>n
def part (cs:List AV) (off:Nat):Option Nat->Option AV
 |none=>oP cs off
 |some n=>if off+n<=cs.length then some (.agg ((cs.drop off).take n))else none
def chunk (k:Option Nat):Nat->List AV->List AV
 |0,_=>[]
 |f+1,cs=>match k with
  |none=>match cs with
   | []=>[]
   |x::r=>x::chunk k f r
  |some n=>.agg (cs.take n)::chunk k f (cs.drop n)
mutual
def aN:AV->Bool
 |.sl .. | .ptr .. | .aM | .arr _ | .bQ _ | .cM _=>false
 |.agg l | .func _ l=>ax l
 |.iface _ v=>aN v
 |_=>true
def ax:List AV->Bool
 | []=>true
 |x::r=>aN x&&ax r
end
def upto (σ:List ag) (b u:Nat):Option ag:=
 match ak σ b with
 |some B=>match B.st with
  |.dead=>none
  |.map _=>none
  |_=>if B.cells.length==u then some B else none
 |none=>none
def fL (σ:List ag) (b u:Nat):Option ag:=
 match ak σ b with
 |some B=>match B.st with
  |.dead=>none
  |_=>if B.cells.length==u then some B else none
 |none=>none
def eY (σ:List ag) (b:Nat):Option (List (AV×AV)):=
 match ak σ b with
 |some B=>match B.st with
  |.map es=>if B.cells.length==0 then some es else none
  |_=>none
 |none=>none
def view (σ:List ag) (fr:Bool):Nat->AV->Option AV
 |0,_=>none
 |f+1,x=>match x with
  |.sl b u off len=>match upto σ b u with
   |none=>none
   |some B=>if off+len*aC B.k<=B.cells.length then
     match bV (view σ fr f) (chunk B.k len (B.cells.drop off))with
     |none=>none
     |some l=>some (.aE false l)
    else none
  |.ptr b u off=>match upto σ b u with
   |none=>none
   |some B=>if off==0&&B.cells.length==aC B.k&&B.st.isLive then
     match part B.cells 0 B.k with
     |none=>none
     |some y=>match view σ fr f y with
      |none=>none
      |some z=>some (.bd z)
    else none
  |.agg l=>match bV (view σ fr f) l with
   |none=>none
   |some l=>some (.agg l)
  |.bQ _=>none
  |.func g l=>match bV (view σ fr f) l with
   |none=>none
   |some l=>some (.func g l)
  |.iface t v=>match view σ fr f v with
   |none=>none
   |some v=>some (.iface t v)
  |.aE _ l=>if fr then none else some (.aE false l)
  |.ah=>some (.aE false [])
  |.emp=>some (.aE false [])
  |.bd v=>if fr then none else some (.bd v)
  |.aM=>none
  |.arr _=>none
  |.cM _=>some .p7
  |x=>some x
def vd:Nat:=12
def cv (σ:List ag) (fr:Bool):AV->Option AV
 |.bQ l=>match bV (view σ fr vd) l with
  |none=>none
  |some l=>some (.bQ l)
 |x=>view σ fr vd x
abbrev CE:=Nat->List AV->List ag->Option (AV×List ag)
def fR:AV->AV
 |.ah=>.aE false []
 |.emp=>.aE false []
 |.aE _ l=>.aE false l
 |x=>x
def wk:AV->AV
 |.agg l=>.agg (l.map fR)
 |x=>fR x
def iZ (ce:CE) (f:Nat) (args:List AV):Option AV:=
 if ax args then
  match ce f (args.map wk) []with
  |some (v,σ)=>cv σ false v
  |none=>none
 else none
def wr (n:Int):Int:=(n+9223372036854775808)%18446744073709551616-9223372036854775808
def bin (o:BG) (x y:Int):Option AV:=
 match o with
 |.add=>if kZ (x+y)then some (.int (x+y))else none
 |.sub=>if kZ (x-y)then some (.int (x-y))else none
 |.mul=>if kZ (x*y)then some (.int (x*y))else none
 |.quo=>if y==0 then none else if kZ (x.tdiv y)then some (.int (x.tdiv y))else none
 |.rem=>if y==0 then none else some (.int (x.tmod y))
 |.lss=>some (.bool (decide (x<y)))
 |.leq=>some (.bool (decide (x<=y)))
 |.gtr=>some (.bool (decide (y<x)))
 |.geq=>some (.bool (decide (y<=x)))
 |.eql=>some (.bool (x==y))
 |.neq=>some (.bool (!(x==y)))
 |.uq=>some (.int (wr (x+y)))
def bz:AV->Bool
 |.aM | .bQ _=>false
 |.agg l=>l.all fun
  |.aM | .bQ _=>false
  |.agg _=>false
  |_=>true
 |_=>true
def tQ:Option Nat->Option Nat->Bool
 |none,none=>true
 |some a,some b=>a==b
 |_,_=>false
inductive aX where
 |new (B:ag)
 |news (l:List ag)
 |grow (b:Nat) (cs:List AV)
 deriving Inhabited
def oC (b:Nat):List aX->Bool
 | []=>false
 |.grow b' _::r=>b==b' || oC b r
 |_::r=>oC b r
mutual
def jx (n:Nat):AV->AV
 |.sl b u off len=>.sl (b+n) u off len
 |.ptr b u off=>.ptr (b+n) u off
 |.cM b=>.cM (b+n)
 |.agg l=>.agg (kM n l)
 |.bQ l=>.bQ (kM n l)
 |.func f l=>.func f (kM n l)
 |.arr l=>.arr (kM n l)
 |.iface t v=>.iface t (jx n v)
 |x=>x
def kM (n:Nat):List AV->List AV
 | []=>[]
 |x::r=>jx n x::kM n r
end
def Mn (n:Nat):List (AV×AV)->List (AV×AV)
 | []=>[]
 |(k,x)::r=>(k,jx n x)::Mn n r
def pJ (n:Nat):eo->eo
 |.map es=>.map (Mn n es)
 |x=>x
def gM (n:Nat) (B:ag):ag:=⟨B.k,kM n B.cells,pJ n B.st⟩
def fitAll (st:Nat):List AV->Bool
 | []=>true
 |x::r=>x.cells.length==st&&bz x&&fitAll st r
def aG (σ:List ag) (k:Option Nat):AV->Option (Nat×List AV)
 |.ah=>some (0,[])
 |.emp=>some (0,[])
 |.aE _ l=>if fitAll (aC k) l then some (l.length,l.flatMap AV.cells)else none
 |.arr l=>if fitAll (aC k) l then some (l.length,l.flatMap AV.cells)else none
 |.sl b u off len=>match upto σ b u with
  |some B=>if off+len*aC k<=B.cells.length/\aC B.k=aC k then some (len,(B.cells.drop off).take (len*aC k))else none
  |none=>none
 |_=>none
def dE:Nat:=1073741824
def byteOf:AV->Option UInt8
 |.ik 4 n=>if 0<=n/\n<=255 then some (UInt8.ofNat n.toNat)else none
 |_=>none
def bytesOf:List AV->Option (List UInt8)
 | []=>some []
 |x::r=>match byteOf x,bytesOf r with
  |some b,some s=>some (b::s)
  |_,_=>none
@[reducible] def eK:List (Nat×Nat)->Nat->Option Nat
 | [],_=>none
 |(a,b)::r,t=>if a==t then some b else eK r t
def eH (n:Nat) (l:List AV):List AV:=(List.replicate n l).flatten
def putAt (cs:List AV) (off:Nat) (new:List AV):List AV:=cs.take off++new++cs.drop (off+new.length)
def gS (cs:List AV):List (Nat×Nat×AV)->Option (List AV)
 | []=>some cs
 |(o,n,x)::r=>if x.cells.length==n&&decide (o+n<=cs.length)&&bz x then gS (putAt cs o x.cells) r else none
def tR (r:Rf->AV):Option Rf->Option Int
 |none=>some 0
 |some y=>match r y with
  |.int n=>some n
  |_=>none
def tS (r:Rf->AV):Option Rf->Option (Option Int)
 |none=>some none
 |some y=>match r y with
  |.int n=>some (some n)
  |_=>none
def gd (st:Nat):List AV->Bool
 | []=>true
 |x::_=>x.cells.length==st
@[reducible] def fg:List AV->List AV->Option Bool
 | [],[]=>some true
 |.int a::xs,.int b::ys=>match fg xs ys with
  |some c=>some (decide (a=b)&&c)
  |none=>none
 |_,_=>none
def bg:Nat->AV->Bool
 |0,.int _=>true
 |1,.str _=>true
 |n+2,.agg l=>l.length==n&&(fg l l).isSome
 |_,_=>false
def ew:AV->AV->Option Bool
 |.int a,.int b=>some (decide (a=b))
 |.str a,.str b=>some (decide (a=b))
 |.agg xs,.agg ys=>fg xs ys
 |_,_=>none
def cH:List (AV×AV)->AV->Option (Option AV)
 | [],_=>some none
 |(k,x)::r,y=>match ew y k with
  |some true=>some (some x)
  |some false=>cH r y
  |none=>none
def iU:List (AV×AV)->AV->AV->List (AV×AV)
 | [],_,_=>[]
 |(k,x)::r,y,z=>match ew y k with
  |some true=>(k,z)::r
  |_=>(k,x)::iU r y z
@[reducible] def iG:List AV->List AV->Option Bool
 | [],[]=>some true
 |.str a::xs,.str b::ys=>match iG xs ys with
  |some c=>some (decide (a=b)&&c)
  |none=>none
 |_,_=>none
def ev (ce:CE) (σ:List ag) (nl:Nat) (ps:List aX) (r:Rf->AV):cU->Option (AV×Option aX)
 |.mv x=>some (r x,none)
 |.bin o x y=>match r x,r y with
  |.int a,.int b=>(bin o a b).map (·,none)
  |_,_=>none
 |.seq neg n x y=>match r x,r y with
  |.agg xs,.agg ys=>if xs.length=n then(match fg xs ys with
   |some b=>some (.bool (b != neg),none)
   |none=>none)else none
  |_,_=>none
 |.beq neg x y=>match r x,r y with
  |.bool a,.bool b=>some (.bool ((a==b) != neg),none)
  |_,_=>none
 |.not x=>match r x with
  |.bool b=>some (.bool (!b),none)
  |_=>none
 |.pick c a b=>match r c with
  |.bool true=>some (r a,none)
  |.bool false=>some (r b,none)
  |_=>none
 |.len x=>match r x with
  |.ah=>some (.int 0,none)
  |.emp=>some (.int 0,none)
  |.aE _ l=>some (.int l.length,none)
  |.sl _ _ _ n=>some (.int n,none)
  |_=>none
 |.mx m x y=>match r x,r y with
  |.int a,.int b=>some (.int (if m then(if a<b then b else a)else(if b<a then b else a)),none)
  |_,_=>none
 |.b5 x off k=>match r x with
  |.ptr b u o=>some (.ptr b u (o+off),none)
  |.bd v=>(part v.cells off k).map λy=>(.bd y,none)
  |_=>none
 |.bU x i st=>match r x,r i with
  |.aE _ l,.int n=>if 0<=n then(match oP l n.toNat with|some y=>if y.cells.length==st then some (.bd y,none)else none|none=>none)else none
  |.sl b u off len,.int n=>if 0<=n/\n<len then some (.ptr b u (off+n.toNat*st),none)else none
  |_,_=>none
 |.fS x i n k=>match r x,r i with
  |.ptr b u o,.int j=>if 0<=j/\j<n then some (.ptr b u (o+j.toNat*aC k),none)else none
  |.bd v,.int j=>if 0<=j/\j<n then(part v.cells (j.toNat*aC k) k).map λy=>(.bd y,none)else none
  |_,_=>none
 |.oO x=>match r x with
  |.ptr b u o=>some (.ptr b u o,none)
  |.bd v=>some (.bd v,none)
  |_=>none
 |.iD x=>if aN (r x)then some (.bd (r x),none)else none
 |.gn _=>some (.aM,none)
 |.ku _ x n=>if aN (r x)&&(r x).cells.length==n then some (.bd (r x),none)else none
 |.jI z ps=>(gS z (ps.map λp=>(p.1,p.2.1,r p.2.2))).map λl=>(.agg l,none)
 |.Zd x off k=>match r x with
  |.agg l=>(part l off k).map (·,none)
  |_=>none
 |.idx x i n k=>match r x,r i with
  |.agg l,.int j=>if 0<=j/\j<n then(part l (j.toNat*aC k) k).map (·,none)else none
  |_,_=>none
 |.ext x i=>match r x with
  |.bQ l=>(oP l i).map (·,none)
  |_=>none
 |.BH f cs=>some (.func f (cs.map r),none)
 |.KU t x=>some (.iface t (r x),none)
 |.bX ps st=>if ax (ps.map r)&&fitAll st (ps.map r)then some (.aE false (ps.map r),none)else none
 |.dI ps st=>if fitAll st (ps.map r)then some (.arr (ps.map r),none)else none
 |.pK x lo hi st=>match tR r lo,tS r hi with
  |some a,some b=>(match r x with
   |.aE nn l=>
    let h:=b.getD l.length
    if(0<=a/\a<=h/\h<=l.length)/\gd st l=true then some (.aE (nn&&decide (0<l.length)) ((l.drop a.toNat).take (h.toNat-a.toNat)),none)else none
   |.sl b' u off len=>(match upto σ b' u with
    |some B=>
     let h:=b.getD len
     if(0<=a/\a<=h/\h<=len)/\aC B.k=st then some (.sl b' u (off+a.toNat*st) (h.toNat-a.toNat),none)else none
    |none=>none)
   |_=>none)
  |_,_=>none
 |.Ya x lo hi st=>match tR r lo,tS r hi with
  |some a,some b=>(match r x with
   |.aE nn l=>
    let h:=b.getD l.length
    if(0<=a/\a<=h/\h<=l.length)/\gd st l=true then some (.aE (nn&&decide (0<l.length)) ((l.drop a.toNat).take (h.toNat-a.toNat)),none)else none
   |_=>none)
  |_,_=>none
 |.Hz x hi mx st=>match r x,r hi,r mx with
  |.aE nn l,.int h,.int m=>if(0<=h/\h<=m/\m<=l.length)/\gd st l=true then some (.aE (nn&&decide (0<l.length)) (l.take h.toNat),none)else none
  |_,_,_=>none
 |.FT x=>match r x with
  |.int n=>if kZ n then some (.int n,none)else none
  |.ik _ n=>if kZ n then some (.int n,none)else none
  |_=>none
 |.cu f args=>(iZ ce f (args.map r)).map (·,none)
 |.lD x args=>match r x with
  |.func f aI=>(iZ ce f (args.map r++aI)).map (·,none)
  |_=>none
 |.inv x gB args=>match r x with
  |.iface t v=>match eK gB t with
   |some f=>(iZ ce f (v::args.map r)).map (·,none)
   |none=>none
  |_=>none
 |.nK neg x=>match r x with
  |.ah=>some (.bool (!neg),none)
  |.aE true _=>some (.bool neg,none)
  |.aE false (_::_)=>some (.bool neg,none)
  |.sl b u _ _=>match upto σ b u with
   |some B=>match B.st with
    |.live=>some (.bool neg,none)
    |_=>none
   |none=>none
  |_=>none
 |.cg x k=>match r x with
  |.bd v=>match k,v with
   |none,.agg _=>none
   |none,v=>some (v,none)
   |some n,.agg l=>if l.length==n then some (.agg l,none)else none
   |some _,_=>none
  |_=>none
 |.can f args=>if ax (args.map r)then
   match ce f (args.map r) []with
   |some (v,bp)=>some (jx nl v,some (.news (bp.map (gM nl))))
   |none=>none
  else none
 |.ld x k=>match r x with
  |.bd v=>match k,v with
   |none,.agg _=>none
   |none,v=>some (v,none)
   |some n,.agg l=>if l.length==n then some (.agg l,none)else none
   |some _,_=>none
  |.ptr b u o=>match upto σ b u with
   |some B=>if B.st.isLive then(part B.cells o k).map (·,none)else none
   |none=>none
  |_=>none
 |.tO f args=>match bV (λx=>view σ false vd (r x)) args with
  |some vs=>match ce f vs []with
   |some (v,bp)=>(cv bp true v).map (·,none)
   |none=>none
  |none=>none
 |.u9 x k=>if(r x).cells.length==aC k&&bz (r x)then some (.ptr nl (aC k) 0,some (.new ⟨k,(r x).cells,.live⟩))else none
 |.ox z k=>if z.length==aC k then some (.ptr nl (aC k) 0,some (.new ⟨k,z,.live⟩))else none
 |.jT n c z k=>match r n,r c with
  |.int n,.int c=>if 0<=n/\n<=c/\c<=dE/\z.length=aC k then
    some (.sl nl (eH c.toNat z).length 0 n.toNat,some (.new ⟨k,eH c.toNat z,.live⟩))else none
  |_,_=>none
 |.mw ps k=>if fitAll (aC k) (ps.map r)then some (.sl nl ((ps.map r).flatMap AV.cells).length 0 ps.length,some (.new ⟨k,(ps.map r).flatMap AV.cells,.live⟩))else none
 |.nl k=>some (.sl nl 0 0 0,some (.new ⟨k,[],.jN⟩))
 |.app s x k=>match aG σ k (r x)with
  |none=>none
  |some (n,cs)=>match r s with
   |.sl b u off len=>match upto σ b u with
    |some B=>if off==0&&u==len*aC k&&decide (len+n<=dE) && !oC b ps&&tQ B.k k then
      (if n==0 then some (.sl b u off len,none)else if cs.length==0 then none else some (.sl b (u+cs.length) 0 (len+n),some (.grow b cs)))else none
    |none=>none
   |.ah=>if n==0 then some (.ah,none)else if n<=dE then some (.sl nl cs.length 0 n,some (.new ⟨k,cs,.live⟩))else none
   |.emp=>if n==0 then some (.emp,none)else if n<=dE then some (.sl nl cs.length 0 n,some (.new ⟨k,cs,.live⟩))else none
   |.arr l=>if n==0 then some (if ax l then .aE true l else .arr l,none)else if fitAll (aC k) l&&decide (l.length+n<=dE)then some (.sl nl (l.flatMap AV.cells++cs).length 0 (l.length+n),some (.new ⟨k,l.flatMap AV.cells++cs,.live⟩))else none
   |_=>none
 |.Hf x=>match r x with
  |.ah=>some (.int 0,none)
  |_=>none
 |.ya=>some (.cM nl,some (.new ⟨some 0,[],.map []⟩))
 |.vj x kd k z ok=>match r x with
  |.cM b=>match eY σ b with
   |some es=>if bg kd (r k)then(match cH es (r k)with
    |some (some v)=>some (if ok then .bQ [v,.bool true]else v,none)
    |some none=>some (if ok then .bQ [z,.bool false]else z,none)
    |none=>none)else none
   |none=>none
  |_=>none
 |.AH x=>match r x with
  |.cM b=>match eY σ b with
   |some es=>some (.int es.length,none)
   |none=>none
  |_=>none
 |.YP x=>match r x with
  |.int n=>if 0<=n/\n<=18446744073709551615 then some (.ik 7 n,none)else none
  |.ik _ n=>if 0<=n/\n<=18446744073709551615 then some (.ik 7 n,none)else none
  |_=>none
 |.KR x=>match r x with
  |.int n=>if 0<=n/\n<=255 then some (.ik 4 n,none)else none
  |_=>none
 |.Bp x=>match aG σ none (r x)with
  |some (_,cs)=>match bytesOf cs with
   |some s=>some (.str s,none)
   |none=>none
  |none=>none
 |.KT neg x y=>match r x,r y with
  |.ik k a,.ik j b=>if k=j then some (.bool ((a==b) != neg),none)else none
  |_,_=>none
 |.si _=>some (.emp,none)
 |.Ze x _=>match r x with
  |.ah=>some (.emp,none)
  |.emp=>some (.emp,none)
  |.aE _ _=>some (.emp,none)
  |.sl _ _ _ _=>some (.emp,none)
  |_=>none
 |.KM x=>match r x with
  |.str s=>some (.aE false (s.map λb=>.ik 4 (b.toNat:Int)),none)
  |_=>none
 |.KS x i=>match r x,r i with
  |.str s,.int n=>if 0<=n then(match s[n.toNat]? with
   |some b=>some (.ik 4 (b.toNat:Int),none)
   |none=>none)else none
  |_,_=>none
 |.BD x=>match r x with
  |.int n=>some (.ik 4 (n%256),none)
  |_=>none
 |.Hn x y=>match r x,r y with
  |.int a,.int n=>if 0<=n/\n<64 then some (.int (a.fdiv (2^n.toNat)),none)else none
  |.int a,.ik 7 n=>if 0<=n/\n<64 then some (.int (a.fdiv (2^n.toNat)),none)else none
  |_,_=>none
 |.KV neg n x y=>match r x,r y with
  |.agg xs,.agg ys=>if xs.length=n then(match iG xs ys with
   |some b=>some (.bool (b != neg),none)
   |none=>none)else none
  |_,_=>none
 |.YS x y=>match r x,r y with
  |.ik 7 a,.ik 7 b=>some (.bool (decide (b<a)),none)
  |_,_=>none
 |.YT x y=>match r x,r y with
  |.ik 7 a,.int n=>if 0<=n/\n<64 then some (.ik 7 (a.fdiv (2^n.toNat)),none)else none
  |.ik 7 a,.ik 7 n=>if 0<=n/\n<64 then some (.ik 7 (a.fdiv (2^n.toNat)),none)else none
  |_,_=>none
 |.st .. | .dm .. | .fF .. | .kT .. | .p8 .. | .vi .. | .vh .. | .FN .. | .xu ..=>none
@[reducible] def rv (vars env:List AV):Rf->AV
 |.v k=>nth vars k
 |.t d=>nth env d
 |.c x=>x
def want (vars env:List AV):Option (Rf×Bool)->Option Bool
 |none=>some true
 |some (g,w)=>match rv vars env g with
  |.bool b=>some (b==w)
  |.bQ []=>some false
  |_=>none
@[reducible] def sL (σ:List ag) (b:Nat) (cs:List AV):List ag:=
 match ak σ b with
 |some B=>ay σ b ⟨B.k,B.cells++cs,.live⟩
 |none=>σ
@[reducible] def oI (σ:List ag) (b:Nat) (es:List (AV×AV)):List ag:=
 match ak σ b with
 |some B=>ay σ b ⟨B.k,B.cells,.map es⟩
 |none=>σ
def fT (σ:List ag):aX->List ag
 |.new B=>σ ++ [B]
 |.news l=>σ++l
 |.grow b cs=>sL σ b cs
def fC (ce:CE) (σ:List ag) (r:Rf->AV):cU->Option (AV×List ag)
 |.st p x n=>match r p with
  |.ptr b u o=>match upto σ b u with
   |some B=>if(r x).cells.length==n&&o+n<=B.cells.length&&B.st.isLive&&bz (r x)then some (.aM,ay σ b ⟨B.k,putAt B.cells o (r x).cells,B.st⟩)else none
   |none=>none
  |_=>none
 |.dm s x k=>match aG σ k (r x)with
  |none=>none
  |some (n,cs)=>match r s with
   |.sl b u off len=>match upto σ b u with
    |some B=>
     if off==0&&decide (len+n<=dE)&&tQ B.k k then
      (if n==0 then some (.sl b u off len,σ)
       else if cs.length==0 then none else if u==len*aC k then some (.sl b (u+cs.length) 0 (len+n),ay σ b ⟨B.k,B.cells++cs,.live⟩)
       else if(len+n)*aC k<=u then some (.sl b u 0 (len+n),ay σ b ⟨B.k,putAt B.cells (len*aC k) cs,B.st⟩)
       else none)
     else none
    |none=>none
   |.ah=>if n==0 then some (.ah,σ)else if n<=dE then some (.sl σ.length cs.length 0 n,σ ++ [⟨k,cs,.live⟩])else none
   |.emp=>if n==0 then some (.emp,σ)else if n<=dE then some (.sl σ.length cs.length 0 n,σ ++ [⟨k,cs,.live⟩])else none
   |.arr l=>if n==0 then some (if ax l then .aE true l else .arr l,σ)else if fitAll (aC k) l&&decide (l.length+n<=dE)then some (.sl σ.length (l.flatMap AV.cells++cs).length 0 (l.length+n),σ ++ [⟨k,l.flatMap AV.cells++cs,.live⟩])else none
   |_=>none
 |.fF f args=>ce f (args.map r) σ
 |.kT x args=>match r x with
  |.func f aI=>ce f (args.map r++aI) σ
  |_=>none
 |.p8 x gB args=>match r x with
  |.iface t v=>match eK gB t with
   |some f=>ce f (v::args.map r) σ
   |none=>none
  |_=>none
 |.vi x z k=>match r x with
  |.sl b u off len=>match upto σ b u with
   |some B=>if 0<len/\off+len*aC k<=B.cells.length/\aC B.k=aC k/\z.length=aC k/\B.st.isLive=true then some (.aM,ay σ b ⟨B.k,putAt B.cells off (eH len z),B.st⟩)else none
   |none=>none
  |_=>none
 |.vh m kd k x=>match r m with
  |.cM b=>match eY σ b with
   |some es=>if bg kd (r k)&&aN (r x)then(match cH es (r k)with
    |some none=>some (.aM,oI σ b (es ++ [(r k,r x)]))
    |_=>none)else none
   |none=>none
  |_=>none
 |.xu m kd k x=>match r m with
  |.cM b=>match eY σ b with
   |some es=>if bg kd (r k)&&bz (r x)then(match cH es (r k)with
    |some none=>some (.aM,oI σ b (es ++ [(r k,r x)]))
    |some (some _)=>some (.aM,oI σ b (iU es (r k) (r x)))
    |none=>none)else none
   |none=>none
  |_=>none
 |.FN d s k=>match aG σ k (r s)with
  |none=>none
  |some (n,cs)=>match r d with
   |.sl b u off len=>match upto σ b u with
    |some B=>if off+len*aC k<=B.cells.length/\aC B.k=aC k/\B.st.isLive=true then
      (if min n len=0 then some (.int 0,σ)else some (.int (min n len:Nat),ay σ b ⟨B.k,putAt B.cells off (cs.take (min n len*aC k)),B.st⟩))else none
    |none=>none
   |_=>none
 |op=>match ev ce σ σ.length [] r op with
  |some (v,some p)=>some (v,fT σ p)
  |some (v,none)=>some (v,σ)
  |none=>none
def cU.kN:cU->Bool
 |.st .. | .dm .. | .fF .. | .kT .. | .p8 .. | .vi .. | .vh .. | .FN .. | .xu ..=>true
 |_=>false
def cU.lz:cU->Bool
 |.can .. | .u9 .. | .ox .. | .jT .. | .mw .. | .nl .. | .app .. | .ya=>true
 |_=>false
structure LS where
 env:List AV
 az:List ag
 σ:List ag
def dd (ce:CE) (vars:List AV) (s:LS) (l:Ln):Option LS:=
 match want vars s.env l.g with
 |none=>none
 |some false=>some ⟨.bQ []::s.env,s.az,s.σ⟩
 |some true=>if l.op.kN then
   match fC ce s.σ (rv vars s.env) l.op with
   |some (v,bp)=>some ⟨v::s.env,[],bp⟩
   |none=>none
  else match ev ce (if l.prev then s.az else s.σ) s.σ.length [] (rv vars s.env) l.op with
   |some (v,none)=>some ⟨v::s.env,if l.op.lz then s.σ else s.az,s.σ⟩
   |some (v,some p)=>some ⟨v::s.env,s.σ,fT s.σ p⟩
   |none=>none
def lines (ce:CE) (vars:List AV):List Ln->LS->Option LS
 | [],s=>some s
 |l::ls,s=>match dd ce vars s l with
  |none=>none
  |some s=>lines ce vars ls s
@[reducible] def outs (env:List AV):List (Nat×Nat)->List AV->List AV
 | [],vs=>vs
 |(k,d)::r,vs=>outs env r (eT vs k (nth env d))
@[reducible] def dG:List Nat->List AV->List AV
 | [],vs=>vs
 |k::r,vs=>dG r (eT vs k .aM)
def dp (ce:CE) (r:ga) (s:St):Option St:=
 match lines ce s.vars r.ls ⟨[],s.σ,s.σ⟩with
 |some q=>some {vars:=dG r.dG (outs q.env r.outs s.vars),fl:=match r.fl with|some (t,d)=>some (t,nth q.env d)|none=>none,σ:=q.σ}
 |none=>none
def iter (f:St->Option (Ex×St)):Nat->St->Option (Ex×St)
 |0,_=>none
 |k+1,s=>match f s with
  |some (.fm,s)=>iter f k s
  |x=>x
def reach (σ:List ag):Nat->AV->List Nat->List Nat
 |0,_,acc=>acc
 |f+1,x,acc=>match x with
  |.sl b _ _ _=>if acc.contains b then acc else match ak σ b with
   |some B=>B.cells.foldl (λacc y=>reach σ f y acc) (b::acc)
   |none=>acc
  |.ptr b _ _=>if acc.contains b then acc else match ak σ b with
   |some B=>B.cells.foldl (λacc y=>reach σ f y acc) (b::acc)
   |none=>acc
  |.agg l | .bQ l | .func _ l=>l.foldl (λacc y=>reach σ f y acc) acc
  |.iface _ v=>reach σ f v acc
  |_=>acc
def bI (p:Nat->Bool):Nat->List ag->List ag
 |_,[]=>[]
 |n,B::r=>(if p n then⟨B.k,B.cells,.dead⟩else B)::bI p (n+1) r
def gU (σ:List ag):AV->Bool
 |.sl b u _ _=>match upto σ b u with
  |some B=>match B.st with
   |.live=>true
   |_=>false
  |none=>false
 |.aE nn _=>nn
 |_=>false
def wh (n:Nat):AV->Bool
 |.sl b _ _ _=>decide (b<n)
 |.ptr b _ _=>decide (b<n)
 |.cM b=>decide (b<n)
 |.aM=>true
 |x=>aN x
def lM (n:Nat):AV->Bool
 |.arr _=>false
 |.sl b _ _ _=>decide (b<n)
 |.ptr b _ _=>decide (b<n)
 |.cM b=>decide (b<n)
 |.agg l | .bQ l | .func _ l=>l.all (wh n)
 |.iface _ v=>aN v
 |_=>true
def MO (n:Nat):eo->Bool
 |.map es=>es.all λe=>lM n e.2
 |_=>true
def ur (n:Nat):Nat->List ag->Bool
 |0,_=>true
 |_,[]=>true
 |m+1,B::r=>(B.cells.all (lM n)&&MO n B.st)&&ur n m r
def exec (n:Nat) (ce:CE):IC->St->Option (Ex×St)
 |.skip,s=>some (.fm,s)
 |.ae r,s=>match dp ce r s with
  |some s=>some (.fm,s)
  |none=>none
 |.seq a b,s=>match exec n ce a s with
  |some (.fm,s)=>exec n ce b s
  |x=>x
 |.cond slot a b,s=>match s.fl with
  |some (t,.bool c)=>if t==slot then(if c then exec n ce a {s with fl:=none}else exec n ce b {s with fl:=none})else none
  |_=>none
 |.kO k a b,s=>match nth s.vars k with
  |.bool c=>if c then exec n ce a s else exec n ce b s
  |_=>none
 |.block id c,s=>match exec n ce c s with
  |some (.exit id', s)=>if id' == id then some (.fm,s)else some (.exit id', s)
  |x=>x
 |.loop c,s=>iter (exec n ce c) n s
 |.exit id,s=>some (.exit id,s)
 |.ret,s=>some (.ret,s)
 |.lu k,s=>
  let ds:=reach s.σ vd (nth s.vars k) []
  match view (bI (λb=>!ds.contains b) 0 s.σ) false vd (nth s.vars k)with
  |some v=>some (.fm,{s with vars:=eT s.vars k (if gU s.σ (nth s.vars k)then(match v with | .aE _ l=>.aE true l|x=>x)else v),σ:=bI (λb=>ds.contains b) 0 s.σ})
  |none=>none
 |.bad,_=>none
 |.cut _ c,s=>exec n ce c s
 |.FU c,s=>exec n ce c s
 |.lex c,s=>match exec n ce c s with
  |some (.ret,s')=>some (.ret,s')
  |some (e,s')=>
   let m:=s.σ.length
   if s'.vars.all (lM m)&&ur m m s'.σ&&(match s'.fl with|some _=>false|none=>true)then some (e,{s' with σ:=s'.σ.take m})else none
  |none=>none
def jy (s:St):Nat×Option (Option Nat)->Option AV
 |(k,none)=>some (nth s.vars k)
 |(k,some kd)=>match ev (λ_ _ _=>none) s.σ 0 [] (λ_=>nth s.vars k) (.ld (.v 0) kd)with
  |some (v,_)=>some v
  |none=>none
def results (fn:Fn) (s:St):Option AV:=
 match bV (jy s) fn.res with
 |some [x]=>some x
 |some l=>some (.bQ l)
 |none=>none
abbrev ke:=Nat->Option (CE->List AV->List ag->Option (AV×List ag))
def dH (G:Nat->Option Fn) (Q:ke) (n:Nat):Nat->CE
 |0=>λ_ _ _=>none
 |d+1=>λf args σ=>match Q f with
  |some p=>p (dH G Q n d) args σ
  |none=>match G f with
  |none=>none
  |some fn=>if args.length==fn.np then
    match exec n (dH G Q n d) fn.body {vars:=args++List.replicate (fn.nv-fn.np) .aM,fl:=none,σ}with
    |some (.exit _,_)=>none
    |some (_,s)=>(results fn s).map (·,s.σ)
    |none=>none
   else none
def isScalar:AV->Bool
 |.int _ | .bool _ | .str _=>true
 |_=>false
def vl:CE->List AV->Option AV:=λ_ args=>match args with
 | [.aE _ l]=>if l.all isScalar&&decide (l.length<=dE)then some (.aE false l)else none
 | [.ah]=>some (.aE false [])
 |_=>none
end Ab
