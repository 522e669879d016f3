/- An abstract interpreter of a small language of straight-line regions, loops and calls, over immutable trees and owned blocks: its definitions. Condition: none. -/
set_option linter.all false
namespace Ab
inductive AV where
  | int (n : Int)
  | ik (k : Nat) (n : Int)
  | bool (b : Bool)
  | str (s : List UInt8)
  | agg (l : List AV)
  | tup (l : List AV)
  | snil
  | imm (nn : Bool) (l : List AV)
  | arr (l : List AV)
  | sl (b u off len : Nat)
  | pnil
  | pimm (v : AV)
  | ptr (b u off : Nat)
  | fnil
  | func (f : Nat) (caps : List AV)
  | inil
  | iface (t : Nat) (v : AV)
  | mapr (b : Nat)
  | und
  deriving Inhabited
inductive BSt where
  | nul | live | dead
  | map (es : List (AV × AV))
  deriving Inhabited
def BSt.isMap : BSt → Bool
  | .map _ => true
  | _ => false
def BSt.lies : BSt → Bool
  | .live => true
  | .map _ => true
  | _ => false
def BSt.shape : BSt → BSt
  | .map _ => .map []
  | x => x
def BSt.isArr : BSt → Bool
  | .nul => true
  | .live => true
  | _ => false
def BSt.isLive : BSt → Bool
  | .live => true
  | _ => false
structure Blk where
  k : Option Nat
  cells : List AV
  st : BSt
  deriving Inhabited
inductive Rf where
  | v (k : Nat)
  | t (d : Nat)
  | c (x : AV)
  deriving Inhabited
inductive Bin where
  | add | sub | mul | quo | rem | lss | leq | gtr | geq | eql | neq | addw
  deriving Inhabited
inductive IOp where
  | mv (x : Rf)
  | bin (o : Bin) (x y : Rf)
  | beq (neg : Bool) (x y : Rf)
  | seq (neg : Bool) (n : Nat) (x y : Rf)
  | not (x : Rf)
  | pick (c a b : Rf)
  | len (x : Rf)
  | mx (max : Bool) (x y : Rf)
  | fad (x : Rf) (off : Nat) (k : Option Nat)
  | iad (x i : Rf) (st : Nat)
  | iada (x i : Rf) (n : Nat) (k : Option Nat)
  | nck (x : Rf)
  | bxi (x : Rf)
  | alc0 (n : Nat)
  | ini (p x : Rf) (n : Nat)
  | bld (zero : List AV) (parts : List (Nat × Nat × Rf))
  | fld (x : Rf) (off : Nat) (k : Option Nat)
  | idx (x i : Rf) (n : Nat) (k : Option Nat)
  | ext (x : Rf) (i : Nat)
  | mkf (f : Nat) (caps : List Rf)
  | mki (t : Nat) (x : Rf)
  | liti (parts : List Rf) (st : Nat)
  | lita (parts : List Rf) (st : Nat)
  | slc (x : Rf) (lo hi : Option Rf) (st : Nat)
  | slc3 (x hi mx : Rf) (st : Nat)
  | cal (f : Nat) (args : List Rf)
  | cald (x : Rf) (args : List Rf)
  | inv (x : Rf) (tbl : List (Nat × Nat)) (args : List Rf)
  | bnl (neg : Bool) (x : Rf)
  | ldi (x : Rf) (k : Option Nat)
  | ld (x : Rf) (k : Option Nat)
  | can (f : Nat) (args : List Rf)
  | cvi (x : Rf)
  | cab (f : Nat) (args : List Rf)
  | bxm (x : Rf) (k : Option Nat)
  | alc (zero : List AV) (k : Option Nat)
  | mks (len cap : Rf) (zero : List AV) (k : Option Nat)
  | litm (parts : List Rf) (k : Option Nat)
  | nl (k : Option Nat)
  | app (s x : Rf) (k : Option Nat)
  | st (p x : Rf) (n : Nat)
  | appw (s x : Rf) (k : Option Nat)
  | cam (f : Nat) (args : List Rf)
  | camd (x : Rf) (args : List Rf)
  | invm (x : Rf) (tbl : List (Nat × Nat)) (args : List Rf)
  | capn (x : Rf)
  | clr (x : Rf) (z : List AV) (k : Option Nat)
  | mkm
  | mlk (x : Rf) (kd : Nat) (k : Rf) (z : AV) (ok : Bool)
  | mln (x : Rf)
  | mup (m : Rf) (kd : Nat) (k x : Rf)
  | cvu (x : Rf)
  | gtu (x y : Rf)
  | shu (x y : Rf)
  | cpy (d s : Rf) (k : Option Nat)
  | cv8 (x : Rf)
  | sob (x : Rf)
  deriving Inhabited
structure Ln where
  op : IOp
  g : Option (Rf × Bool) := none
  prev : Bool := false
  deriving Inhabited
abbrev Ln.p (o : IOp) : Ln := ⟨o, none, false⟩
abbrev Ln.v (n : Nat) : Ln := ⟨.mv (.v n), none, false⟩
abbrev Ln.t (n : Nat) : Ln := ⟨.mv (.t n), none, false⟩
abbrev Ln.x (k : Nat) (o : IOp) : Ln := ⟨o, some (.t k, true), false⟩
abbrev Ln.y (k : Nat) (o : IOp) : Ln := ⟨o, some (.t k, false), false⟩
structure Reg where
  ls : List Ln
  outs : List (Nat × Nat)
  kills : List Nat
  fl : Option (Nat × Nat)
  deriving Inhabited
inductive IC where
  | skip
  | reg (r : Reg)
  | seq (a b : IC)
  | cond (slot : Nat) (a b : IC)
  | condv (k : Nat) (a b : IC)
  | block (id : Nat) (c : IC)
  | loop (c : IC)
  | exit (id : Nat)
  | ret
  | frz (k : Nat)
  | lex (c : IC)
  | bad
  | cut (b : Bool) (c : IC)
  | scp (c : IC)
  deriving Inhabited
structure Fn where
  np : Nat
  nv : Nat
  body : IC
  res : List (Nat × Option (Option Nat))
  fresh : Bool := false
  deriving Inhabited
inductive Ex where
  | nor | exit (id : Nat) | ret
  deriving Inhabited
structure St where
  vars : List AV
  fl : Option (Nat × AV)
  σ : List Blk
  deriving Inhabited
@[reducible] def nth : List AV → Nat → AV
  | [], _ => .und
  | x :: _, 0 => x
  | _ :: r, n + 1 => nth r n
@[reducible] def setN : List AV → Nat → AV → List AV
  | [], _, _ => []
  | _ :: r, 0, y => y :: r
  | x :: r, n + 1, y => x :: setN r n y
@[reducible] def blk : List Blk → Nat → Option Blk
  | [], _ => none
  | x :: _, 0 => some x
  | _ :: r, n + 1 => blk r n
@[reducible] def setB : List Blk → Nat → Blk → List Blk
  | [], _, _ => []
  | _ :: r, 0, y => y :: r
  | x :: r, n + 1, y => x :: setB r n y
@[reducible] def elm : List AV → Nat → Option AV
  | [], _ => none
  | x :: _, 0 => some x
  | _ :: r, n + 1 => elm r n
def mapO {α β : Type} (f : α → Option β) : List α → Option (List β)
  | [] => some []
  | x :: r => match f x with
    | none => none
    | some y => match mapO f r with
      | none => none
      | some s => some (y :: s)
def inR (n : Int) : Bool := decide (-9223372036854775808 ≤ n) && decide (n ≤ 9223372036854775807)
@[reducible] def AV.cells : AV → List AV
  | .agg l => l
  | x => [x]
@[reducible] def kst : Option Nat → Nat
  | none => 1
  | some n => n
def part (cs : List AV) (off : Nat) : Option Nat → Option AV
  | none => elm cs off
  | some n => if off + n ≤ cs.length then some (.agg ((cs.drop off).take n)) else none
def chunk (k : Option Nat) : Nat → List AV → List AV
  | 0, _ => []
  | f + 1, cs => match k with
    | none => match cs with
      | [] => []
      | x :: r => x :: chunk k f r
    | some n => .agg (cs.take n) :: chunk k f (cs.drop n)
mutual
def noLoc : AV → Bool
  | .sl .. | .ptr .. | .und | .arr _ | .tup _ | .mapr _ => false
  | .agg l | .func _ l => noLocs l
  | .iface _ v => noLoc v
  | _ => true
def noLocs : List AV → Bool
  | [] => true
  | x :: r => noLoc x && noLocs r
end
def upto (σ : List Blk) (b u : Nat) : Option Blk :=
  match blk σ b with
  | some B => match B.st with
    | .dead => none
    | .map _ => none
    | _ => if B.cells.length == u then some B else none
  | none => none
def uptoX (σ : List Blk) (b u : Nat) : Option Blk :=
  match blk σ b with
  | some B => match B.st with
    | .dead => none
    | _ => if B.cells.length == u then some B else none
  | none => none
def mapAt (σ : List Blk) (b : Nat) : Option (List (AV × AV)) :=
  match blk σ b with
  | some B => match B.st with
    | .map es => if B.cells.length == 0 then some es else none
    | _ => none
  | none => none
def view (σ : List Blk) (fr : Bool) : Nat → AV → Option AV
  | 0, _ => none
  | f + 1, x => match x with
    | .sl b u off len => match upto σ b u with
      | none => none
      | some B => if off + len * kst B.k ≤ B.cells.length then
          match mapO (view σ fr f) (chunk B.k len (B.cells.drop off)) with
          | none => none
          | some l => some (.imm false l)
        else none
    | .ptr b u off => match upto σ b u with
      | none => none
      | some B => if off == 0 && B.cells.length == kst B.k && B.st.isLive then
          match part B.cells 0 B.k with
          | none => none
          | some y => match view σ fr f y with
            | none => none
            | some z => some (.pimm z)
        else none
    | .agg l => match mapO (view σ fr f) l with
      | none => none
      | some l => some (.agg l)
    | .tup _ => none
    | .func g l => match mapO (view σ fr f) l with
      | none => none
      | some l => some (.func g l)
    | .iface t v => match view σ fr f v with
      | none => none
      | some v => some (.iface t v)
    | .imm _ l => if fr then none else some (.imm false l)
    | .snil => some (.imm false [])
    | .pimm v => if fr then none else some (.pimm v)
    | .und => none
    | .arr _ => none
    | .mapr _ => none
    | x => some x
def vd : Nat := 12
def viewT (σ : List Blk) (fr : Bool) : AV → Option AV
  | .tup l => match mapO (view σ fr vd) l with
    | none => none
    | some l => some (.tup l)
  | x => view σ fr vd x
abbrev CE := Nat → List AV → List Blk → Option (AV × List Blk)
def wk1 : AV → AV
  | .snil => .imm false []
  | .imm _ l => .imm false l
  | x => x
def wk : AV → AV
  | .agg l => .agg (l.map wk1)
  | x => wk1 x
def pcl (ce : CE) (f : Nat) (args : List AV) : Option AV :=
  if noLocs args then
    match ce f (args.map wk) [] with
    | some (v, σ) => viewT σ false v
    | none => none
  else none
def wr (n : Int) : Int := (n + 9223372036854775808) % 18446744073709551616 - 9223372036854775808
def bin (o : Bin) (x y : Int) : Option AV :=
  match o with
  | .add => if inR (x + y) then some (.int (x + y)) else none
  | .sub => if inR (x - y) then some (.int (x - y)) else none
  | .mul => if inR (x * y) then some (.int (x * y)) else none
  | .quo => if y == 0 then none else if inR (x.tdiv y) then some (.int (x.tdiv y)) else none
  | .rem => if y == 0 then none else some (.int (x.tmod y))
  | .lss => some (.bool (decide (x < y)))
  | .leq => some (.bool (decide (x ≤ y)))
  | .gtr => some (.bool (decide (y < x)))
  | .geq => some (.bool (decide (y ≤ x)))
  | .eql => some (.bool (x == y))
  | .neq => some (.bool (!(x == y)))
  | .addw => some (.int (wr (x + y)))
def notUnd : AV → Bool
  | .und | .tup _ => false
  | .agg l => l.all fun
    | .und | .tup _ => false
    | .agg _ => false
    | _ => true
  | _ => true
def eqK : Option Nat → Option Nat → Bool
  | none, none => true
  | some a, some b => a == b
  | _, _ => false
inductive Pend where
  | new (B : Blk)
  | news (l : List Blk)
  | grow (b : Nat) (cs : List AV)
  deriving Inhabited
def grows (b : Nat) : List Pend → Bool
  | [] => false
  | .grow b' _ :: r => b == b' || grows b r
  | _ :: r => grows b r
mutual
def shV (n : Nat) : AV → AV
  | .sl b u off len => .sl (b + n) u off len
  | .ptr b u off => .ptr (b + n) u off
  | .mapr b => .mapr (b + n)
  | .agg l => .agg (shL n l)
  | .tup l => .tup (shL n l)
  | .func f l => .func f (shL n l)
  | .arr l => .arr (shL n l)
  | .iface t v => .iface t (shV n v)
  | x => x
def shL (n : Nat) : List AV → List AV
  | [] => []
  | x :: r => shV n x :: shL n r
end
def shB (n : Nat) (B : Blk) : Blk := ⟨B.k, shL n B.cells, B.st⟩
def fitAll (st : Nat) : List AV → Bool
  | [] => true
  | x :: r => x.cells.length == st && notUnd x && fitAll st r
def srcCells (σ : List Blk) (k : Option Nat) : AV → Option (Nat × List AV)
  | .snil => some (0, [])
  | .imm _ l => if fitAll (kst k) l then some (l.length, l.flatMap AV.cells) else none
  | .arr l => if fitAll (kst k) l then some (l.length, l.flatMap AV.cells) else none
  | .sl b u off len => match upto σ b u with
    | some B => if off + len * kst k ≤ B.cells.length ∧ kst B.k = kst k then some (len, (B.cells.drop off).take (len * kst k)) else none
    | none => none
  | _ => none
def big : Nat := 1073741824
def byteOf : AV → Option UInt8
  | .ik 4 n => if 0 ≤ n ∧ n ≤ 255 then some (UInt8.ofNat n.toNat) else none
  | _ => none
def bytesOf : List AV → Option (List UInt8)
  | [] => some []
  | x :: r => match byteOf x, bytesOf r with
    | some b, some s => some (b :: s)
    | _, _ => none
@[reducible] def lookT : List (Nat × Nat) → Nat → Option Nat
  | [], _ => none
  | (a, b) :: r, t => if a == t then some b else lookT r t
def dupN (n : Nat) (l : List AV) : List AV := (List.replicate n l).flatten
def putAt (cs : List AV) (off : Nat) (new : List AV) : List AV := cs.take off ++ new ++ cs.drop (off + new.length)
def fillP (cs : List AV) : List (Nat × Nat × AV) → Option (List AV)
  | [] => some cs
  | (o, n, x) :: r => if x.cells.length == n && decide (o + n ≤ cs.length) && notUnd x then fillP (putAt cs o x.cells) r else none
def loV (r : Rf → AV) : Option Rf → Option Int
  | none => some 0
  | some y => match r y with
    | .int n => some n
    | _ => none
def hiV (r : Rf → AV) : Option Rf → Option (Option Int)
  | none => some none
  | some y => match r y with
    | .int n => some (some n)
    | _ => none
def firstIs (st : Nat) : List AV → Bool
  | [] => true
  | x :: _ => x.cells.length == st
@[reducible] def eqInts : List AV → List AV → Option Bool
  | [], [] => some true
  | .int a :: xs, .int b :: ys => match eqInts xs ys with
    | some c => some (decide (a = b) && c)
    | none => none
  | _, _ => none
def keyFits : Nat → AV → Bool
  | 0, .int _ => true
  | 1, .str _ => true
  | n + 2, .agg l => l.length == n && (eqInts l l).isSome
  | _, _ => false
def keyEq : AV → AV → Option Bool
  | .int a, .int b => some (decide (a = b))
  | .str a, .str b => some (decide (a = b))
  | .agg xs, .agg ys => eqInts xs ys
  | _, _ => none
def findM : List (AV × AV) → AV → Option (Option AV)
  | [], _ => some none
  | (k, x) :: r, y => match keyEq y k with
    | some true => some (some x)
    | some false => findM r y
    | none => none
def ev (ce : CE) (σ : List Blk) (nl : Nat) (ps : List Pend) (r : Rf → AV) : IOp → Option (AV × Option Pend)
  | .mv x => some (r x, none)
  | .bin o x y => match r x, r y with
    | .int a, .int b => (bin o a b).map (·, none)
    | _, _ => none
  | .seq neg n x y => match r x, r y with
    | .agg xs, .agg ys => if xs.length = n then (match eqInts xs ys with
      | some b => some (.bool (b != neg), none)
      | none => none) else none
    | _, _ => none
  | .beq neg x y => match r x, r y with
    | .bool a, .bool b => some (.bool ((a == b) != neg), none)
    | _, _ => none
  | .not x => match r x with
    | .bool b => some (.bool (!b), none)
    | _ => none
  | .pick c a b => match r c with
    | .bool true => some (r a, none)
    | .bool false => some (r b, none)
    | _ => none
  | .len x => match r x with
    | .snil => some (.int 0, none)
    | .imm _ l => some (.int l.length, none)
    | .sl _ _ _ n => some (.int n, none)
    | _ => none
  | .mx m x y => match r x, r y with
    | .int a, .int b => some (.int (if m then (if a < b then b else a) else (if b < a then b else a)), none)
    | _, _ => none
  | .fad x off k => match r x with
    | .ptr b u o => some (.ptr b u (o + off), none)
    | .pimm v => (part v.cells off k).map fun y => (.pimm y, none)
    | _ => none
  | .iad x i st => match r x, r i with
    | .imm _ l, .int n => if 0 ≤ n then (match elm l n.toNat with | some y => if y.cells.length == st then some (.pimm y, none) else none | none => none) else none
    | .sl b u off len, .int n => if 0 ≤ n ∧ n < len then some (.ptr b u (off + n.toNat * st), none) else none
    | _, _ => none
  | .iada x i n k => match r x, r i with
    | .ptr b u o, .int j => if 0 ≤ j ∧ j < n then some (.ptr b u (o + j.toNat * kst k), none) else none
    | .pimm v, .int j => if 0 ≤ j ∧ j < n then (part v.cells (j.toNat * kst k) k).map fun y => (.pimm y, none) else none
    | _, _ => none
  | .nck x => match r x with
    | .ptr b u o => some (.ptr b u o, none)
    | .pimm v => some (.pimm v, none)
    | _ => none
  | .bxi x => if noLoc (r x) then some (.pimm (r x), none) else none
  | .alc0 _ => some (.und, none)
  | .ini _ x n => if noLoc (r x) && (r x).cells.length == n then some (.pimm (r x), none) else none
  | .bld z ps => (fillP z (ps.map fun p => (p.1, p.2.1, r p.2.2))).map fun l => (.agg l, none)
  | .fld x off k => match r x with
    | .agg l => (part l off k).map (·, none)
    | _ => none
  | .idx x i n k => match r x, r i with
    | .agg l, .int j => if 0 ≤ j ∧ j < n then (part l (j.toNat * kst k) k).map (·, none) else none
    | _, _ => none
  | .ext x i => match r x with
    | .tup l => (elm l i).map (·, none)
    | _ => none
  | .mkf f cs => some (.func f (cs.map r), none)
  | .mki t x => some (.iface t (r x), none)
  | .liti ps st => if noLocs (ps.map r) && fitAll st (ps.map r) then some (.imm false (ps.map r), none) else none
  | .lita ps st => if fitAll st (ps.map r) then some (.arr (ps.map r), none) else none
  | .slc x lo hi st => match loV r lo, hiV r hi with
    | some a, some b => (match r x with
      | .imm nn l =>
        let h := b.getD l.length
        if (0 ≤ a ∧ a ≤ h ∧ h ≤ l.length) ∧ firstIs st l = true then some (.imm (nn && decide (0 < l.length)) ((l.drop a.toNat).take (h.toNat - a.toNat)), none) else none
      | .sl b' u off len => (match upto σ b' u with
        | some B =>
          let h := b.getD len
          if (0 ≤ a ∧ a ≤ h ∧ h ≤ len) ∧ kst B.k = st then some (.sl b' u (off + a.toNat * st) (h.toNat - a.toNat), none) else none
        | none => none)
      | _ => none)
    | _, _ => none
  | .slc3 x hi mx st => match r x, r hi, r mx with
    | .imm nn l, .int h, .int m => if (0 ≤ h ∧ h ≤ m ∧ m ≤ l.length) ∧ firstIs st l = true then some (.imm (nn && decide (0 < l.length)) (l.take h.toNat), none) else none
    | _, _, _ => none
  | .cvi x => match r x with
    | .int n => if inR n then some (.int n, none) else none
    | .ik _ n => if inR n then some (.int n, none) else none
    | _ => none
  | .cal f args => (pcl ce f (args.map r)).map (·, none)
  | .cald x args => match r x with
    | .func f caps => (pcl ce f (args.map r ++ caps)).map (·, none)
    | _ => none
  | .inv x tbl args => match r x with
    | .iface t v => match lookT tbl t with
      | some f => (pcl ce f (v :: args.map r)).map (·, none)
      | none => none
    | _ => none
  | .bnl neg x => match r x with
    | .snil => some (.bool (!neg), none)
    | .imm true _ => some (.bool neg, none)
    | .imm false (_ :: _) => some (.bool neg, none)
    | .sl b u _ _ => match upto σ b u with
      | some B => match B.st with
        | .live => some (.bool neg, none)
        | _ => none
      | none => none
    | _ => none
  | .ldi x k => match r x with
    | .pimm v => match k, v with
      | none, .agg _ => none
      | none, v => some (v, none)
      | some n, .agg l => if l.length == n then some (.agg l, none) else none
      | some _, _ => none
    | _ => none
  | .can f args => if noLocs (args.map r) then
      match ce f (args.map r) [] with
      | some (v, σ') => some (shV nl v, some (.news (σ'.map (shB nl))))
      | none => none
    else none
  | .ld x k => match r x with
    | .pimm v => match k, v with
      | none, .agg _ => none
      | none, v => some (v, none)
      | some n, .agg l => if l.length == n then some (.agg l, none) else none
      | some _, _ => none
    | .ptr b u o => match upto σ b u with
      | some B => if B.st.isLive then (part B.cells o k).map (·, none) else none
      | none => none
    | _ => none
  | .cab f args => match mapO (fun x => view σ false vd (r x)) args with
    | some vs => match ce f vs [] with
      | some (v, σ') => (viewT σ' true v).map (·, none)
      | none => none
    | none => none
  | .bxm x k => if (r x).cells.length == kst k && notUnd (r x) then some (.ptr nl (kst k) 0, some (.new ⟨k, (r x).cells, .live⟩)) else none
  | .alc z k => if z.length == kst k then some (.ptr nl (kst k) 0, some (.new ⟨k, z, .live⟩)) else none
  | .mks n c z k => match r n, r c with
    | .int n, .int c => if 0 ≤ n ∧ n ≤ c ∧ c ≤ big ∧ z.length = kst k then
        some (.sl nl (dupN c.toNat z).length 0 n.toNat, some (.new ⟨k, dupN c.toNat z, .live⟩)) else none
    | _, _ => none
  | .litm ps k => if fitAll (kst k) (ps.map r) then some (.sl nl ((ps.map r).flatMap AV.cells).length 0 ps.length, some (.new ⟨k, (ps.map r).flatMap AV.cells, .live⟩)) else none
  | .nl k => some (.sl nl 0 0 0, some (.new ⟨k, [], .nul⟩))
  | .app s x k => match srcCells σ k (r x) with
    | none => none
    | some (n, cs) => match r s with
      | .sl b u off len => match upto σ b u with
        | some B => if off == 0 && u == len * kst k && decide (len + n ≤ big) && !grows b ps && eqK B.k k then
            (if n == 0 then some (.sl b u off len, none) else if cs.length == 0 then none else some (.sl b (u + cs.length) 0 (len + n), some (.grow b cs))) else none
        | none => none
      | .snil => if n == 0 then some (.snil, none) else if n ≤ big then some (.sl nl cs.length 0 n, some (.new ⟨k, cs, .live⟩)) else none
      | .arr l => if n == 0 then some (if noLocs l then .imm true l else .arr l, none) else if fitAll (kst k) l && decide (l.length + n ≤ big) then some (.sl nl (l.flatMap AV.cells ++ cs).length 0 (l.length + n), some (.new ⟨k, l.flatMap AV.cells ++ cs, .live⟩)) else none
      | _ => none
  | .capn x => match r x with
    | .snil => some (.int 0, none)
    | _ => none
  | .mkm => some (.mapr nl, some (.new ⟨some 0, [], .map []⟩))
  | .mlk x kd k z ok => match r x with
    | .mapr b => match mapAt σ b with
      | some es => if keyFits kd (r k) then (match findM es (r k) with
        | some (some v) => some (if ok then .tup [v, .bool true] else v, none)
        | some none => some (if ok then .tup [z, .bool false] else z, none)
        | none => none) else none
      | none => none
    | _ => none
  | .mln x => match r x with
    | .mapr b => match mapAt σ b with
      | some es => some (.int es.length, none)
      | none => none
    | _ => none
  | .cvu x => match r x with
    | .int n => if 0 ≤ n ∧ n ≤ 18446744073709551615 then some (.ik 7 n, none) else none
    | .ik _ n => if 0 ≤ n ∧ n ≤ 18446744073709551615 then some (.ik 7 n, none) else none
    | _ => none
  | .cv8 x => match r x with
    | .int n => if 0 ≤ n ∧ n ≤ 255 then some (.ik 4 n, none) else none
    | _ => none
  | .sob x => match srcCells σ none (r x) with
    | some (_, cs) => match bytesOf cs with
      | some s => some (.str s, none)
      | none => none
    | none => none
  | .gtu x y => match r x, r y with
    | .ik 7 a, .ik 7 b => some (.bool (decide (b < a)), none)
    | _, _ => none
  | .shu x y => match r x, r y with
    | .ik 7 a, .int n => if 0 ≤ n ∧ n < 64 then some (.ik 7 (a.fdiv (2 ^ n.toNat)), none) else none
    | .ik 7 a, .ik 7 n => if 0 ≤ n ∧ n < 64 then some (.ik 7 (a.fdiv (2 ^ n.toNat)), none) else none
    | _, _ => none
  | .st .. | .appw .. | .cam .. | .camd .. | .invm .. | .clr .. | .mup .. | .cpy .. => none
@[reducible] def rv (vars env : List AV) : Rf → AV
  | .v k => nth vars k
  | .t d => nth env d
  | .c x => x
def want (vars env : List AV) : Option (Rf × Bool) → Option Bool
  | none => some true
  | some (g, w) => match rv vars env g with
    | .bool b => some (b == w)
    | .tup [] => some false
    | _ => none
@[reducible] def growB (σ : List Blk) (b : Nat) (cs : List AV) : List Blk :=
  match blk σ b with
  | some B => setB σ b ⟨B.k, B.cells ++ cs, .live⟩
  | none => σ
@[reducible] def putM (σ : List Blk) (b : Nat) (es : List (AV × AV)) : List Blk :=
  match blk σ b with
  | some B => setB σ b ⟨B.k, B.cells, .map es⟩
  | none => σ
def commit (σ : List Blk) : Pend → List Blk
  | .new B => σ ++ [B]
  | .news l => σ ++ l
  | .grow b cs => growB σ b cs
def evW (ce : CE) (σ : List Blk) (r : Rf → AV) : IOp → Option (AV × List Blk)
  | .st p x n => match r p with
    | .ptr b u o => match upto σ b u with
      | some B => if (r x).cells.length == n && o + n ≤ B.cells.length && B.st.isLive && notUnd (r x) then some (.und, setB σ b ⟨B.k, putAt B.cells o (r x).cells, B.st⟩) else none
      | none => none
    | _ => none
  | .appw s x k => match srcCells σ k (r x) with
    | none => none
    | some (n, cs) => match r s with
      | .sl b u off len => match upto σ b u with
        | some B =>
          if off == 0 && decide (len + n ≤ big) && eqK B.k k then
            (if n == 0 then some (.sl b u off len, σ)
             else if cs.length == 0 then none else if u == len * kst k then some (.sl b (u + cs.length) 0 (len + n), setB σ b ⟨B.k, B.cells ++ cs, .live⟩)
             else if (len + n) * kst k ≤ u then some (.sl b u 0 (len + n), setB σ b ⟨B.k, putAt B.cells (len * kst k) cs, B.st⟩)
             else none)
          else none
        | none => none
      | .snil => if n == 0 then some (.snil, σ) else if n ≤ big then some (.sl σ.length cs.length 0 n, σ ++ [⟨k, cs, .live⟩]) else none
      | .arr l => if n == 0 then some (if noLocs l then .imm true l else .arr l, σ) else if fitAll (kst k) l && decide (l.length + n ≤ big) then some (.sl σ.length (l.flatMap AV.cells ++ cs).length 0 (l.length + n), σ ++ [⟨k, l.flatMap AV.cells ++ cs, .live⟩]) else none
      | _ => none
  | .cam f args => ce f (args.map r) σ
  | .camd x args => match r x with
    | .func f caps => ce f (args.map r ++ caps) σ
    | _ => none
  | .invm x tbl args => match r x with
    | .iface t v => match lookT tbl t with
      | some f => ce f (v :: args.map r) σ
      | none => none
    | _ => none
  | .clr x z k => match r x with
    | .sl b u off len => match upto σ b u with
      | some B => if 0 < len ∧ off + len * kst k ≤ B.cells.length ∧ kst B.k = kst k ∧ z.length = kst k ∧ B.st.isLive = true then some (.und, setB σ b ⟨B.k, putAt B.cells off (dupN len z), B.st⟩) else none
      | none => none
    | _ => none
  | .mup m kd k x => match r m with
    | .mapr b => match mapAt σ b with
      | some es => if keyFits kd (r k) && noLoc (r x) then (match findM es (r k) with
        | some none => some (.und, putM σ b (es ++ [(r k, r x)]))
        | _ => none) else none
      | none => none
    | _ => none
  | .cpy d s k => match srcCells σ k (r s) with
    | none => none
    | some (n, cs) => match r d with
      | .sl b u off len => match upto σ b u with
        | some B => if off + len * kst k ≤ B.cells.length ∧ kst B.k = kst k ∧ B.st.isLive = true then
            (if min n len = 0 then some (.int 0, σ) else some (.int (min n len : Nat), setB σ b ⟨B.k, putAt B.cells off (cs.take (min n len * kst k)), B.st⟩)) else none
        | none => none
      | _ => none
  | op => match ev ce σ σ.length [] r op with
    | some (v, some p) => some (v, commit σ p)
    | some (v, none) => some (v, σ)
    | none => none
def IOp.isW : IOp → Bool
  | .st .. | .appw .. | .cam .. | .camd .. | .invm .. | .clr .. | .mup .. | .cpy .. => true
  | _ => false
def IOp.isE : IOp → Bool
  | .can .. | .bxm .. | .alc .. | .mks .. | .litm .. | .nl .. | .app .. | .mkm => true
  | _ => false
structure LS where
  env : List AV
  σp : List Blk
  σ : List Blk
def line1 (ce : CE) (vars : List AV) (s : LS) (l : Ln) : Option LS :=
  match want vars s.env l.g with
  | none => none
  | some false => some ⟨.tup [] :: s.env, s.σp, s.σ⟩
  | some true => if l.op.isW then
      match evW ce s.σ (rv vars s.env) l.op with
      | some (v, σ') => some ⟨v :: s.env, [], σ'⟩
      | none => none
    else match ev ce (if l.prev then s.σp else s.σ) s.σ.length [] (rv vars s.env) l.op with
      | some (v, none) => some ⟨v :: s.env, if l.op.isE then s.σ else s.σp, s.σ⟩
      | some (v, some p) => some ⟨v :: s.env, s.σ, commit s.σ p⟩
      | none => none
def lines (ce : CE) (vars : List AV) : List Ln → LS → Option LS
  | [], s => some s
  | l :: ls, s => match line1 ce vars s l with
    | none => none
    | some s => lines ce vars ls s
@[reducible] def outs (env : List AV) : List (Nat × Nat) → List AV → List AV
  | [], vs => vs
  | (k, d) :: r, vs => outs env r (setN vs k (nth env d))
@[reducible] def kills : List Nat → List AV → List AV
  | [], vs => vs
  | k :: r, vs => kills r (setN vs k .und)
def runReg (ce : CE) (r : Reg) (s : St) : Option St :=
  match lines ce s.vars r.ls ⟨[], s.σ, s.σ⟩ with
  | some q => some { vars := kills r.kills (outs q.env r.outs s.vars), fl := match r.fl with | some (t, d) => some (t, nth q.env d) | none => none, σ := q.σ }
  | none => none
def iter (f : St → Option (Ex × St)) : Nat → St → Option (Ex × St)
  | 0, _ => none
  | k + 1, s => match f s with
    | some (.nor, s) => iter f k s
    | x => x
def reach (σ : List Blk) : Nat → AV → List Nat → List Nat
  | 0, _, acc => acc
  | f + 1, x, acc => match x with
    | .sl b _ _ _ => if acc.contains b then acc else match blk σ b with
      | some B => B.cells.foldl (fun acc y => reach σ f y acc) (b :: acc)
      | none => acc
    | .ptr b _ _ => if acc.contains b then acc else match blk σ b with
      | some B => B.cells.foldl (fun acc y => reach σ f y acc) (b :: acc)
      | none => acc
    | .agg l | .tup l | .func _ l => l.foldl (fun acc y => reach σ f y acc) acc
    | .iface _ v => reach σ f v acc
    | _ => acc
def dieIf (p : Nat → Bool) : Nat → List Blk → List Blk
  | _, [] => []
  | n, B :: r => (if p n then ⟨B.k, B.cells, .dead⟩ else B) :: dieIf p (n + 1) r
def surely (σ : List Blk) : AV → Bool
  | .sl b u _ _ => match upto σ b u with
    | some B => match B.st with
      | .live => true
      | _ => false
    | none => false
  | .imm nn _ => nn
  | _ => false
def lowe (n : Nat) : AV → Bool
  | .sl b _ _ _ => decide (b < n)
  | .ptr b _ _ => decide (b < n)
  | .mapr b => decide (b < n)
  | .und => true
  | x => noLoc x
def lowv (n : Nat) : AV → Bool
  | .arr _ => false
  | .sl b _ _ _ => decide (b < n)
  | .ptr b _ _ => decide (b < n)
  | .mapr b => decide (b < n)
  | .agg l | .tup l | .func _ l => l.all (lowe n)
  | .iface _ v => noLoc v
  | _ => true
def lowB (n : Nat) : Nat → List Blk → Bool
  | 0, _ => true
  | _, [] => true
  | m + 1, B :: r => B.cells.all (lowv n) && lowB n m r
def exec (n : Nat) (ce : CE) : IC → St → Option (Ex × St)
  | .skip, s => some (.nor, s)
  | .reg r, s => match runReg ce r s with
    | some s => some (.nor, s)
    | none => none
  | .seq a b, s => match exec n ce a s with
    | some (.nor, s) => exec n ce b s
    | x => x
  | .cond slot a b, s => match s.fl with
    | some (t, .bool c) => if t == slot then (if c then exec n ce a { s with fl := none } else exec n ce b { s with fl := none }) else none
    | _ => none
  | .condv k a b, s => match nth s.vars k with
    | .bool c => if c then exec n ce a s else exec n ce b s
    | _ => none
  | .block id c, s => match exec n ce c s with
    | some (.exit id', s) => if id' == id then some (.nor, s) else some (.exit id', s)
    | x => x
  | .loop c, s => iter (exec n ce c) n s
  | .exit id, s => some (.exit id, s)
  | .ret, s => some (.ret, s)
  | .frz k, s =>
    let ds := reach s.σ vd (nth s.vars k) []
    match view (dieIf (fun b => !ds.contains b) 0 s.σ) false vd (nth s.vars k) with
    | some v => some (.nor, { s with vars := setN s.vars k (if surely s.σ (nth s.vars k) then (match v with | .imm _ l => .imm true l | x => x) else v), σ := dieIf (fun b => ds.contains b) 0 s.σ })
    | none => none
  | .bad, _ => none
  | .cut _ c, s => exec n ce c s
  | .scp c, s => exec n ce c s
  | .lex c, s => match exec n ce c s with
    | some (.ret, s') => some (.ret, s')
    | some (e, s') =>
      let m := s.σ.length
      if s'.vars.all (lowv m) && lowB m m s'.σ && (match s'.fl with | some _ => false | none => true) then some (e, { s' with σ := s'.σ.take m }) else none
    | none => none
def resOf (s : St) : Nat × Option (Option Nat) → Option AV
  | (k, none) => some (nth s.vars k)
  | (k, some kd) => match ev (fun _ _ _ => none) s.σ 0 [] (fun _ => nth s.vars k) (.ld (.v 0) kd) with
    | some (v, _) => some v
    | none => none
def results (fn : Fn) (s : St) : Option AV :=
  match mapO (resOf s) fn.res with
  | some [x] => some x
  | some l => some (.tup l)
  | none => none
abbrev Prims := Nat → Option (CE → List AV → List Blk → Option (AV × List Blk))
def vPrim (p : CE → List AV → Option AV) : CE → List AV → List Blk → Option (AV × List Blk) := fun ce args σ => (p ce args).map (·, σ)
def callN (G : Nat → Option Fn) (Q : Prims) (n : Nat) : Nat → CE
  | 0 => fun _ _ _ => none
  | d + 1 => fun f args σ => match Q f with
    | some p => p (callN G Q n d) args σ
    | none => match G f with
    | none => none
    | some fn => if args.length == fn.np then
        match exec n (callN G Q n d) fn.body { vars := args ++ List.replicate (fn.nv - fn.np) .und, fl := none, σ } with
        | some (.exit _, _) => none
        | some (_, s) => (results fn s).map (·, s.σ)
        | none => none
      else none
def isScalar : AV → Bool
  | .int _ | .bool _ | .str _ => true
  | _ => false
def pClone1 : CE → List AV → Option AV := fun _ args => match args with
  | [.imm _ l] => if l.all isScalar && decide (l.length ≤ big) then some (.imm false l) else none
  | [.snil] => some (.imm false [])
  | _ => none
end Ab
