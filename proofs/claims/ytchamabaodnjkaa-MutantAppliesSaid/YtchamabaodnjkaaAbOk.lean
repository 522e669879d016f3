/- The check that a line of the small language is an operation of the program. Condition: none. -/
import Derived.Test.YtchamabaodnjkaaAbView
import Derived.Orders
set_option linter.all false
namespace Ab
open Go

/-- The type's kind: one cell, or a struct or array of so many. -/
def kindIs (P : Program) (t : TypeId) (k : Option Nat) : Bool :=
  match P.underlying t, P.info? t with
  | some d, some i => match d, k with
    | .struct _, some n => i.size == n
    | .array _ _, some n => i.size == n
    | .struct _, none => false
    | .array _ _, none => false
    | _, none => i.size == 1
    | _, _ => false
  | _, _ => false
def sizeIs (P : Program) (t : TypeId) (n : Nat) : Bool :=
  match P.info? t with
  | some i => i.size == n
  | none => false
def sliceOf (P : Program) (t : TypeId) : Option TypeId :=
  match P.underlying t with
  | some (.slice e) => some e
  | _ => none
/-- A constant of the program as an abstract value. -/
def constIs : Value → AV → Bool
  | .int .i64 n, .int m => n == m
  | .int k n, .ik j m => (match kindOf j with | some K => decide (k = K) | none => false) && n == m
  | .bool a, .bool b => a == b
  | .slice none 0 0, .snil => true
  | .pointer none, .pnil => true
  | .nilFunc, .fnil => true
  | .nilIface, .inil => true
  | .string s, .str l => s.data.toList == l
  | _, _ => false
def constsAre : List Value → List AV → Bool
  | [], [] => true
  | v :: vs, x :: xs => constIs v x && constsAre vs xs
  | _, _ => false
def zeroIs (P : Program) (t : TypeId) (z : List AV) : Bool :=
  match P.info? t with
  | some i => match i.zero with
    | some v => constsAre v.cells.toList z
    | none => false
  | none => false
def hasZero (P : Program) (t : TypeId) : Bool :=
  match P.info? t with
  | some i => match i.zero with
    | some v => v.cells.size == i.size
    | none => false
  | none => false
def bytesOk (P : Program) (t : TypeId) : Bool :=
  match P.info? t with
  | some i => decide (i.bytes ≤ 4096)
  | none => false
def allR (f : Operand → Rf → Bool) : List Operand → List Rf → Bool
  | [], [] => true
  | x :: xs, y :: ys => f x y && allR f xs ys
  | _, _ => false
def binIs : BinOp → Bin → Bool
  | .add, .add | .add, .addw | .sub, .sub | .mul, .mul | .quo, .quo | .rem, .rem | .lss, .lss | .leq, .leq | .gtr, .gtr | .geq, .geq | .eql, .eql | .neq, .neq => true
  | _, _ => false
def optR (f : Operand → Rf → Bool) : Option Operand → Option Rf → Bool
  | none, none => true
  | some x, some y => f x y
  | _, _ => false
def partsIs (f : Operand → Rf → Bool) (place : Nat → Option (Nat × Nat)) : List (Nat × Operand) → List (Nat × Nat × Rf) → Bool
  | [], [] => true
  | (i, x) :: xs, (o, n, y) :: ys => (match place i with | some (a, b) => a == o && b == n | none => false) && f x y && partsIs f place xs ys
  | _, _ => false
/-- The places of a struct's fields. -/
def placesOf (P : Program) : List Field → Option (List (Nat × Nat))
  | [] => some []
  | f :: r => match P.info? f.type, placesOf P r with
    | some i, some l => some ((f.offset, i.size) :: l)
    | _, _ => none
/-- The parts of a literal are its elements in their order. -/
def inOrder : Nat → List (Nat × Operand) → Bool
  | _, [] => true
  | k, (i, _) :: r => i == k && inOrder (k + 1) r
def nilOpd : Operand → Bool
  | .const (.slice none 0 0) => true
  | _ => false
/-- The rows of a table of methods: of a type that is no pointer to a function that takes a value, or of a pointer to one that takes a pointer; not promoted. -/
def tblIs (P : Program) (m : String) : List (Nat × Nat) → Bool
  | [] => true
  | (t, f) :: r => (match P.info? t with
    | some i => (match i.methods.find? (·.name == m) with
      | some x => x.path.isEmpty && (match x.func with
        | some (g, ptr) => g == f && (match P.underlying t with
          | some (.pointer _) => ptr
          | some _ => !ptr
          | none => false)
        | none => false)
      | none => false)
    | none => false) && tblIs P m r
def bodied (P : Program) (f : Nat) : Bool :=
  match P.funcs[f]? with
  | some fn => fn.body.isSome && !(fn.name == "runtime.NumGoroutine")
  | none => false

def eqOp (o : BinOp) (neg : Bool) : Bool :=
  match o with
  | .eql => !neg
  | .neq => neg
  | _ => false

/-- The fields are numbers, one cell each, in order. -/
def intFields (P : Program) : List Field → Nat → Bool
  | [], _ => true
  | f :: r, o => f.name != "_" && (match P.underlying f.type with | some (.int .i64) => true | _ => false) && kindIs P f.type none && f.offset == o && intFields P r (o + 1)
def seqOk (P : Program) (t : TypeId) (n : Nat) : Bool := (match P.underlying t with
  | some (.struct fs) => fs.size == n && intFields P fs.toList 0
  | _ => false) && !P.stoodInHeld t && !P.eqGuardType P.depth t
def okOp (P : Program) (R : Operand → Rf → Bool) : Op → IOp → Bool
  | .move x, .mv y => R x y
  | .assign x, .mv y => R x y
  | .assign x, .nl _ => nilOpd x
  | .binOp o _ x y _, .bin o' x' y' => binIs o o' && R x x' && R y y'
  | .binOp o t x y _, .seq neg n x' y' => eqOp o neg && seqOk P t n && R x x' && R y y'
  | .binOp o t x y _, .beq neg x' y' => eqOp o neg && (match P.underlying t with | some .bool => true | _ => false) && R x x' && R y y'
  | .binOp o t x y _, .bnl neg z => eqOp o neg && (sliceOf P t).isSome && ((nilOpd y && R x z) || (nilOpd x && R y z))
  | .unOp .not _ x, .not y => R x y
  | .unOp .neg _ x, .bin .sub (.c (.int 0)) y => R x y
  | .pick c a b, .pick c' a' b' => R c c' && R a a' && R b b'
  | .call { callee := .builtin .len, args, argTypes }, .len y => (match args.toList, argTypes.toList with
    | [x], [t] => (sliceOf P t).isSome && R x y
    | _, _ => false)
  | .call { callee := .builtin .max, args, .. }, .mx true x' y' => (match args.toList with
    | [x, y] => R x x' && R y y'
    | _ => false)
  | .call { callee := .builtin .min, args, .. }, .mx false x' y' => (match args.toList with
    | [x, y] => R x x' && R y y'
    | _ => false)
  | .fieldAddr s x f, .fad y off k => (match P.underlying s with
    | some (.struct fs) => (match fs[f]? with
      | some fl => fl.offset == off && kindIs P fl.type k && !sizeIs P fl.type 0
      | none => false)
    | _ => false) && R x y
  | .field s x f, .fld y off k => (match P.underlying s with
    | some (.struct fs) => (match fs[f]? with
      | some fl => fl.offset == off && kindIs P fl.type k
      | none => false)
    | _ => false) && R x y
  | .indexAddr t x i, .iad x' i' st => (match sliceOf P t with
    | some e => sizeIs P e st
    | none => false) && R x x' && R i i'
  | .indexAddr t x i, .iada x' i' n k => (match P.underlying t with
    | some (.array m e) => m == n && kindIs P e k && decide (2 ≤ m)
    | _ => false) && R x x' && R i i'
  | .nilCheck x, .nck y => R x y
  | .box _ x, .bxi y => R x y
  | .box t x, .bxm y k => kindIs P t k && R x y
  | .alloc t, .alc z k => zeroIs P t z && kindIs P t k
  | .alloc t, .alc0 n => sizeIs P t n && (match P.info? t with | some i => (match i.zero with | some v => v.cells.size == n | none => false) | none => false)
  | .store t p x, .ini p' x' n => sizeIs P t n && R p p' && R x x'
  | .store t p x, .st p' x' n => sizeIs P t n && R p p' && R x x'
  | .load t x, .ld y k => kindIs P t k && R x y
  | .load t x, .ldi y k => kindIs P t k && R x y
  | .build t ps, .bld z qs => zeroIs P t z && (match P.underlying t with
    | some (.struct fs) => (match placesOf P fs.toList with | some l => partsIs R (fun i => l[i]?) ps.toList qs | none => false)
    | some (.array _ e) => (match P.info? e with | some i => partsIs R (fun j => some (j * i.size, i.size)) ps.toList qs | none => false)
    | _ => false)
  | .index t x i, .idx x' i' n k => (match P.underlying t with
    | some (.array m e) => m == n && kindIs P e k
    | _ => false) && R x x' && R i i'
  | .extract x i, .ext y j => i == j && R x y
  | .makeFunc (.func f) fst caps, .mkf g ys => fst.isEmpty && f == g && allR R caps.toList ys
  | .makeInterface t x, .mki u y => t == u && (match P.underlying t with | some (.interface _) => false | some _ => true | none => false) && R x y
  | .buildSlice t n ps, .liti ys st => (match sliceOf P t with | some e => sizeIs P e st && hasZero P e && decide (n * st ≤ 2 ^ 24) | none => false) && n == ps.size && inOrder 0 ps.toList && allR R (ps.toList.map (·.2)) ys
  | .buildSlice t n ps, .lita ys st => (match sliceOf P t with | some e => sizeIs P e st && hasZero P e && decide (n * st ≤ 2 ^ 24) | none => false) && n == ps.size && inOrder 0 ps.toList && allR R (ps.toList.map (·.2)) ys
  | .buildSlice t n ps, .litm ys k => (match sliceOf P t with | some e => kindIs P e k && hasZero P e && decide (n * kst k ≤ 2 ^ 24) | none => false) && n == ps.size && inOrder 0 ps.toList && allR R (ps.toList.map (·.2)) ys
  | .slice t x lo hi none, .slc y lo' hi' st => (match sliceOf P t with | some e => sizeIs P e st | none => false) && R x y && optR R lo lo' && optR R hi hi'
  | .slice t x none (some hi) (some mx), .slc3 y hi' mx' st => (match sliceOf P t with | some e => sizeIs P e st | none => false) && R x y && R hi hi' && R mx mx'
  | .convert s d x, .cvi y => (match P.underlying s, P.underlying d with | some (.int .i64), some (.int .i64) => true | _, _ => false) && R x y
  | .makeSlice t l c, .mks l' c' z k => (match sliceOf P t with | some e => kindIs P e k && zeroIs P e z && bytesOk P e | none => false) && R l l' && R c c'
  | .call { callee := .builtin .append, args, argTypes }, .app s' x' k => (match args.toList, argTypes.toList with
    | [s, x], [t, t'] => (match sliceOf P t with | some e => kindIs P e k && bytesOk P e && hasZero P e | none => false) && (sliceOf P t').isSome && R s s' && R x x'
    | _, _ => false)
  | .call { callee := .builtin .append, args, argTypes }, .appw s' x' k => (match args.toList, argTypes.toList with
    | [s, x], [t, t'] => (match sliceOf P t with | some e => kindIs P e k && bytesOk P e && hasZero P e | none => false) && (sliceOf P t').isSome && R s s' && R x x'
    | _, _ => false)
  | .call { callee := .value (.func f), args, .. }, .cal g ys => f == g && bodied P f && allR R args.toList ys
  | .call { callee := .value (.func f), args, .. }, .cab g ys => f == g && bodied P f && allR R args.toList ys
  | .call { callee := .value (.func f), args, .. }, .can g ys => f == g && bodied P f && allR R args.toList ys
  | .call { callee := .value (.func f), args, .. }, .cam g ys => f == g && bodied P f && allR R args.toList ys
  | .call { callee := .value x, args, .. }, .cald y ys => R x y && allR R args.toList ys
  | .call { callee := .value x, args, .. }, .camd y ys => R x y && allR R args.toList ys
  | .call { callee := .invoke x m, args, .. }, .inv y tbl ys => R x y && allR R args.toList ys && tblIs P m tbl
  | .call { callee := .invoke x m, args, .. }, .invm y tbl ys => R x y && allR R args.toList ys && tblIs P m tbl
  | .call { callee := .builtin .cap, args, argTypes }, .capn y => (match args.toList, argTypes.toList with
    | [x], [t] => (sliceOf P t).isSome && R x y
    | _, _ => false)
  | .call { callee := .builtin .clear, args, argTypes }, .clr y z k => (match args.toList, argTypes.toList with
    | [x], [t] => (match sliceOf P t with | some e => kindIs P e k && zeroIs P e z | none => false) && R x y
    | _, _ => false)
  | _, _ => false

/-- Looks at no owned block, makes none. -/
def IOp.isP : IOp → Bool
  | .bnl .. | .ld .. | .slc .. | .can .. | .cab .. | .bxm .. | .alc .. | .mks .. | .litm .. | .nl .. | .app .. | .st .. | .appw .. | .cam .. | .camd .. | .invm .. | .clr .. => false
  | _ => true
end Ab
