/- Functions of the library that are known by what they do: the sorting of a slice of words, the copy of a slice of lists. Condition: none. -/
import Derived.Test.YtbpkebkldaifgaaAbCore
set_option linter.all false
namespace Ab
/-- The numbers of a list. -/
def intsOf : List AV → Option (List Int)
  | [] => some []
  | .int n :: r => match intsOf r with
    | some s => some (n :: s)
    | none => none
  | _ :: _ => none
/-- A word. -/
def wordOf : AV → Option (List Int)
  | .imm false l => intsOf l
  | _ => none
/-- Dictionary order. -/
def lexC : List Int → List Int → Int
  | [], [] => 0
  | [], _ :: _ => -1
  | _ :: _, [] => 1
  | x :: a, y :: b => if x < y then -1 else if y < x then 1 else lexC a b
/-- Shortlex order. -/
def slxC (a b : List Int) : Int := if a.length < b.length then -1 else if b.length < a.length then 1 else lexC a b
/-- What a comparison says of two values. -/
def cmpI (ce : CE) (g : Nat) (caps : List AV) (x y : AV) : Option Int := match pcl ce g (x :: y :: caps) with
  | some (.int c) => some c
  | _ => none
/-- The comparison is this one. -/
def agree (ce : CE) (g : Nat) (caps : List AV) (K : List Int → List Int → Int) (d : List AV) : Bool :=
  d.all fun x => d.all fun y => match wordOf x, wordOf y with
    | some u, some v => (match cmpI ce g caps x y with
      | some c => c == K u v
      | none => false)
    | _, _ => false
/-- Sorted. -/
def kLe (K : List Int → List Int → Int) (x y : AV) : Bool := match wordOf x, wordOf y with
  | some u, some v => decide (K u v ≤ 0)
  | _, _ => true
def insK (K : List Int → List Int → Int) (x : AV) : List AV → List AV
  | [] => [x]
  | y :: r => if kLe K x y then x :: y :: r else y :: insK K x r
def sortK (K : List Int → List Int → Int) : List AV → List AV
  | [] => []
  | x :: r => insK K x (sortK K r)
def kindNone : Option Nat → Bool
  | none => true
  | some _ => false
/-- slices.SortFunc. -/
def pSort : CE → List AV → List Blk → Option (AV × List Blk) := fun ce args σ => match args with
  | [.snil, .func _ _] => some (.tup [], σ)
  | [.imm _ [], .func _ _] => some (.tup [], σ)
  | [.sl b u off len, .func g caps] => match upto σ b u with
    | some B => if B.st.isLive && kindNone B.k && decide (0 < len) && decide (off + len ≤ B.cells.length) && decide (B.cells.length ≤ big) then
        (if agree ce g caps slxC ((B.cells.drop off).take len) then some (.tup [], setB σ b ⟨B.k, putAt B.cells off (sortK slxC ((B.cells.drop off).take len)), B.st⟩)
         else if agree ce g caps lexC ((B.cells.drop off).take len) then some (.tup [], setB σ b ⟨B.k, putAt B.cells off (sortK lexC ((B.cells.drop off).take len)), B.st⟩)
         else none) else none
    | none => none
  | _ => none
/-- An element that is one cell and refers to no owned block. -/
def isOne : AV → Bool
  | .int _ | .bool _ | .str _ | .imm _ _ | .snil => true
  | _ => false
/-- slices.Clone, the copy owned. -/
def pCloneS : CE → List AV → List Blk → Option (AV × List Blk) := fun _ args σ => match args with
  | [.snil] => some (.imm false [], σ)
  | [.imm _ []] => some (.imm false [], σ)
  | [.imm _ (x :: l)] => if (x :: l).all isOne && noLocs (x :: l) && decide ((x :: l).length ≤ big) then some (.sl σ.length (x :: l).length 0 (x :: l).length, σ ++ [⟨none, (x :: l).map wk1, .live⟩]) else none
  | _ => none
/-- slices.Grow of a nil slice of numbers. -/
def pGrow : CE → List AV → List Blk → Option (AV × List Blk) := fun _ args σ => match args with
  | [.snil, .int n] => if n == 0 then some (.snil, σ) else if 0 < n ∧ n ≤ big then some (.sl σ.length n.toNat 0 0, σ ++ [⟨none, List.replicate n.toNat (.int 0), .live⟩]) else none
  | _ => none
end Ab
