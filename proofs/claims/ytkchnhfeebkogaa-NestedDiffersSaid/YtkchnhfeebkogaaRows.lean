/-
  No cell of these rows narrows 'for every input' (looked for: loops, veiled, ifaces, maps, wideKeys, modest, calm, conditions, laid).
  DERIVED. THE GIVEN ROWS OF THIS SEAT. 4 by the template 'for every input the law returns true; each argument reads behind the call as it read before'; 0 by the template 'total and deterministic' (their statements: YtkchnhfeebkogaaTotals.lean).
  GIVEN WITH THE SEED: the statements are not yours to turn. If you find one false, say at which input.
  Laid BY PROGRAM, IN A SANDBOX (cutbox-rows.mjs): the forced cells as the released guide's own fill.sh prints them over the translation 78265f534a5ef480… (all of the seat's roots in one cut). By AI agents, Wed Nov 11 2026. No macro, syntax, notation, axiom, sorry.
-/
import Derived.Test.YtkchnhfeebkogaaChecked
import GoSem.Claim
import GoSem.ClaimJoined
import GoSem.ClaimMapViews
import Derived.JoinedTies
import Derived.KernelRfl
namespace Go.Proofs.Ytkchnhfeebkogaa
/- THE CELL 'sum', in the pinned program and in every row, IS THE sha256 OF THE DUMP (.gsa) THAT YtkchnhfeebkogaaProg.lean LOADS. Nothing in Lean hashes anything: it is a label: what it is worth is what the hold of that sum in a sandbox is worth. -/
noncomputable def Try.pinned : Pinned := { name := "ytkchnhfeebkogaa", sum := "78265f534a5ef480a32a0f8e40b62b3a200589072fdba0a9587b8451c1d92529", checked := Try.checked }
namespace Rows
def none {H : Type} : Left H := { results := [], args := [] }

/-- 'learnerlaw43.NestedShortest': WHATEVER THE INPUT: true; the input reads as it did. -/
def nestedShortestSpec : ChangeSpec := { name := "nestedShortest", fn := fun _ => fun
  | [d] => { results := [.lit (.bool true)], args := [d] }
  | _ => none }
def nestedShortestRow : OpenClaim := { program := "ytkchnhfeebkogaa", sum := "78265f534a5ef480a32a0f8e40b62b3a200589072fdba0a9587b8451c1d92529", func := "learner/learnerlaw43.NestedShortest", spec := "nestedShortest", unfollowed := true, recurses := true, apart := false }
def NestedShortestSaid : Prop := nestedShortestRow.holds Try.pinned (OpenSpec.ofChange nestedShortestSpec)

/-- ITS FALSE NEIGHBOUR: 'it returns false'. Refute it at one input. -/
def nestedShortestWrong : ChangeSpec := { name := "nestedShortest", fn := fun _ => fun
  | [d] => { results := [.lit (.bool false)], args := [d] }
  | _ => none }
def NestedShortestWrongFalsely : Prop := nestedShortestRow.holds Try.pinned (OpenSpec.ofChange nestedShortestWrong)

/-- 'learnerlaw43.NestedDiffers': WHATEVER THE INPUT: true; the input reads as it did. -/
def nestedDiffersSpec : ChangeSpec := { name := "nestedDiffers", fn := fun _ => fun
  | [d1, d2] => { results := [.lit (.bool true)], args := [d1, d2] }
  | _ => none }
def nestedDiffersRow : OpenClaim := { program := "ytkchnhfeebkogaa", sum := "78265f534a5ef480a32a0f8e40b62b3a200589072fdba0a9587b8451c1d92529", func := "learner/learnerlaw43.NestedDiffers", spec := "nestedDiffers", unfollowed := true, recurses := true, apart := false }
def NestedDiffersSaid : Prop := nestedDiffersRow.holds Try.pinned (OpenSpec.ofChange nestedDiffersSpec)

/-- ITS FALSE NEIGHBOUR: 'it returns false'. Refute it at one input. -/
def nestedDiffersWrong : ChangeSpec := { name := "nestedDiffers", fn := fun _ => fun
  | [d1, d2] => { results := [.lit (.bool false)], args := [d1, d2] }
  | _ => none }
def NestedDiffersWrongFalsely : Prop := nestedDiffersRow.holds Try.pinned (OpenSpec.ofChange nestedDiffersWrong)

/-- 'learnerlaw43.NestedFirst': WHATEVER THE INPUT: true; the input reads as it did. -/
def nestedFirstSpec : ChangeSpec := { name := "nestedFirst", fn := fun _ => fun
  | [d1, d2] => { results := [.lit (.bool true)], args := [d1, d2] }
  | _ => none }
def nestedFirstRow : OpenClaim := { program := "ytkchnhfeebkogaa", sum := "78265f534a5ef480a32a0f8e40b62b3a200589072fdba0a9587b8451c1d92529", func := "learner/learnerlaw43.NestedFirst", spec := "nestedFirst", unfollowed := true, recurses := true, apart := false }
def NestedFirstSaid : Prop := nestedFirstRow.holds Try.pinned (OpenSpec.ofChange nestedFirstSpec)

/-- ITS FALSE NEIGHBOUR: 'it returns false'. Refute it at one input. -/
def nestedFirstWrong : ChangeSpec := { name := "nestedFirst", fn := fun _ => fun
  | [d1, d2] => { results := [.lit (.bool false)], args := [d1, d2] }
  | _ => none }
def NestedFirstWrongFalsely : Prop := nestedFirstRow.holds Try.pinned (OpenSpec.ofChange nestedFirstWrong)

/-- 'learnerlaw43.NestedApart': WHATEVER THE INPUT: true; the input reads as it did. -/
def nestedApartSpec : ChangeSpec := { name := "nestedApart", fn := fun _ => fun
  | [d1, d2, d3] => { results := [.lit (.bool true)], args := [d1, d2, d3] }
  | _ => none }
def nestedApartRow : OpenClaim := { program := "ytkchnhfeebkogaa", sum := "78265f534a5ef480a32a0f8e40b62b3a200589072fdba0a9587b8451c1d92529", func := "learner/learnerlaw43.NestedApart", spec := "nestedApart", unfollowed := true, recurses := true, apart := false }
def NestedApartSaid : Prop := nestedApartRow.holds Try.pinned (OpenSpec.ofChange nestedApartSpec)

/-- ITS FALSE NEIGHBOUR: 'it returns false'. Refute it at one input. -/
def nestedApartWrong : ChangeSpec := { name := "nestedApart", fn := fun _ => fun
  | [d1, d2, d3] => { results := [.lit (.bool false)], args := [d1, d2, d3] }
  | _ => none }
def NestedApartWrongFalsely : Prop := nestedApartRow.holds Try.pinned (OpenSpec.ofChange nestedApartWrong)

/- THE SECOND FORM. 'bulk': how many values and letters a reading holds, each counted each time it is reached (what is shared counts as often as it is met; a slice's spare places count too). A statement '..UptoSaid' is the law's where the arguments, and the package variables that the reading takes, are together of bulk at most 1048576: NARROWER than '..Said'. Prove '..Said' where nothing that the law and all that it calls make is longer than what came in: it says more and counts as full. Else prove '..UptoSaid'. A law counts once. -/
mutual
def uptoBulk {H : Type} : DataW H → Nat
  | .lit (.string bytes) => bytes.length + 1
  | .lit _ => 1
  | .nil => 1
  | .ptr d => uptoBulk d + 1
  | .slice elems spare => uptoBulkAll elems + uptoBulkAll spare + 1
  | .agg parts => uptoBulkAll parts + 1
  | .iface _ d => uptoBulk d + 1
  | .map entries => uptoBulkEntries entries + 1
  | .held _ => 1
def uptoBulkAll {H : Type} : List (DataW H) → Nat
  | [] => 0
  | d :: r => uptoBulk d + uptoBulkAll r
def uptoBulkEntries {H : Type} : List (Lit × DataW H) → Nat
  | [] => 0
  | x :: r => uptoBulkEntry x + uptoBulkEntries r
def uptoBulkEntry {H : Type} : Lit × DataW H → Nat
  | (.string bytes, d) => bytes.length + uptoBulk d + 1
  | (_, d) => uptoBulk d + 1
 end
def uptoSmall : (H : Type) → List (DataW H) → Bool := fun _ ds => decide (uptoBulkAll ds ≤ 1048576)
def OpenSpec.upto (s : _root_.Go.ChangeSpec) : _root_.Go.OpenSpec := { _root_.Go.OpenSpec.ofChange s with cond := some uptoSmall }

/-- 'learnerlaw43.NestedShortest', WHERE WHAT IT READS IS OF BULK AT MOST 1048576: true; the input reads as it did. -/
def nestedShortestUptoRow : OpenClaim := { program := "ytkchnhfeebkogaa", sum := "78265f534a5ef480a32a0f8e40b62b3a200589072fdba0a9587b8451c1d92529", func := "learner/learnerlaw43.NestedShortest", spec := "nestedShortest", unfollowed := true, recurses := true, apart := false, narrowed := true }
def NestedShortestUptoSaid : Prop := nestedShortestUptoRow.holds Try.pinned (OpenSpec.upto nestedShortestSpec)

/-- 'learnerlaw43.NestedDiffers', WHERE WHAT IT READS IS OF BULK AT MOST 1048576: true; the input reads as it did. -/
def nestedDiffersUptoRow : OpenClaim := { program := "ytkchnhfeebkogaa", sum := "78265f534a5ef480a32a0f8e40b62b3a200589072fdba0a9587b8451c1d92529", func := "learner/learnerlaw43.NestedDiffers", spec := "nestedDiffers", unfollowed := true, recurses := true, apart := false, narrowed := true }
def NestedDiffersUptoSaid : Prop := nestedDiffersUptoRow.holds Try.pinned (OpenSpec.upto nestedDiffersSpec)

/-- 'learnerlaw43.NestedFirst', WHERE WHAT IT READS IS OF BULK AT MOST 1048576: true; the input reads as it did. -/
def nestedFirstUptoRow : OpenClaim := { program := "ytkchnhfeebkogaa", sum := "78265f534a5ef480a32a0f8e40b62b3a200589072fdba0a9587b8451c1d92529", func := "learner/learnerlaw43.NestedFirst", spec := "nestedFirst", unfollowed := true, recurses := true, apart := false, narrowed := true }
def NestedFirstUptoSaid : Prop := nestedFirstUptoRow.holds Try.pinned (OpenSpec.upto nestedFirstSpec)

/-- 'learnerlaw43.NestedApart', WHERE WHAT IT READS IS OF BULK AT MOST 1048576: true; the input reads as it did. -/
def nestedApartUptoRow : OpenClaim := { program := "ytkchnhfeebkogaa", sum := "78265f534a5ef480a32a0f8e40b62b3a200589072fdba0a9587b8451c1d92529", func := "learner/learnerlaw43.NestedApart", spec := "nestedApart", unfollowed := true, recurses := true, apart := false, narrowed := true }
def NestedApartUptoSaid : Prop := nestedApartUptoRow.holds Try.pinned (OpenSpec.upto nestedApartSpec)

end Rows
end Go.Proofs.Ytkchnhfeebkogaa
