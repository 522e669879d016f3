/-
  No cell of these rows narrows 'for every input' (looked for: loops, veiled, ifaces, maps, wideKeys, modest, calm, conditions, laid).
  DERIVED. THE GIVEN ROWS OF THIS SEAT. 4 by the template 'for every input the law returns true; each argument reads behind the call as it read before'; 0 by the template 'total and deterministic' (their statements: YtlgfempnnijfnaaTotals.lean).
  GIVEN WITH THE SEED: the statements are not yours to turn. If you find one false, say at which input.
  Laid BY PROGRAM, IN A SANDBOX (cutbox-rows.mjs): the forced cells as the released guide's own fill.sh prints them over the translation c986a3c6140b8288… (all of the seat's roots in one cut). By AI agents, Wed Nov 11 2026. No macro, syntax, notation, axiom, sorry.
-/
import Derived.Test.YtlgfempnnijfnaaChecked
import GoSem.Claim
import GoSem.ClaimJoined
import GoSem.ClaimMapViews
import Derived.JoinedTies
import Derived.KernelRfl
namespace Go.Proofs.Ytlgfempnnijfnaa
/- THE CELL 'sum', in the pinned program and in every row, IS THE sha256 OF THE DUMP (.gsa) THAT YtlgfempnnijfnaaProg.lean LOADS. Nothing in Lean hashes anything: it is a label: what it is worth is what the hold of that sum in a sandbox is worth. -/
noncomputable def Try.pinned : Pinned := { name := "ytlgfempnnijfnaa", sum := "c986a3c6140b8288ec7589b1783823f5f21c411ba2786d14b05d5bae42bfb838", checked := Try.checked }
namespace Rows
def none {H : Type} : Left H := { results := [], args := [] }

/-- 'learnerlaw11.SeparateSplits': WHATEVER THE INPUT: true; the input reads as it did. -/
def separateSplitsSpec : ChangeSpec := { name := "separateSplits", fn := fun _ => fun
  | [d1, d2] => { results := [.lit (.bool true)], args := [d1, d2] }
  | _ => none }
def separateSplitsRow : OpenClaim := { program := "ytlgfempnnijfnaa", sum := "c986a3c6140b8288ec7589b1783823f5f21c411ba2786d14b05d5bae42bfb838", func := "learner/learnerlaw11.SeparateSplits", spec := "separateSplits", unfollowed := true, recurses := true, plainKeys := false, apart := false }
def SeparateSplitsSaid : Prop := separateSplitsRow.holds Try.pinned (OpenSpec.ofChange separateSplitsSpec)

/-- ITS FALSE NEIGHBOUR: 'it returns false'. Refute it at one input. -/
def separateSplitsWrong : ChangeSpec := { name := "separateSplits", fn := fun _ => fun
  | [d1, d2] => { results := [.lit (.bool false)], args := [d1, d2] }
  | _ => none }
def SeparateSplitsWrongFalsely : Prop := separateSplitsRow.holds Try.pinned (OpenSpec.ofChange separateSplitsWrong)

/-- 'learnerlaw11.SeparateUios': WHATEVER THE INPUT: true; the input reads as it did. -/
def separateUiosSpec : ChangeSpec := { name := "separateUios", fn := fun _ => fun
  | [d1, d2, d3] => { results := [.lit (.bool true)], args := [d1, d2, d3] }
  | _ => none }
def separateUiosRow : OpenClaim := { program := "ytlgfempnnijfnaa", sum := "c986a3c6140b8288ec7589b1783823f5f21c411ba2786d14b05d5bae42bfb838", func := "learner/learnerlaw11.SeparateUios", spec := "separateUios", unfollowed := true, recurses := true, plainKeys := false, apart := false }
def SeparateUiosSaid : Prop := separateUiosRow.holds Try.pinned (OpenSpec.ofChange separateUiosSpec)

/-- ITS FALSE NEIGHBOUR: 'it returns false'. Refute it at one input. -/
def separateUiosWrong : ChangeSpec := { name := "separateUios", fn := fun _ => fun
  | [d1, d2, d3] => { results := [.lit (.bool false)], args := [d1, d2, d3] }
  | _ => none }
def SeparateUiosWrongFalsely : Prop := separateUiosRow.holds Try.pinned (OpenSpec.ofChange separateUiosWrong)

/-- 'learnerlaw11.SeparateShortest': WHATEVER THE INPUT: true; the input reads as it did. -/
def separateShortestSpec : ChangeSpec := { name := "separateShortest", fn := fun _ => fun
  | [d1, d2] => { results := [.lit (.bool true)], args := [d1, d2] }
  | _ => none }
def separateShortestRow : OpenClaim := { program := "ytlgfempnnijfnaa", sum := "c986a3c6140b8288ec7589b1783823f5f21c411ba2786d14b05d5bae42bfb838", func := "learner/learnerlaw11.SeparateShortest", spec := "separateShortest", unfollowed := true, recurses := true, plainKeys := false, apart := false }
def SeparateShortestSaid : Prop := separateShortestRow.holds Try.pinned (OpenSpec.ofChange separateShortestSpec)

/-- ITS FALSE NEIGHBOUR: 'it returns false'. Refute it at one input. -/
def separateShortestWrong : ChangeSpec := { name := "separateShortest", fn := fun _ => fun
  | [d1, d2] => { results := [.lit (.bool false)], args := [d1, d2] }
  | _ => none }
def SeparateShortestWrongFalsely : Prop := separateShortestRow.holds Try.pinned (OpenSpec.ofChange separateShortestWrong)

/-- 'learnerlaw11.SeparateUnique': WHATEVER THE INPUT: true; the input reads as it did. -/
def separateUniqueSpec : ChangeSpec := { name := "separateUnique", fn := fun _ => fun
  | [d1, d2, d3] => { results := [.lit (.bool true)], args := [d1, d2, d3] }
  | _ => none }
def separateUniqueRow : OpenClaim := { program := "ytlgfempnnijfnaa", sum := "c986a3c6140b8288ec7589b1783823f5f21c411ba2786d14b05d5bae42bfb838", func := "learner/learnerlaw11.SeparateUnique", spec := "separateUnique", unfollowed := true, recurses := true, plainKeys := false, apart := false }
def SeparateUniqueSaid : Prop := separateUniqueRow.holds Try.pinned (OpenSpec.ofChange separateUniqueSpec)

/-- ITS FALSE NEIGHBOUR: 'it returns false'. Refute it at one input. -/
def separateUniqueWrong : ChangeSpec := { name := "separateUnique", fn := fun _ => fun
  | [d1, d2, d3] => { results := [.lit (.bool false)], args := [d1, d2, d3] }
  | _ => none }
def SeparateUniqueWrongFalsely : Prop := separateUniqueRow.holds Try.pinned (OpenSpec.ofChange separateUniqueWrong)

/- THE SECOND FORM. 'bulk': how many values and letters a reading holds, each counted each time it is reached (what is shared counts as often as it is met; a slice's spare places count too). A statement '..UptoSaid' is the law's where the arguments, and the package variables that the reading takes, are together of bulk at most 1048576: NARROWER than '..Said'. Prove '..Said' where nothing that the law and all that it calls make is longer than what came in: it says more and counts as full. Else prove '..UptoSaid'. A law counts once. -/
mutual
def uptoBulk {H : Type} : DataW H → Nat
  | .lit (.string bytes) => bytes.length + 1
  | .lit _ => 1
  | .nil => 1
  | .ptr d => uptoBulk d + 1
  | .slice elems spare => uptoBulkAll elems + uptoBulkAll spare + 1
  | .agg parts => uptoBulkAll parts + 1
  | .iface _ d => uptoBulk d + 1
  | .map entries => uptoBulkEntries entries + 1
  | .held _ => 1
def uptoBulkAll {H : Type} : List (DataW H) → Nat
  | [] => 0
  | d :: r => uptoBulk d + uptoBulkAll r
def uptoBulkEntries {H : Type} : List (Lit × DataW H) → Nat
  | [] => 0
  | x :: r => uptoBulkEntry x + uptoBulkEntries r
def uptoBulkEntry {H : Type} : Lit × DataW H → Nat
  | (.string bytes, d) => bytes.length + uptoBulk d + 1
  | (_, d) => uptoBulk d + 1
 end
def uptoSmall : (H : Type) → List (DataW H) → Bool := fun _ ds => decide (uptoBulkAll ds ≤ 1048576)
def OpenSpec.upto (s : _root_.Go.ChangeSpec) : _root_.Go.OpenSpec := { _root_.Go.OpenSpec.ofChange s with cond := some uptoSmall }

/-- 'learnerlaw11.SeparateSplits', WHERE WHAT IT READS IS OF BULK AT MOST 1048576: true; the input reads as it did. -/
def separateSplitsUptoRow : OpenClaim := { program := "ytlgfempnnijfnaa", sum := "c986a3c6140b8288ec7589b1783823f5f21c411ba2786d14b05d5bae42bfb838", func := "learner/learnerlaw11.SeparateSplits", spec := "separateSplits", unfollowed := true, recurses := true, plainKeys := false, apart := false, narrowed := true }
def SeparateSplitsUptoSaid : Prop := separateSplitsUptoRow.holds Try.pinned (OpenSpec.upto separateSplitsSpec)

/-- 'learnerlaw11.SeparateUios', WHERE WHAT IT READS IS OF BULK AT MOST 1048576: true; the input reads as it did. -/
def separateUiosUptoRow : OpenClaim := { program := "ytlgfempnnijfnaa", sum := "c986a3c6140b8288ec7589b1783823f5f21c411ba2786d14b05d5bae42bfb838", func := "learner/learnerlaw11.SeparateUios", spec := "separateUios", unfollowed := true, recurses := true, plainKeys := false, apart := false, narrowed := true }
def SeparateUiosUptoSaid : Prop := separateUiosUptoRow.holds Try.pinned (OpenSpec.upto separateUiosSpec)

/-- 'learnerlaw11.SeparateShortest', WHERE WHAT IT READS IS OF BULK AT MOST 1048576: true; the input reads as it did. -/
def separateShortestUptoRow : OpenClaim := { program := "ytlgfempnnijfnaa", sum := "c986a3c6140b8288ec7589b1783823f5f21c411ba2786d14b05d5bae42bfb838", func := "learner/learnerlaw11.SeparateShortest", spec := "separateShortest", unfollowed := true, recurses := true, plainKeys := false, apart := false, narrowed := true }
def SeparateShortestUptoSaid : Prop := separateShortestUptoRow.holds Try.pinned (OpenSpec.upto separateShortestSpec)

/-- 'learnerlaw11.SeparateUnique', WHERE WHAT IT READS IS OF BULK AT MOST 1048576: true; the input reads as it did. -/
def separateUniqueUptoRow : OpenClaim := { program := "ytlgfempnnijfnaa", sum := "c986a3c6140b8288ec7589b1783823f5f21c411ba2786d14b05d5bae42bfb838", func := "learner/learnerlaw11.SeparateUnique", spec := "separateUnique", unfollowed := true, recurses := true, plainKeys := false, apart := false, narrowed := true }
def SeparateUniqueUptoSaid : Prop := separateUniqueUptoRow.holds Try.pinned (OpenSpec.upto separateUniqueSpec)

end Rows
end Go.Proofs.Ytlgfempnnijfnaa
