/-
  No cell of these rows narrows 'for every input' (looked for: loops, veiled, ifaces, maps, wideKeys, modest, calm, conditions, laid).
  DERIVED. THE GIVEN ROWS OF THIS SEAT. 6 by the template 'for every input the law returns true; each argument reads behind the call as it read before'; 0 by the template 'total and deterministic' (their statements: YtmmkhoncblnicaaTotals.lean).
  GIVEN WITH THE SEED: the statements are not yours to turn. If you find one false, say at which input.
  Laid BY PROGRAM, IN A SANDBOX (cutbox-rows.mjs): the forced cells as the released guide's own fill.sh prints them over the translation dac54bb8b3b22caf… (all of the seat's roots in one cut). By AI agents, Wed Nov 11 2026. No macro, syntax, notation, axiom, sorry.
-/
import Derived.Test.YtmmkhoncblnicaaChecked
import GoSem.Claim
import GoSem.ClaimJoined
import GoSem.ClaimMapViews
import Derived.JoinedTies
import Derived.KernelRfl
namespace Go.Proofs.Ytmmkhoncblnicaa
/- THE CELL 'sum', in the pinned program and in every row, IS THE sha256 OF THE DUMP (.gsa) THAT YtmmkhoncblnicaaProg.lean LOADS. Nothing in Lean hashes anything: it is a label: what it is worth is what the hold of that sum in a sandbox is worth. -/
noncomputable def Try.pinned : Pinned := { name := "ytmmkhoncblnicaa", sum := "dac54bb8b3b22caf5ab3db4785f3ca26e100818cae233e655085406ea6bf5b92", checked := Try.checked }
namespace Rows
def none {H : Type} : Left H := { results := [], args := [] }

/-- 'learnerlaw49.DiffExplains': WHATEVER THE INPUT: true; the input reads as it did. -/
def diffExplainsSpec : ChangeSpec := { name := "diffExplains", fn := fun _ => fun
  | [d1, d2] => { results := [.lit (.bool true)], args := [d1, d2] }
  | _ => none }
def diffExplainsRow : OpenClaim := { program := "ytmmkhoncblnicaa", sum := "dac54bb8b3b22caf5ab3db4785f3ca26e100818cae233e655085406ea6bf5b92", func := "learner/learnerlaw49.DiffExplains", spec := "diffExplains", unfollowed := true, recurses := true, plainKeys := false, apart := false }
def DiffExplainsSaid : Prop := diffExplainsRow.holds Try.pinned (OpenSpec.ofChange diffExplainsSpec)

/-- ITS FALSE NEIGHBOUR: 'it returns false'. Refute it at one input. -/
def diffExplainsWrong : ChangeSpec := { name := "diffExplains", fn := fun _ => fun
  | [d1, d2] => { results := [.lit (.bool false)], args := [d1, d2] }
  | _ => none }
def DiffExplainsWrongFalsely : Prop := diffExplainsRow.holds Try.pinned (OpenSpec.ofChange diffExplainsWrong)

/-- 'learnerlaw49.DiffMatches': WHATEVER THE INPUT: true; the input reads as it did. -/
def diffMatchesSpec : ChangeSpec := { name := "diffMatches", fn := fun _ => fun
  | [d1, d2, d3] => { results := [.lit (.bool true)], args := [d1, d2, d3] }
  | _ => none }
def diffMatchesRow : OpenClaim := { program := "ytmmkhoncblnicaa", sum := "dac54bb8b3b22caf5ab3db4785f3ca26e100818cae233e655085406ea6bf5b92", func := "learner/learnerlaw49.DiffMatches", spec := "diffMatches", unfollowed := true, recurses := true, plainKeys := false, apart := false }
def DiffMatchesSaid : Prop := diffMatchesRow.holds Try.pinned (OpenSpec.ofChange diffMatchesSpec)

/-- ITS FALSE NEIGHBOUR: 'it returns false'. Refute it at one input. -/
def diffMatchesWrong : ChangeSpec := { name := "diffMatches", fn := fun _ => fun
  | [d1, d2, d3] => { results := [.lit (.bool false)], args := [d1, d2, d3] }
  | _ => none }
def DiffMatchesWrongFalsely : Prop := diffMatchesRow.holds Try.pinned (OpenSpec.ofChange diffMatchesWrong)

/-- 'learnerlaw49.DiffPairs': WHATEVER THE INPUT: true; the input reads as it did. -/
def diffPairsSpec : ChangeSpec := { name := "diffPairs", fn := fun _ => fun
  | [d1, d2, d3] => { results := [.lit (.bool true)], args := [d1, d2, d3] }
  | _ => none }
def diffPairsRow : OpenClaim := { program := "ytmmkhoncblnicaa", sum := "dac54bb8b3b22caf5ab3db4785f3ca26e100818cae233e655085406ea6bf5b92", func := "learner/learnerlaw49.DiffPairs", spec := "diffPairs", unfollowed := true, recurses := true, plainKeys := false, apart := false }
def DiffPairsSaid : Prop := diffPairsRow.holds Try.pinned (OpenSpec.ofChange diffPairsSpec)

/-- ITS FALSE NEIGHBOUR: 'it returns false'. Refute it at one input. -/
def diffPairsWrong : ChangeSpec := { name := "diffPairs", fn := fun _ => fun
  | [d1, d2, d3] => { results := [.lit (.bool false)], args := [d1, d2, d3] }
  | _ => none }
def DiffPairsWrongFalsely : Prop := diffPairsRow.holds Try.pinned (OpenSpec.ofChange diffPairsWrong)

/-- 'learnerlaw49.DiffWords': WHATEVER THE INPUT: true; the input reads as it did. -/
def diffWordsSpec : ChangeSpec := { name := "diffWords", fn := fun _ => fun
  | [d1, d2] => { results := [.lit (.bool true)], args := [d1, d2] }
  | _ => none }
def diffWordsRow : OpenClaim := { program := "ytmmkhoncblnicaa", sum := "dac54bb8b3b22caf5ab3db4785f3ca26e100818cae233e655085406ea6bf5b92", func := "learner/learnerlaw49.DiffWords", spec := "diffWords", unfollowed := true, recurses := true, plainKeys := false, apart := false }
def DiffWordsSaid : Prop := diffWordsRow.holds Try.pinned (OpenSpec.ofChange diffWordsSpec)

/-- ITS FALSE NEIGHBOUR: 'it returns false'. Refute it at one input. -/
def diffWordsWrong : ChangeSpec := { name := "diffWords", fn := fun _ => fun
  | [d1, d2] => { results := [.lit (.bool false)], args := [d1, d2] }
  | _ => none }
def DiffWordsWrongFalsely : Prop := diffWordsRow.holds Try.pinned (OpenSpec.ofChange diffWordsWrong)

/-- 'learnerlaw49.DiffMoved': WHATEVER THE INPUT: true; the input reads as it did. -/
def diffMovedSpec : ChangeSpec := { name := "diffMoved", fn := fun _ => fun
  | [d1, d2, d3] => { results := [.lit (.bool true)], args := [d1, d2, d3] }
  | _ => none }
def diffMovedRow : OpenClaim := { program := "ytmmkhoncblnicaa", sum := "dac54bb8b3b22caf5ab3db4785f3ca26e100818cae233e655085406ea6bf5b92", func := "learner/learnerlaw49.DiffMoved", spec := "diffMoved", unfollowed := true, recurses := true, plainKeys := false, apart := false }
def DiffMovedSaid : Prop := diffMovedRow.holds Try.pinned (OpenSpec.ofChange diffMovedSpec)

/-- ITS FALSE NEIGHBOUR: 'it returns false'. Refute it at one input. -/
def diffMovedWrong : ChangeSpec := { name := "diffMoved", fn := fun _ => fun
  | [d1, d2, d3] => { results := [.lit (.bool false)], args := [d1, d2, d3] }
  | _ => none }
def DiffMovedWrongFalsely : Prop := diffMovedRow.holds Try.pinned (OpenSpec.ofChange diffMovedWrong)

/-- 'learnerlaw49.DiffMatched': WHATEVER THE INPUT: true; the input reads as it did. -/
def diffMatchedSpec : ChangeSpec := { name := "diffMatched", fn := fun _ => fun
  | [d1, d2] => { results := [.lit (.bool true)], args := [d1, d2] }
  | _ => none }
def diffMatchedRow : OpenClaim := { program := "ytmmkhoncblnicaa", sum := "dac54bb8b3b22caf5ab3db4785f3ca26e100818cae233e655085406ea6bf5b92", func := "learner/learnerlaw49.DiffMatched", spec := "diffMatched", unfollowed := true, recurses := true, plainKeys := false, apart := false }
def DiffMatchedSaid : Prop := diffMatchedRow.holds Try.pinned (OpenSpec.ofChange diffMatchedSpec)

/-- ITS FALSE NEIGHBOUR: 'it returns false'. Refute it at one input. -/
def diffMatchedWrong : ChangeSpec := { name := "diffMatched", fn := fun _ => fun
  | [d1, d2] => { results := [.lit (.bool false)], args := [d1, d2] }
  | _ => none }
def DiffMatchedWrongFalsely : Prop := diffMatchedRow.holds Try.pinned (OpenSpec.ofChange diffMatchedWrong)

/- THE SECOND FORM. 'bulk': how many values and letters a reading holds, each counted each time it is reached (what is shared counts as often as it is met; a slice's spare places count too). A statement '..UptoSaid' is the law's where the arguments, and the package variables that the reading takes, are together of bulk at most 1048576: NARROWER than '..Said'. Prove '..Said' where nothing that the law and all that it calls make is longer than what came in: it says more and counts as full. Else prove '..UptoSaid'. A law counts once. -/
mutual
def uptoBulk {H : Type} : DataW H → Nat
  | .lit (.string bytes) => bytes.length + 1
  | .lit _ => 1
  | .nil => 1
  | .ptr d => uptoBulk d + 1
  | .slice elems spare => uptoBulkAll elems + uptoBulkAll spare + 1
  | .agg parts => uptoBulkAll parts + 1
  | .iface _ d => uptoBulk d + 1
  | .map entries => uptoBulkEntries entries + 1
  | .held _ => 1
def uptoBulkAll {H : Type} : List (DataW H) → Nat
  | [] => 0
  | d :: r => uptoBulk d + uptoBulkAll r
def uptoBulkEntries {H : Type} : List (Lit × DataW H) → Nat
  | [] => 0
  | x :: r => uptoBulkEntry x + uptoBulkEntries r
def uptoBulkEntry {H : Type} : Lit × DataW H → Nat
  | (.string bytes, d) => bytes.length + uptoBulk d + 1
  | (_, d) => uptoBulk d + 1
 end
def uptoSmall : (H : Type) → List (DataW H) → Bool := fun _ ds => decide (uptoBulkAll ds ≤ 1048576)
def OpenSpec.upto (s : _root_.Go.ChangeSpec) : _root_.Go.OpenSpec := { _root_.Go.OpenSpec.ofChange s with cond := some uptoSmall }

/-- 'learnerlaw49.DiffExplains', WHERE WHAT IT READS IS OF BULK AT MOST 1048576: true; the input reads as it did. -/
def diffExplainsUptoRow : OpenClaim := { program := "ytmmkhoncblnicaa", sum := "dac54bb8b3b22caf5ab3db4785f3ca26e100818cae233e655085406ea6bf5b92", func := "learner/learnerlaw49.DiffExplains", spec := "diffExplains", unfollowed := true, recurses := true, plainKeys := false, apart := false, narrowed := true }
def DiffExplainsUptoSaid : Prop := diffExplainsUptoRow.holds Try.pinned (OpenSpec.upto diffExplainsSpec)

/-- 'learnerlaw49.DiffMatches', WHERE WHAT IT READS IS OF BULK AT MOST 1048576: true; the input reads as it did. -/
def diffMatchesUptoRow : OpenClaim := { program := "ytmmkhoncblnicaa", sum := "dac54bb8b3b22caf5ab3db4785f3ca26e100818cae233e655085406ea6bf5b92", func := "learner/learnerlaw49.DiffMatches", spec := "diffMatches", unfollowed := true, recurses := true, plainKeys := false, apart := false, narrowed := true }
def DiffMatchesUptoSaid : Prop := diffMatchesUptoRow.holds Try.pinned (OpenSpec.upto diffMatchesSpec)

/-- 'learnerlaw49.DiffPairs', WHERE WHAT IT READS IS OF BULK AT MOST 1048576: true; the input reads as it did. -/
def diffPairsUptoRow : OpenClaim := { program := "ytmmkhoncblnicaa", sum := "dac54bb8b3b22caf5ab3db4785f3ca26e100818cae233e655085406ea6bf5b92", func := "learner/learnerlaw49.DiffPairs", spec := "diffPairs", unfollowed := true, recurses := true, plainKeys := false, apart := false, narrowed := true }
def DiffPairsUptoSaid : Prop := diffPairsUptoRow.holds Try.pinned (OpenSpec.upto diffPairsSpec)

/-- 'learnerlaw49.DiffWords', WHERE WHAT IT READS IS OF BULK AT MOST 1048576: true; the input reads as it did. -/
def diffWordsUptoRow : OpenClaim := { program := "ytmmkhoncblnicaa", sum := "dac54bb8b3b22caf5ab3db4785f3ca26e100818cae233e655085406ea6bf5b92", func := "learner/learnerlaw49.DiffWords", spec := "diffWords", unfollowed := true, recurses := true, plainKeys := false, apart := false, narrowed := true }
def DiffWordsUptoSaid : Prop := diffWordsUptoRow.holds Try.pinned (OpenSpec.upto diffWordsSpec)

/-- 'learnerlaw49.DiffMoved', WHERE WHAT IT READS IS OF BULK AT MOST 1048576: true; the input reads as it did. -/
def diffMovedUptoRow : OpenClaim := { program := "ytmmkhoncblnicaa", sum := "dac54bb8b3b22caf5ab3db4785f3ca26e100818cae233e655085406ea6bf5b92", func := "learner/learnerlaw49.DiffMoved", spec := "diffMoved", unfollowed := true, recurses := true, plainKeys := false, apart := false, narrowed := true }
def DiffMovedUptoSaid : Prop := diffMovedUptoRow.holds Try.pinned (OpenSpec.upto diffMovedSpec)

/-- 'learnerlaw49.DiffMatched', WHERE WHAT IT READS IS OF BULK AT MOST 1048576: true; the input reads as it did. -/
def diffMatchedUptoRow : OpenClaim := { program := "ytmmkhoncblnicaa", sum := "dac54bb8b3b22caf5ab3db4785f3ca26e100818cae233e655085406ea6bf5b92", func := "learner/learnerlaw49.DiffMatched", spec := "diffMatched", unfollowed := true, recurses := true, plainKeys := false, apart := false, narrowed := true }
def DiffMatchedUptoSaid : Prop := diffMatchedUptoRow.holds Try.pinned (OpenSpec.upto diffMatchedSpec)

end Rows
end Go.Proofs.Ytmmkhoncblnicaa
