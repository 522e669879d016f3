/-
  No cell of these rows narrows 'for every input' (looked for: loops, veiled, ifaces, maps, wideKeys, modest, calm, conditions, laid).
  DERIVED. THE GIVEN ROWS OF THIS SEAT. 6 by the template 'for every input the law returns true; each argument reads behind the call as it read before'; 0 by the template 'total and deterministic' (their statements: YtkedjdfangojmaaTotals.lean).
  GIVEN WITH THE SEED: the statements are not yours to turn. If you find one false, say at which input.
  Laid BY PROGRAM, IN A SANDBOX (cutbox-rows.mjs): the forced cells as the released guide's own fill.sh prints them over the translation e86c76fb32e9a581… (all of the seat's roots in one cut). By AI agents, Wed Nov 11 2026. No macro, syntax, notation, axiom, sorry.
-/
import Derived.Test.YtkedjdfangojmaaChecked
import GoSem.Claim
import GoSem.ClaimJoined
import GoSem.ClaimMapViews
import Derived.JoinedTies
import Derived.KernelRfl
namespace Go.Proofs.Ytkedjdfangojmaa
/- THE CELL 'sum', in the pinned program and in every row, IS THE sha256 OF THE DUMP (.gsa) THAT YtkedjdfangojmaaProg.lean LOADS. Nothing in Lean hashes anything: it is a label: what it is worth is what the hold of that sum in a sandbox is worth. -/
noncomputable def Try.pinned : Pinned := { name := "ytkedjdfangojmaa", sum := "e86c76fb32e9a5816915f2db91226c304e7debaea27d46adb297b5c547f12df0", checked := Try.checked }
namespace Rows
def none {H : Type} : Left H := { results := [], args := [] }

/-- 'learnerlaw20.BatchPlans': WHATEVER THE INPUT: true; the input reads as it did. -/
def batchPlansSpec : ChangeSpec := { name := "batchPlans", fn := fun _ => fun
  | [d1, d2] => { results := [.lit (.bool true)], args := [d1, d2] }
  | _ => none }
def batchPlansRow : OpenClaim := { program := "ytkedjdfangojmaa", sum := "e86c76fb32e9a5816915f2db91226c304e7debaea27d46adb297b5c547f12df0", func := "learner/learnerlaw20.BatchPlans", spec := "batchPlans", unfollowed := true, recurses := true, apart := false }
def BatchPlansSaid : Prop := batchPlansRow.holds Try.pinned (OpenSpec.ofChange batchPlansSpec)

/-- ITS FALSE NEIGHBOUR: 'it returns false'. Refute it at one input. -/
def batchPlansWrong : ChangeSpec := { name := "batchPlans", fn := fun _ => fun
  | [d1, d2] => { results := [.lit (.bool false)], args := [d1, d2] }
  | _ => none }
def BatchPlansWrongFalsely : Prop := batchPlansRow.holds Try.pinned (OpenSpec.ofChange batchPlansWrong)

/-- 'learnerlaw20.BatchCosts': WHATEVER THE INPUT: true; the input reads as it did. -/
def batchCostsSpec : ChangeSpec := { name := "batchCosts", fn := fun _ => fun
  | [d1, d2, d3] => { results := [.lit (.bool true)], args := [d1, d2, d3] }
  | _ => none }
def batchCostsRow : OpenClaim := { program := "ytkedjdfangojmaa", sum := "e86c76fb32e9a5816915f2db91226c304e7debaea27d46adb297b5c547f12df0", func := "learner/learnerlaw20.BatchCosts", spec := "batchCosts", unfollowed := true, recurses := true, apart := false }
def BatchCostsSaid : Prop := batchCostsRow.holds Try.pinned (OpenSpec.ofChange batchCostsSpec)

/-- ITS FALSE NEIGHBOUR: 'it returns false'. Refute it at one input. -/
def batchCostsWrong : ChangeSpec := { name := "batchCosts", fn := fun _ => fun
  | [d1, d2, d3] => { results := [.lit (.bool false)], args := [d1, d2, d3] }
  | _ => none }
def BatchCostsWrongFalsely : Prop := batchCostsRow.holds Try.pinned (OpenSpec.ofChange batchCostsWrong)

/-- 'learnerlaw20.BatchChains': WHATEVER THE INPUT: true; the input reads as it did. -/
def batchChainsSpec : ChangeSpec := { name := "batchChains", fn := fun _ => fun
  | [d1, d2, d3] => { results := [.lit (.bool true)], args := [d1, d2, d3] }
  | _ => none }
def batchChainsRow : OpenClaim := { program := "ytkedjdfangojmaa", sum := "e86c76fb32e9a5816915f2db91226c304e7debaea27d46adb297b5c547f12df0", func := "learner/learnerlaw20.BatchChains", spec := "batchChains", unfollowed := true, recurses := true, apart := false }
def BatchChainsSaid : Prop := batchChainsRow.holds Try.pinned (OpenSpec.ofChange batchChainsSpec)

/-- ITS FALSE NEIGHBOUR: 'it returns false'. Refute it at one input. -/
def batchChainsWrong : ChangeSpec := { name := "batchChains", fn := fun _ => fun
  | [d1, d2, d3] => { results := [.lit (.bool false)], args := [d1, d2, d3] }
  | _ => none }
def BatchChainsWrongFalsely : Prop := batchChainsRow.holds Try.pinned (OpenSpec.ofChange batchChainsWrong)

/-- 'learnerlaw20.BatchComplete': WHATEVER THE INPUT: true; the input reads as it did. -/
def batchCompleteSpec : ChangeSpec := { name := "batchComplete", fn := fun _ => fun
  | [d1, d2, d3] => { results := [.lit (.bool true)], args := [d1, d2, d3] }
  | _ => none }
def batchCompleteRow : OpenClaim := { program := "ytkedjdfangojmaa", sum := "e86c76fb32e9a5816915f2db91226c304e7debaea27d46adb297b5c547f12df0", func := "learner/learnerlaw20.BatchComplete", spec := "batchComplete", unfollowed := true, recurses := true, apart := false }
def BatchCompleteSaid : Prop := batchCompleteRow.holds Try.pinned (OpenSpec.ofChange batchCompleteSpec)

/-- ITS FALSE NEIGHBOUR: 'it returns false'. Refute it at one input. -/
def batchCompleteWrong : ChangeSpec := { name := "batchComplete", fn := fun _ => fun
  | [d1, d2, d3] => { results := [.lit (.bool false)], args := [d1, d2, d3] }
  | _ => none }
def BatchCompleteWrongFalsely : Prop := batchCompleteRow.holds Try.pinned (OpenSpec.ofChange batchCompleteWrong)

/-- 'learnerlaw20.BatchSchedules': WHATEVER THE INPUT: true; the input reads as it did. -/
def batchSchedulesSpec : ChangeSpec := { name := "batchSchedules", fn := fun _ => fun
  | [d1, d2, d3] => { results := [.lit (.bool true)], args := [d1, d2, d3] }
  | _ => none }
def batchSchedulesRow : OpenClaim := { program := "ytkedjdfangojmaa", sum := "e86c76fb32e9a5816915f2db91226c304e7debaea27d46adb297b5c547f12df0", func := "learner/learnerlaw20.BatchSchedules", spec := "batchSchedules", unfollowed := true, recurses := true, apart := false }
def BatchSchedulesSaid : Prop := batchSchedulesRow.holds Try.pinned (OpenSpec.ofChange batchSchedulesSpec)

/-- ITS FALSE NEIGHBOUR: 'it returns false'. Refute it at one input. -/
def batchSchedulesWrong : ChangeSpec := { name := "batchSchedules", fn := fun _ => fun
  | [d1, d2, d3] => { results := [.lit (.bool false)], args := [d1, d2, d3] }
  | _ => none }
def BatchSchedulesWrongFalsely : Prop := batchSchedulesRow.holds Try.pinned (OpenSpec.ofChange batchSchedulesWrong)

/-- 'learnerlaw20.BatchGroups': WHATEVER THE INPUT: true; the input reads as it did. -/
def batchGroupsSpec : ChangeSpec := { name := "batchGroups", fn := fun _ => fun
  | [d1, d2] => { results := [.lit (.bool true)], args := [d1, d2] }
  | _ => none }
def batchGroupsRow : OpenClaim := { program := "ytkedjdfangojmaa", sum := "e86c76fb32e9a5816915f2db91226c304e7debaea27d46adb297b5c547f12df0", func := "learner/learnerlaw20.BatchGroups", spec := "batchGroups", unfollowed := true, recurses := true, apart := false }
def BatchGroupsSaid : Prop := batchGroupsRow.holds Try.pinned (OpenSpec.ofChange batchGroupsSpec)

/-- ITS FALSE NEIGHBOUR: 'it returns false'. Refute it at one input. -/
def batchGroupsWrong : ChangeSpec := { name := "batchGroups", fn := fun _ => fun
  | [d1, d2] => { results := [.lit (.bool false)], args := [d1, d2] }
  | _ => none }
def BatchGroupsWrongFalsely : Prop := batchGroupsRow.holds Try.pinned (OpenSpec.ofChange batchGroupsWrong)

/- THE SECOND FORM. 'bulk': how many values and letters a reading holds, each counted each time it is reached (what is shared counts as often as it is met; a slice's spare places count too). A statement '..UptoSaid' is the law's where the arguments, and the package variables that the reading takes, are together of bulk at most 1048576: NARROWER than '..Said'. Prove '..Said' where nothing that the law and all that it calls make is longer than what came in: it says more and counts as full. Else prove '..UptoSaid'. A law counts once. -/
mutual
def uptoBulk {H : Type} : DataW H → Nat
  | .lit (.string bytes) => bytes.length + 1
  | .lit _ => 1
  | .nil => 1
  | .ptr d => uptoBulk d + 1
  | .slice elems spare => uptoBulkAll elems + uptoBulkAll spare + 1
  | .agg parts => uptoBulkAll parts + 1
  | .iface _ d => uptoBulk d + 1
  | .map entries => uptoBulkEntries entries + 1
  | .held _ => 1
def uptoBulkAll {H : Type} : List (DataW H) → Nat
  | [] => 0
  | d :: r => uptoBulk d + uptoBulkAll r
def uptoBulkEntries {H : Type} : List (Lit × DataW H) → Nat
  | [] => 0
  | x :: r => uptoBulkEntry x + uptoBulkEntries r
def uptoBulkEntry {H : Type} : Lit × DataW H → Nat
  | (.string bytes, d) => bytes.length + uptoBulk d + 1
  | (_, d) => uptoBulk d + 1
 end
def uptoSmall : (H : Type) → List (DataW H) → Bool := fun _ ds => decide (uptoBulkAll ds ≤ 1048576)
def OpenSpec.upto (s : _root_.Go.ChangeSpec) : _root_.Go.OpenSpec := { _root_.Go.OpenSpec.ofChange s with cond := some uptoSmall }

/-- 'learnerlaw20.BatchPlans', WHERE WHAT IT READS IS OF BULK AT MOST 1048576: true; the input reads as it did. -/
def batchPlansUptoRow : OpenClaim := { program := "ytkedjdfangojmaa", sum := "e86c76fb32e9a5816915f2db91226c304e7debaea27d46adb297b5c547f12df0", func := "learner/learnerlaw20.BatchPlans", spec := "batchPlans", unfollowed := true, recurses := true, apart := false, narrowed := true }
def BatchPlansUptoSaid : Prop := batchPlansUptoRow.holds Try.pinned (OpenSpec.upto batchPlansSpec)

/-- 'learnerlaw20.BatchCosts', WHERE WHAT IT READS IS OF BULK AT MOST 1048576: true; the input reads as it did. -/
def batchCostsUptoRow : OpenClaim := { program := "ytkedjdfangojmaa", sum := "e86c76fb32e9a5816915f2db91226c304e7debaea27d46adb297b5c547f12df0", func := "learner/learnerlaw20.BatchCosts", spec := "batchCosts", unfollowed := true, recurses := true, apart := false, narrowed := true }
def BatchCostsUptoSaid : Prop := batchCostsUptoRow.holds Try.pinned (OpenSpec.upto batchCostsSpec)

/-- 'learnerlaw20.BatchChains', WHERE WHAT IT READS IS OF BULK AT MOST 1048576: true; the input reads as it did. -/
def batchChainsUptoRow : OpenClaim := { program := "ytkedjdfangojmaa", sum := "e86c76fb32e9a5816915f2db91226c304e7debaea27d46adb297b5c547f12df0", func := "learner/learnerlaw20.BatchChains", spec := "batchChains", unfollowed := true, recurses := true, apart := false, narrowed := true }
def BatchChainsUptoSaid : Prop := batchChainsUptoRow.holds Try.pinned (OpenSpec.upto batchChainsSpec)

/-- 'learnerlaw20.BatchComplete', WHERE WHAT IT READS IS OF BULK AT MOST 1048576: true; the input reads as it did. -/
def batchCompleteUptoRow : OpenClaim := { program := "ytkedjdfangojmaa", sum := "e86c76fb32e9a5816915f2db91226c304e7debaea27d46adb297b5c547f12df0", func := "learner/learnerlaw20.BatchComplete", spec := "batchComplete", unfollowed := true, recurses := true, apart := false, narrowed := true }
def BatchCompleteUptoSaid : Prop := batchCompleteUptoRow.holds Try.pinned (OpenSpec.upto batchCompleteSpec)

/-- 'learnerlaw20.BatchSchedules', WHERE WHAT IT READS IS OF BULK AT MOST 1048576: true; the input reads as it did. -/
def batchSchedulesUptoRow : OpenClaim := { program := "ytkedjdfangojmaa", sum := "e86c76fb32e9a5816915f2db91226c304e7debaea27d46adb297b5c547f12df0", func := "learner/learnerlaw20.BatchSchedules", spec := "batchSchedules", unfollowed := true, recurses := true, apart := false, narrowed := true }
def BatchSchedulesUptoSaid : Prop := batchSchedulesUptoRow.holds Try.pinned (OpenSpec.upto batchSchedulesSpec)

/-- 'learnerlaw20.BatchGroups', WHERE WHAT IT READS IS OF BULK AT MOST 1048576: true; the input reads as it did. -/
def batchGroupsUptoRow : OpenClaim := { program := "ytkedjdfangojmaa", sum := "e86c76fb32e9a5816915f2db91226c304e7debaea27d46adb297b5c547f12df0", func := "learner/learnerlaw20.BatchGroups", spec := "batchGroups", unfollowed := true, recurses := true, apart := false, narrowed := true }
def BatchGroupsUptoSaid : Prop := batchGroupsUptoRow.holds Try.pinned (OpenSpec.upto batchGroupsSpec)

end Rows
end Go.Proofs.Ytkedjdfangojmaa
