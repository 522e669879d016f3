/-
  No cell of these rows narrows 'for every input' (looked for: loops, veiled, ifaces, maps, wideKeys, modest, calm, conditions, laid).
  DERIVED. THE GIVEN ROWS OF THIS SEAT. 5 by the template 'for every input the law returns true; each argument reads behind the call as it read before'; 0 by the template 'total and deterministic' (their statements: YtchamabaodnjkaaTotals.lean).
  GIVEN WITH THE SEED: the statements are not yours to turn. If you find one false, say at which input.
  Laid BY PROGRAM, IN A SANDBOX (cutbox-rows.mjs): the forced cells as the released guide's own fill.sh prints them over the translation 781719dafcae4bfb… (all of the seat's roots in one cut). By AI agents, Wed Nov 11 2026. No macro, syntax, notation, axiom, sorry.
-/
import Derived.Test.YtchamabaodnjkaaChecked
import GoSem.Claim
import GoSem.ClaimJoined
import GoSem.ClaimMapViews
import Derived.JoinedTies
import Derived.KernelRfl
namespace Go.Proofs.Ytchamabaodnjkaa
/- THE CELL 'sum', in the pinned program and in every row, IS THE sha256 OF THE DUMP (.gsa) THAT YtchamabaodnjkaaProg.lean LOADS. Nothing in Lean hashes anything: it is a label: what it is worth is what the hold of that sum in a sandbox is worth. -/
noncomputable def Try.pinned : Pinned := { name := "ytchamabaodnjkaa", sum := "781719dafcae4bfb7789f19e29586b247f4b9f09e164e8ef5707abd800c73ba9", checked := Try.checked }
namespace Rows
def none {H : Type} : Left H := { results := [], args := [] }

/-- 'learnerlaw33.MutantApplies': WHATEVER THE INPUT: true; the input reads as it did. -/
def mutantAppliesSpec : ChangeSpec := { name := "mutantApplies", fn := fun _ => fun
  | [d1, d2] => { results := [.lit (.bool true)], args := [d1, d2] }
  | _ => none }
def mutantAppliesRow : OpenClaim := { program := "ytchamabaodnjkaa", sum := "781719dafcae4bfb7789f19e29586b247f4b9f09e164e8ef5707abd800c73ba9", func := "learner/learnerlaw33.MutantApplies", spec := "mutantApplies", unfollowed := true, recurses := true, apart := false }
def MutantAppliesSaid : Prop := mutantAppliesRow.holds Try.pinned (OpenSpec.ofChange mutantAppliesSpec)

/-- ITS FALSE NEIGHBOUR: 'it returns false'. Refute it at one input. -/
def mutantAppliesWrong : ChangeSpec := { name := "mutantApplies", fn := fun _ => fun
  | [d1, d2] => { results := [.lit (.bool false)], args := [d1, d2] }
  | _ => none }
def MutantAppliesWrongFalsely : Prop := mutantAppliesRow.holds Try.pinned (OpenSpec.ofChange mutantAppliesWrong)

/-- 'learnerlaw33.MutantAlls': WHATEVER THE INPUT: true; the input reads as it did. -/
def mutantAllsSpec : ChangeSpec := { name := "mutantAlls", fn := fun _ => fun
  | [d] => { results := [.lit (.bool true)], args := [d] }
  | _ => none }
def mutantAllsRow : OpenClaim := { program := "ytchamabaodnjkaa", sum := "781719dafcae4bfb7789f19e29586b247f4b9f09e164e8ef5707abd800c73ba9", func := "learner/learnerlaw33.MutantAlls", spec := "mutantAlls", unfollowed := true, recurses := true, apart := false }
def MutantAllsSaid : Prop := mutantAllsRow.holds Try.pinned (OpenSpec.ofChange mutantAllsSpec)

/-- ITS FALSE NEIGHBOUR: 'it returns false'. Refute it at one input. -/
def mutantAllsWrong : ChangeSpec := { name := "mutantAlls", fn := fun _ => fun
  | [d] => { results := [.lit (.bool false)], args := [d] }
  | _ => none }
def MutantAllsWrongFalsely : Prop := mutantAllsRow.holds Try.pinned (OpenSpec.ofChange mutantAllsWrong)

/-- 'learnerlaw33.MutantSurvivors': WHATEVER THE INPUT: true; the input reads as it did. -/
def mutantSurvivorsSpec : ChangeSpec := { name := "mutantSurvivors", fn := fun _ => fun
  | [d1, d2] => { results := [.lit (.bool true)], args := [d1, d2] }
  | _ => none }
def mutantSurvivorsRow : OpenClaim := { program := "ytchamabaodnjkaa", sum := "781719dafcae4bfb7789f19e29586b247f4b9f09e164e8ef5707abd800c73ba9", func := "learner/learnerlaw33.MutantSurvivors", spec := "mutantSurvivors", unfollowed := true, recurses := true, apart := false }
def MutantSurvivorsSaid : Prop := mutantSurvivorsRow.holds Try.pinned (OpenSpec.ofChange mutantSurvivorsSpec)

/-- ITS FALSE NEIGHBOUR: 'it returns false'. Refute it at one input. -/
def mutantSurvivorsWrong : ChangeSpec := { name := "mutantSurvivors", fn := fun _ => fun
  | [d1, d2] => { results := [.lit (.bool false)], args := [d1, d2] }
  | _ => none }
def MutantSurvivorsWrongFalsely : Prop := mutantSurvivorsRow.holds Try.pinned (OpenSpec.ofChange mutantSurvivorsWrong)

/-- 'learnerlaw33.MutantDiffers': WHATEVER THE INPUT: true; the input reads as it did. -/
def mutantDiffersSpec : ChangeSpec := { name := "mutantDiffers", fn := fun _ => fun
  | [d1, d2] => { results := [.lit (.bool true)], args := [d1, d2] }
  | _ => none }
def mutantDiffersRow : OpenClaim := { program := "ytchamabaodnjkaa", sum := "781719dafcae4bfb7789f19e29586b247f4b9f09e164e8ef5707abd800c73ba9", func := "learner/learnerlaw33.MutantDiffers", spec := "mutantDiffers", unfollowed := true, recurses := true, apart := false }
def MutantDiffersSaid : Prop := mutantDiffersRow.holds Try.pinned (OpenSpec.ofChange mutantDiffersSpec)

/-- ITS FALSE NEIGHBOUR: 'it returns false'. Refute it at one input. -/
def mutantDiffersWrong : ChangeSpec := { name := "mutantDiffers", fn := fun _ => fun
  | [d1, d2] => { results := [.lit (.bool false)], args := [d1, d2] }
  | _ => none }
def MutantDiffersWrongFalsely : Prop := mutantDiffersRow.holds Try.pinned (OpenSpec.ofChange mutantDiffersWrong)

/-- 'learnerlaw33.MutantDetects': WHATEVER THE INPUT: true; the input reads as it did. -/
def mutantDetectsSpec : ChangeSpec := { name := "mutantDetects", fn := fun _ => fun
  | [d1, d2] => { results := [.lit (.bool true)], args := [d1, d2] }
  | _ => none }
def mutantDetectsRow : OpenClaim := { program := "ytchamabaodnjkaa", sum := "781719dafcae4bfb7789f19e29586b247f4b9f09e164e8ef5707abd800c73ba9", func := "learner/learnerlaw33.MutantDetects", spec := "mutantDetects", unfollowed := true, recurses := true, apart := false }
def MutantDetectsSaid : Prop := mutantDetectsRow.holds Try.pinned (OpenSpec.ofChange mutantDetectsSpec)

/-- ITS FALSE NEIGHBOUR: 'it returns false'. Refute it at one input. -/
def mutantDetectsWrong : ChangeSpec := { name := "mutantDetects", fn := fun _ => fun
  | [d1, d2] => { results := [.lit (.bool false)], args := [d1, d2] }
  | _ => none }
def MutantDetectsWrongFalsely : Prop := mutantDetectsRow.holds Try.pinned (OpenSpec.ofChange mutantDetectsWrong)

/- THE SECOND FORM. 'bulk': how many values and letters a reading holds, each counted each time it is reached (what is shared counts as often as it is met; a slice's spare places count too). A statement '..UptoSaid' is the law's where the arguments, and the package variables that the reading takes, are together of bulk at most 1048576: NARROWER than '..Said'. Prove '..Said' where nothing that the law and all that it calls make is longer than what came in: it says more and counts as full. Else prove '..UptoSaid'. A law counts once. -/
mutual
def uptoBulk {H : Type} : DataW H → Nat
  | .lit (.string bytes) => bytes.length + 1
  | .lit _ => 1
  | .nil => 1
  | .ptr d => uptoBulk d + 1
  | .slice elems spare => uptoBulkAll elems + uptoBulkAll spare + 1
  | .agg parts => uptoBulkAll parts + 1
  | .iface _ d => uptoBulk d + 1
  | .map entries => uptoBulkEntries entries + 1
  | .held _ => 1
def uptoBulkAll {H : Type} : List (DataW H) → Nat
  | [] => 0
  | d :: r => uptoBulk d + uptoBulkAll r
def uptoBulkEntries {H : Type} : List (Lit × DataW H) → Nat
  | [] => 0
  | x :: r => uptoBulkEntry x + uptoBulkEntries r
def uptoBulkEntry {H : Type} : Lit × DataW H → Nat
  | (.string bytes, d) => bytes.length + uptoBulk d + 1
  | (_, d) => uptoBulk d + 1
 end
def uptoSmall : (H : Type) → List (DataW H) → Bool := fun _ ds => decide (uptoBulkAll ds ≤ 1048576)
def OpenSpec.upto (s : _root_.Go.ChangeSpec) : _root_.Go.OpenSpec := { _root_.Go.OpenSpec.ofChange s with cond := some uptoSmall }

/-- 'learnerlaw33.MutantApplies', WHERE WHAT IT READS IS OF BULK AT MOST 1048576: true; the input reads as it did. -/
def mutantAppliesUptoRow : OpenClaim := { program := "ytchamabaodnjkaa", sum := "781719dafcae4bfb7789f19e29586b247f4b9f09e164e8ef5707abd800c73ba9", func := "learner/learnerlaw33.MutantApplies", spec := "mutantApplies", unfollowed := true, recurses := true, apart := false, narrowed := true }
def MutantAppliesUptoSaid : Prop := mutantAppliesUptoRow.holds Try.pinned (OpenSpec.upto mutantAppliesSpec)

/-- 'learnerlaw33.MutantAlls', WHERE WHAT IT READS IS OF BULK AT MOST 1048576: true; the input reads as it did. -/
def mutantAllsUptoRow : OpenClaim := { program := "ytchamabaodnjkaa", sum := "781719dafcae4bfb7789f19e29586b247f4b9f09e164e8ef5707abd800c73ba9", func := "learner/learnerlaw33.MutantAlls", spec := "mutantAlls", unfollowed := true, recurses := true, apart := false, narrowed := true }
def MutantAllsUptoSaid : Prop := mutantAllsUptoRow.holds Try.pinned (OpenSpec.upto mutantAllsSpec)

/-- 'learnerlaw33.MutantSurvivors', WHERE WHAT IT READS IS OF BULK AT MOST 1048576: true; the input reads as it did. -/
def mutantSurvivorsUptoRow : OpenClaim := { program := "ytchamabaodnjkaa", sum := "781719dafcae4bfb7789f19e29586b247f4b9f09e164e8ef5707abd800c73ba9", func := "learner/learnerlaw33.MutantSurvivors", spec := "mutantSurvivors", unfollowed := true, recurses := true, apart := false, narrowed := true }
def MutantSurvivorsUptoSaid : Prop := mutantSurvivorsUptoRow.holds Try.pinned (OpenSpec.upto mutantSurvivorsSpec)

/-- 'learnerlaw33.MutantDiffers', WHERE WHAT IT READS IS OF BULK AT MOST 1048576: true; the input reads as it did. -/
def mutantDiffersUptoRow : OpenClaim := { program := "ytchamabaodnjkaa", sum := "781719dafcae4bfb7789f19e29586b247f4b9f09e164e8ef5707abd800c73ba9", func := "learner/learnerlaw33.MutantDiffers", spec := "mutantDiffers", unfollowed := true, recurses := true, apart := false, narrowed := true }
def MutantDiffersUptoSaid : Prop := mutantDiffersUptoRow.holds Try.pinned (OpenSpec.upto mutantDiffersSpec)

/-- 'learnerlaw33.MutantDetects', WHERE WHAT IT READS IS OF BULK AT MOST 1048576: true; the input reads as it did. -/
def mutantDetectsUptoRow : OpenClaim := { program := "ytchamabaodnjkaa", sum := "781719dafcae4bfb7789f19e29586b247f4b9f09e164e8ef5707abd800c73ba9", func := "learner/learnerlaw33.MutantDetects", spec := "mutantDetects", unfollowed := true, recurses := true, apart := false, narrowed := true }
def MutantDetectsUptoSaid : Prop := mutantDetectsUptoRow.holds Try.pinned (OpenSpec.upto mutantDetectsSpec)

end Rows
end Go.Proofs.Ytchamabaodnjkaa
