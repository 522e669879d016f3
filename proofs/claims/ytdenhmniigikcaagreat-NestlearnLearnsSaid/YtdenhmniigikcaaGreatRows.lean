/-
  No cell of these rows narrows 'for every input' (looked for: loops, veiled, ifaces, maps, wideKeys, modest, calm, conditions, laid).
  DERIVED. THE GIVEN ROWS OF THIS SEAT. 6 by the template 'for every input the law returns true; each argument reads behind the call as it read before'; 0 by the template 'total and deterministic' (their statements: YtdenhmniigikcaaGreatTotals.lean).
  GIVEN WITH THE SEED: the statements are not yours to turn. If you find one false, say at which input.
  Laid BY PROGRAM, IN A SANDBOX (cutbox-rows.mjs): the forced cells as the released guide's own fill.sh prints them over the translation b51029bafb55e21a… (all of the seat's roots in one cut). By AI agents, Wed Nov 11 2026. No macro, syntax, notation, axiom, sorry.
-/
import Derived.Test.YtdenhmniigikcaaGreatChecked
import GoSem.Claim
import GoSem.ClaimJoined
import GoSem.ClaimMapViews
import Derived.JoinedTies
import Derived.KernelRfl
namespace Go.Proofs.YtdenhmniigikcaaGreat
/- THE CELL 'sum', in the pinned program and in every row, IS THE sha256 OF THE DUMP (.gsa) THAT YtdenhmniigikcaaGreatProg.lean LOADS. Nothing in Lean hashes anything: it is a label: what it is worth is what the hold of that sum in a sandbox is worth. -/
noncomputable def Tryz.pinned : Pinned := { name := "ytdenhmniigikcaagreat", sum := "b51029bafb55e21adaf0f779151723b742aae4ed4924286c616b8ead337737c4", checked := Tryz.checked }
namespace Rows
def none {H : Type} : Left H := { results := [], args := [] }

/-- 'learnerlaw44.NestlearnSingles': WHATEVER THE INPUT: true; the input reads as it did. -/
def nestlearnSinglesSpec : ChangeSpec := { name := "nestlearnSingles", fn := fun _ => fun
  | [d] => { results := [.lit (.bool true)], args := [d] }
  | _ => none }
def nestlearnSinglesRow : OpenClaim := { program := "ytdenhmniigikcaagreat", sum := "b51029bafb55e21adaf0f779151723b742aae4ed4924286c616b8ead337737c4", func := "learner/learnerlaw44.NestlearnSingles", spec := "nestlearnSingles", unfollowed := true, recurses := true, apart := false }
def NestlearnSinglesSaid : Prop := nestlearnSinglesRow.holds Tryz.pinned (OpenSpec.ofChange nestlearnSinglesSpec)

/-- ITS FALSE NEIGHBOUR: 'it returns false'. Refute it at one input. -/
def nestlearnSinglesWrong : ChangeSpec := { name := "nestlearnSingles", fn := fun _ => fun
  | [d] => { results := [.lit (.bool false)], args := [d] }
  | _ => none }
def NestlearnSinglesWrongFalsely : Prop := nestlearnSinglesRow.holds Tryz.pinned (OpenSpec.ofChange nestlearnSinglesWrong)

/-- 'learnerlaw44.NestlearnRuns': WHATEVER THE INPUT: true; the input reads as it did. -/
def nestlearnRunsSpec : ChangeSpec := { name := "nestlearnRuns", fn := fun _ => fun
  | [d] => { results := [.lit (.bool true)], args := [d] }
  | _ => none }
def nestlearnRunsRow : OpenClaim := { program := "ytdenhmniigikcaagreat", sum := "b51029bafb55e21adaf0f779151723b742aae4ed4924286c616b8ead337737c4", func := "learner/learnerlaw44.NestlearnRuns", spec := "nestlearnRuns", unfollowed := true, recurses := true, apart := false }
def NestlearnRunsSaid : Prop := nestlearnRunsRow.holds Tryz.pinned (OpenSpec.ofChange nestlearnRunsSpec)

/-- ITS FALSE NEIGHBOUR: 'it returns false'. Refute it at one input. -/
def nestlearnRunsWrong : ChangeSpec := { name := "nestlearnRuns", fn := fun _ => fun
  | [d] => { results := [.lit (.bool false)], args := [d] }
  | _ => none }
def NestlearnRunsWrongFalsely : Prop := nestlearnRunsRow.holds Tryz.pinned (OpenSpec.ofChange nestlearnRunsWrong)

/-- 'learnerlaw44.NestlearnAccepts': WHATEVER THE INPUT: true; the input reads as it did. -/
def nestlearnAcceptsSpec : ChangeSpec := { name := "nestlearnAccepts", fn := fun _ => fun
  | [d1, d2] => { results := [.lit (.bool true)], args := [d1, d2] }
  | _ => none }
def nestlearnAcceptsRow : OpenClaim := { program := "ytdenhmniigikcaagreat", sum := "b51029bafb55e21adaf0f779151723b742aae4ed4924286c616b8ead337737c4", func := "learner/learnerlaw44.NestlearnAccepts", spec := "nestlearnAccepts", unfollowed := true, recurses := true, apart := false }
def NestlearnAcceptsSaid : Prop := nestlearnAcceptsRow.holds Tryz.pinned (OpenSpec.ofChange nestlearnAcceptsSpec)

/-- ITS FALSE NEIGHBOUR: 'it returns false'. Refute it at one input. -/
def nestlearnAcceptsWrong : ChangeSpec := { name := "nestlearnAccepts", fn := fun _ => fun
  | [d1, d2] => { results := [.lit (.bool false)], args := [d1, d2] }
  | _ => none }
def NestlearnAcceptsWrongFalsely : Prop := nestlearnAcceptsRow.holds Tryz.pinned (OpenSpec.ofChange nestlearnAcceptsWrong)

/-- 'learnerlaw44.NestlearnCanonical': WHATEVER THE INPUT: true; the input reads as it did. -/
def nestlearnCanonicalSpec : ChangeSpec := { name := "nestlearnCanonical", fn := fun _ => fun
  | [d1, d2] => { results := [.lit (.bool true)], args := [d1, d2] }
  | _ => none }
def nestlearnCanonicalRow : OpenClaim := { program := "ytdenhmniigikcaagreat", sum := "b51029bafb55e21adaf0f779151723b742aae4ed4924286c616b8ead337737c4", func := "learner/learnerlaw44.NestlearnCanonical", spec := "nestlearnCanonical", unfollowed := true, recurses := true, apart := false }
def NestlearnCanonicalSaid : Prop := nestlearnCanonicalRow.holds Tryz.pinned (OpenSpec.ofChange nestlearnCanonicalSpec)

/-- ITS FALSE NEIGHBOUR: 'it returns false'. Refute it at one input. -/
def nestlearnCanonicalWrong : ChangeSpec := { name := "nestlearnCanonical", fn := fun _ => fun
  | [d1, d2] => { results := [.lit (.bool false)], args := [d1, d2] }
  | _ => none }
def NestlearnCanonicalWrongFalsely : Prop := nestlearnCanonicalRow.holds Tryz.pinned (OpenSpec.ofChange nestlearnCanonicalWrong)

/-- 'learnerlaw44.NestlearnAgain': WHATEVER THE INPUT: true; the input reads as it did. -/
def nestlearnAgainSpec : ChangeSpec := { name := "nestlearnAgain", fn := fun _ => fun
  | [d] => { results := [.lit (.bool true)], args := [d] }
  | _ => none }
def nestlearnAgainRow : OpenClaim := { program := "ytdenhmniigikcaagreat", sum := "b51029bafb55e21adaf0f779151723b742aae4ed4924286c616b8ead337737c4", func := "learner/learnerlaw44.NestlearnAgain", spec := "nestlearnAgain", unfollowed := true, recurses := true, apart := false }
def NestlearnAgainSaid : Prop := nestlearnAgainRow.holds Tryz.pinned (OpenSpec.ofChange nestlearnAgainSpec)

/-- ITS FALSE NEIGHBOUR: 'it returns false'. Refute it at one input. -/
def nestlearnAgainWrong : ChangeSpec := { name := "nestlearnAgain", fn := fun _ => fun
  | [d] => { results := [.lit (.bool false)], args := [d] }
  | _ => none }
def NestlearnAgainWrongFalsely : Prop := nestlearnAgainRow.holds Tryz.pinned (OpenSpec.ofChange nestlearnAgainWrong)

/-- 'learnerlaw44.NestlearnLearns': WHATEVER THE INPUT: true; the input reads as it did. -/
def nestlearnLearnsSpec : ChangeSpec := { name := "nestlearnLearns", fn := fun _ => fun
  | [d1, d2] => { results := [.lit (.bool true)], args := [d1, d2] }
  | _ => none }
def nestlearnLearnsRow : OpenClaim := { program := "ytdenhmniigikcaagreat", sum := "b51029bafb55e21adaf0f779151723b742aae4ed4924286c616b8ead337737c4", func := "learner/learnerlaw44.NestlearnLearns", spec := "nestlearnLearns", unfollowed := true, recurses := true, apart := false }
def NestlearnLearnsSaid : Prop := nestlearnLearnsRow.holds Tryz.pinned (OpenSpec.ofChange nestlearnLearnsSpec)

/-- ITS FALSE NEIGHBOUR: 'it returns false'. Refute it at one input. -/
def nestlearnLearnsWrong : ChangeSpec := { name := "nestlearnLearns", fn := fun _ => fun
  | [d1, d2] => { results := [.lit (.bool false)], args := [d1, d2] }
  | _ => none }
def NestlearnLearnsWrongFalsely : Prop := nestlearnLearnsRow.holds Tryz.pinned (OpenSpec.ofChange nestlearnLearnsWrong)

/- THE SECOND FORM. 'bulk': how many values and letters a reading holds, each counted each time it is reached (what is shared counts as often as it is met; a slice's spare places count too). A statement '..UptoSaid' is the law's where the arguments, and the package variables that the reading takes, are together of bulk at most 1048576: NARROWER than '..Said'. Prove '..Said' where nothing that the law and all that it calls make is longer than what came in: it says more and counts as full. Else prove '..UptoSaid'. A law counts once. -/
mutual
def uptoBulk {H : Type} : DataW H → Nat
  | .lit (.string bytes) => bytes.length + 1
  | .lit _ => 1
  | .nil => 1
  | .ptr d => uptoBulk d + 1
  | .slice elems spare => uptoBulkAll elems + uptoBulkAll spare + 1
  | .agg parts => uptoBulkAll parts + 1
  | .iface _ d => uptoBulk d + 1
  | .map entries => uptoBulkEntries entries + 1
  | .held _ => 1
def uptoBulkAll {H : Type} : List (DataW H) → Nat
  | [] => 0
  | d :: r => uptoBulk d + uptoBulkAll r
def uptoBulkEntries {H : Type} : List (Lit × DataW H) → Nat
  | [] => 0
  | x :: r => uptoBulkEntry x + uptoBulkEntries r
def uptoBulkEntry {H : Type} : Lit × DataW H → Nat
  | (.string bytes, d) => bytes.length + uptoBulk d + 1
  | (_, d) => uptoBulk d + 1
 end
def uptoSmall : (H : Type) → List (DataW H) → Bool := fun _ ds => decide (uptoBulkAll ds ≤ 1048576)
def OpenSpec.upto (s : _root_.Go.ChangeSpec) : _root_.Go.OpenSpec := { _root_.Go.OpenSpec.ofChange s with cond := some uptoSmall }

/-- 'learnerlaw44.NestlearnSingles', WHERE WHAT IT READS IS OF BULK AT MOST 1048576: true; the input reads as it did. -/
def nestlearnSinglesUptoRow : OpenClaim := { program := "ytdenhmniigikcaagreat", sum := "b51029bafb55e21adaf0f779151723b742aae4ed4924286c616b8ead337737c4", func := "learner/learnerlaw44.NestlearnSingles", spec := "nestlearnSingles", unfollowed := true, recurses := true, apart := false, narrowed := true }
def NestlearnSinglesUptoSaid : Prop := nestlearnSinglesUptoRow.holds Tryz.pinned (OpenSpec.upto nestlearnSinglesSpec)

/-- 'learnerlaw44.NestlearnRuns', WHERE WHAT IT READS IS OF BULK AT MOST 1048576: true; the input reads as it did. -/
def nestlearnRunsUptoRow : OpenClaim := { program := "ytdenhmniigikcaagreat", sum := "b51029bafb55e21adaf0f779151723b742aae4ed4924286c616b8ead337737c4", func := "learner/learnerlaw44.NestlearnRuns", spec := "nestlearnRuns", unfollowed := true, recurses := true, apart := false, narrowed := true }
def NestlearnRunsUptoSaid : Prop := nestlearnRunsUptoRow.holds Tryz.pinned (OpenSpec.upto nestlearnRunsSpec)

/-- 'learnerlaw44.NestlearnAccepts', WHERE WHAT IT READS IS OF BULK AT MOST 1048576: true; the input reads as it did. -/
def nestlearnAcceptsUptoRow : OpenClaim := { program := "ytdenhmniigikcaagreat", sum := "b51029bafb55e21adaf0f779151723b742aae4ed4924286c616b8ead337737c4", func := "learner/learnerlaw44.NestlearnAccepts", spec := "nestlearnAccepts", unfollowed := true, recurses := true, apart := false, narrowed := true }
def NestlearnAcceptsUptoSaid : Prop := nestlearnAcceptsUptoRow.holds Tryz.pinned (OpenSpec.upto nestlearnAcceptsSpec)

/-- 'learnerlaw44.NestlearnCanonical', WHERE WHAT IT READS IS OF BULK AT MOST 1048576: true; the input reads as it did. -/
def nestlearnCanonicalUptoRow : OpenClaim := { program := "ytdenhmniigikcaagreat", sum := "b51029bafb55e21adaf0f779151723b742aae4ed4924286c616b8ead337737c4", func := "learner/learnerlaw44.NestlearnCanonical", spec := "nestlearnCanonical", unfollowed := true, recurses := true, apart := false, narrowed := true }
def NestlearnCanonicalUptoSaid : Prop := nestlearnCanonicalUptoRow.holds Tryz.pinned (OpenSpec.upto nestlearnCanonicalSpec)

/-- 'learnerlaw44.NestlearnAgain', WHERE WHAT IT READS IS OF BULK AT MOST 1048576: true; the input reads as it did. -/
def nestlearnAgainUptoRow : OpenClaim := { program := "ytdenhmniigikcaagreat", sum := "b51029bafb55e21adaf0f779151723b742aae4ed4924286c616b8ead337737c4", func := "learner/learnerlaw44.NestlearnAgain", spec := "nestlearnAgain", unfollowed := true, recurses := true, apart := false, narrowed := true }
def NestlearnAgainUptoSaid : Prop := nestlearnAgainUptoRow.holds Tryz.pinned (OpenSpec.upto nestlearnAgainSpec)

/-- 'learnerlaw44.NestlearnLearns', WHERE WHAT IT READS IS OF BULK AT MOST 1048576: true; the input reads as it did. -/
def nestlearnLearnsUptoRow : OpenClaim := { program := "ytdenhmniigikcaagreat", sum := "b51029bafb55e21adaf0f779151723b742aae4ed4924286c616b8ead337737c4", func := "learner/learnerlaw44.NestlearnLearns", spec := "nestlearnLearns", unfollowed := true, recurses := true, apart := false, narrowed := true }
def NestlearnLearnsUptoSaid : Prop := nestlearnLearnsUptoRow.holds Tryz.pinned (OpenSpec.upto nestlearnLearnsSpec)

end Rows
end Go.Proofs.YtdenhmniigikcaaGreat
