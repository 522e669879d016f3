/-
  No cell of these rows narrows 'for every input' (looked for: loops, veiled, ifaces, maps, wideKeys, modest, calm, conditions, laid).
  DERIVED. THE GIVEN ROWS OF THIS SEAT. 2 by the template 'for every input the law returns true; each argument reads behind the call as it read before'; 0 by the template 'total and deterministic' (their statements: YtlgfempnnijfnaaGreatTotals.lean).
  GIVEN WITH THE SEED: the statements are not yours to turn. If you find one false, say at which input.
  Laid BY PROGRAM, IN A SANDBOX (cutbox-rows.mjs): the forced cells as the released guide's own fill.sh prints them over the translation 980dc6abace089a5… (all of the seat's roots in one cut). By AI agents, Wed Nov 11 2026. No macro, syntax, notation, axiom, sorry.
-/
import Derived.Test.YtlgfempnnijfnaaGreatChecked
import GoSem.Claim
import GoSem.ClaimJoined
import GoSem.ClaimMapViews
import Derived.JoinedTies
import Derived.KernelRfl
namespace Go.Proofs.YtlgfempnnijfnaaGreat
/- THE CELL 'sum', in the pinned program and in every row, IS THE sha256 OF THE DUMP (.gsa) THAT YtlgfempnnijfnaaGreatProg.lean LOADS. Nothing in Lean hashes anything: it is a label: what it is worth is what the hold of that sum in a sandbox is worth. -/
noncomputable def Tryz.pinned : Pinned := { name := "ytlgfempnnijfnaagreat", sum := "980dc6abace089a5c501859b80b9b6da66700be94b6b1c605547d0bd1f5f9684", checked := Tryz.checked }
namespace Rows
def none {H : Type} : Left H := { results := [], args := [] }

/-- 'learnerlaw11.SeparateSets': WHATEVER THE INPUT: true; the input reads as it did. -/
def separateSetsSpec : ChangeSpec := { name := "separateSets", fn := fun _ => fun
  | [d] => { results := [.lit (.bool true)], args := [d] }
  | _ => none }
def separateSetsRow : OpenClaim := { program := "ytlgfempnnijfnaagreat", sum := "980dc6abace089a5c501859b80b9b6da66700be94b6b1c605547d0bd1f5f9684", func := "learner/learnerlaw11.SeparateSets", spec := "separateSets", unfollowed := true, recurses := true, plainKeys := false, apart := false }
def SeparateSetsSaid : Prop := separateSetsRow.holds Tryz.pinned (OpenSpec.ofChange separateSetsSpec)

/-- ITS FALSE NEIGHBOUR: 'it returns false'. Refute it at one input. -/
def separateSetsWrong : ChangeSpec := { name := "separateSets", fn := fun _ => fun
  | [d] => { results := [.lit (.bool false)], args := [d] }
  | _ => none }
def SeparateSetsWrongFalsely : Prop := separateSetsRow.holds Tryz.pinned (OpenSpec.ofChange separateSetsWrong)

/-- 'learnerlaw11.SeparatePairs': WHATEVER THE INPUT: true; the input reads as it did. -/
def separatePairsSpec : ChangeSpec := { name := "separatePairs", fn := fun _ => fun
  | [d] => { results := [.lit (.bool true)], args := [d] }
  | _ => none }
def separatePairsRow : OpenClaim := { program := "ytlgfempnnijfnaagreat", sum := "980dc6abace089a5c501859b80b9b6da66700be94b6b1c605547d0bd1f5f9684", func := "learner/learnerlaw11.SeparatePairs", spec := "separatePairs", unfollowed := true, recurses := true, plainKeys := false, apart := false }
def SeparatePairsSaid : Prop := separatePairsRow.holds Tryz.pinned (OpenSpec.ofChange separatePairsSpec)

/-- ITS FALSE NEIGHBOUR: 'it returns false'. Refute it at one input. -/
def separatePairsWrong : ChangeSpec := { name := "separatePairs", fn := fun _ => fun
  | [d] => { results := [.lit (.bool false)], args := [d] }
  | _ => none }
def SeparatePairsWrongFalsely : Prop := separatePairsRow.holds Tryz.pinned (OpenSpec.ofChange separatePairsWrong)

/- THE SECOND FORM. 'bulk': how many values and letters a reading holds, each counted each time it is reached (what is shared counts as often as it is met; a slice's spare places count too). A statement '..UptoSaid' is the law's where the arguments, and the package variables that the reading takes, are together of bulk at most 1048576: NARROWER than '..Said'. Prove '..Said' where nothing that the law and all that it calls make is longer than what came in: it says more and counts as full. Else prove '..UptoSaid'. A law counts once. -/
mutual
def uptoBulk {H : Type} : DataW H → Nat
  | .lit (.string bytes) => bytes.length + 1
  | .lit _ => 1
  | .nil => 1
  | .ptr d => uptoBulk d + 1
  | .slice elems spare => uptoBulkAll elems + uptoBulkAll spare + 1
  | .agg parts => uptoBulkAll parts + 1
  | .iface _ d => uptoBulk d + 1
  | .map entries => uptoBulkEntries entries + 1
  | .held _ => 1
def uptoBulkAll {H : Type} : List (DataW H) → Nat
  | [] => 0
  | d :: r => uptoBulk d + uptoBulkAll r
def uptoBulkEntries {H : Type} : List (Lit × DataW H) → Nat
  | [] => 0
  | x :: r => uptoBulkEntry x + uptoBulkEntries r
def uptoBulkEntry {H : Type} : Lit × DataW H → Nat
  | (.string bytes, d) => bytes.length + uptoBulk d + 1
  | (_, d) => uptoBulk d + 1
 end
def uptoSmall : (H : Type) → List (DataW H) → Bool := fun _ ds => decide (uptoBulkAll ds ≤ 1048576)
def OpenSpec.upto (s : _root_.Go.ChangeSpec) : _root_.Go.OpenSpec := { _root_.Go.OpenSpec.ofChange s with cond := some uptoSmall }

/-- 'learnerlaw11.SeparateSets', WHERE WHAT IT READS IS OF BULK AT MOST 1048576: true; the input reads as it did. -/
def separateSetsUptoRow : OpenClaim := { program := "ytlgfempnnijfnaagreat", sum := "980dc6abace089a5c501859b80b9b6da66700be94b6b1c605547d0bd1f5f9684", func := "learner/learnerlaw11.SeparateSets", spec := "separateSets", unfollowed := true, recurses := true, plainKeys := false, apart := false, narrowed := true }
def SeparateSetsUptoSaid : Prop := separateSetsUptoRow.holds Tryz.pinned (OpenSpec.upto separateSetsSpec)

/-- 'learnerlaw11.SeparatePairs', WHERE WHAT IT READS IS OF BULK AT MOST 1048576: true; the input reads as it did. -/
def separatePairsUptoRow : OpenClaim := { program := "ytlgfempnnijfnaagreat", sum := "980dc6abace089a5c501859b80b9b6da66700be94b6b1c605547d0bd1f5f9684", func := "learner/learnerlaw11.SeparatePairs", spec := "separatePairs", unfollowed := true, recurses := true, plainKeys := false, apart := false, narrowed := true }
def SeparatePairsUptoSaid : Prop := separatePairsUptoRow.holds Tryz.pinned (OpenSpec.upto separatePairsSpec)

end Rows
end Go.Proofs.YtlgfempnnijfnaaGreat
