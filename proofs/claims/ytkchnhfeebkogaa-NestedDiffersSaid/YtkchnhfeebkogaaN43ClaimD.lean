/- The first word that distinguishes two nested automata is the one of the document. Condition: none. -/
import Derived.Test.YtkchnhfeebkogaaRows
import Derived.Test.YtkchnhfeebkogaaIrOk
import Derived.Test.YtkchnhfeebkogaaAwake
import Derived.Test.YtkchnhfeebkogaaN43Dj
import Derived.WalkKit
import Derived.ProofKit
import Derived.OpenShut
set_option linter.all false
namespace Go.Proofs.Ytkchnhfeebkogaa.nestedDiffers
open Go.ChangeShapes Go.WideShapes Go.ChangeAt Go.RowKit
theorem own : ownKnob Try.prog.godebug = none := by kernel_rfl
theorem law : ∀ l, Ab.Ty.hasL [Ab.tyNst, Ab.tyNst] l → Ab.noLocs l = true → ∃ σ', Ab.L 4 l [] = some (.bool true, σ') := by
  rintro l ⟨x, s, rfl, h, y, s, rfl, h', rfl⟩ _
  obtain ⟨a, rfl, ha⟩ := Ab.has_Nst h
  obtain ⟨b, rfl, hb⟩ := Ab.has_Nst h'
  exact Ab.law_of (f := 4) (Ab.zGGQ Ab.awake a b ha hb)
set_option maxRecDepth 100000 in
theorem lifted (os : Os) (started : os.Started) (H : Type) (enc : TypeId × Value → H) :
    ReturnsInHanded {} Try.checked os 4 .any (Rows.nestedDiffersSpec.pre6 enc Try.prog Try.f4 Rows.nestedDiffersRow.domain false) (Rows.nestedDiffersSpec.post enc Try.prog Try.f4 false true false false) := by
  refine returnsInHanded_of_change (C := Try.checked) own started (by kernel_rfl) Try.func4
    (ChangeSpec.witness6 (enc := enc) (C := Try.checked) false ⟨#[], #[.agg #[.int .i64 0, .int .i64 0, .int .i64 0, .int .i64 0, .int .i64 0, .slice none 0 0, .slice none 0 0, .slice none 0 0, .slice none 0 0, .slice none 0 0], .agg #[.int .i64 0, .int .i64 0, .int .i64 0, .int .i64 0, .int .i64 0, .slice none 0 0, .slice none 0 0, .slice none 0 0, .slice none 0 0, .slice none 0 0]], []⟩ 8 (by kernel_rfl) (by kernel_rfl) (by kernel_rfl) (by kernel_rfl)) ?_
  intro W base args ds gs before hval0 hW hcnd _
  have hval : ∀ (j : Nat) t v, Try.f4.params[j]? = some t → args[j]? = some v → Value.okWide Try.prog W .any base t v := hval0
  exact Ab.law_contract Ab.L_ok (f := 4) (fn := Try.f4) (Ts := [Ab.tyNst, Ab.tyNst]) (tb := 4) ⟨rfl, fun H ds h => by match ds, h with | [d0, d1], _ => rfl⟩ (by kernel_rfl) (by kernel_rfl) (by kernel_rfl) rfl (by kernel_rfl) hval hW law
theorem over : Rows.nestedDiffersRow.holds Try.pinned (OpenSpec.ofChange Rows.nestedDiffersSpec) :=
  OpenClaim.holds_of_wide 4 Try.f4 rfl rfl rfl rfl rfl rfl rfl ⟨rfl, rfl, rfl, rfl, rfl⟩ rfl rfl rfl rfl rfl (by kernel_rfl) Try.func4 (by kernel_rfl)
    (of_decide_eq_true (by kernel_rfl)) (by unfold Func.isWrapper; first | (rw [if_pos (by decide +kernel)]; kernel_rfl) | (rw [if_neg (by decide +kernel)]; exact ⟨rfl, rfl⟩))
    (fun os started H enc _ => lifted os started H enc)
theorem proved : Rows.NestedDiffersSaid := over
#print axioms proved
end Go.Proofs.Ytkchnhfeebkogaa.nestedDiffers
