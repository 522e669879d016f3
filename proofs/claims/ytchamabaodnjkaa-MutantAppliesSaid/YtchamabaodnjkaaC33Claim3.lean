/- Apply agrees with the document, for any machine of at most 12 states and 6 inputs, and any mutation. Condition: none. -/
import Derived.Test.YtchamabaodnjkaaRows
import Derived.WalkKit
import Derived.ProofKit
import Derived.OpenShut
import Derived.Test.YtchamabaodnjkaaIrOk
import Derived.Test.YtchamabaodnjkaaAwake
import Derived.Test.YtchamabaodnjkaaC33Applies
set_option linter.all false
namespace Go.Proofs.Ytchamabaodnjkaa.mutantApplies
open Go.ChangeShapes Go.WideShapes Go.ChangeAt Go.RowKit
theorem own : ownKnob Try.prog.godebug = none := by kernel_rfl
theorem law : ∀ l, Ab.Ty.hasL [Ab.tyMly, Ab.tyMut] l → Ab.noLocs l = true → ∃ σ', Ab.L 3 l [] = some (.bool true, σ') := by
  rintro l ⟨x, s, rfl, h, y, t, rfl, h2, rfl⟩ _
  obtain ⟨m, rfl, hm⟩ := Ab.has_Mly h
  obtain ⟨u, rfl⟩ := Ab.has_Mut h2
  exact Ab.law_of (f := 3) (Ab.MutantApplies_l Ab.awake m hm u)
set_option maxRecDepth 100000 in
theorem lifted (os : Os) (started : os.Started) (H : Type) (enc : TypeId × Value → H) :
    ReturnsInHanded {} Try.checked os 3 .any (Rows.mutantAppliesSpec.pre6 enc Try.prog Try.f3 Rows.mutantAppliesRow.domain false) (Rows.mutantAppliesSpec.post enc Try.prog Try.f3 false true false false) := by
  refine returnsInHanded_of_change (C := Try.checked) own started (by kernel_rfl) Try.func3
    (ChangeSpec.witness6 (enc := enc) (C := Try.checked) false ⟨#[], #[.agg #[.int .i64 0, .int .i64 0, .slice none 0 0, .slice none 0 0], .agg #[.int .i64 0, .int .i64 0, .int .i64 0, .int .i64 0, .int .i64 0]], []⟩ 8 (by kernel_rfl) (by kernel_rfl) (by kernel_rfl) (by kernel_rfl)) ?_
  intro W base args ds gs before hval0 hW hcnd _
  have hval : ∀ (j : Nat) t v, Try.f3.params[j]? = some t → args[j]? = some v → Value.okWide Try.prog W .any base t v := hval0
  exact Ab.law_contract Ab.L_ok (f := 3) (fn := Try.f3) (Ts := [Ab.tyMly, Ab.tyMut]) (tb := 4) ⟨rfl, fun H ds h => by match ds, h with | [d0, d1], _ => rfl⟩ (by kernel_rfl) (by kernel_rfl) (by kernel_rfl) rfl (by kernel_rfl) hval hW law
theorem over : Rows.mutantAppliesRow.holds Try.pinned (OpenSpec.ofChange Rows.mutantAppliesSpec) :=
  OpenClaim.holds_of_wide 3 Try.f3 rfl rfl rfl rfl rfl rfl rfl ⟨rfl, rfl, rfl, rfl, rfl⟩ rfl rfl rfl rfl rfl (by kernel_rfl) Try.func3 (by kernel_rfl)
    (of_decide_eq_true (by kernel_rfl)) (by unfold Func.isWrapper; first | (rw [if_pos (by decide +kernel)]; kernel_rfl) | (rw [if_neg (by decide +kernel)]; exact ⟨rfl, rfl⟩))
    (fun os started H enc _ => lifted os started H enc)
/-- The statement. -/
theorem proved : Rows.MutantAppliesSaid := over
#print axioms proved
end Go.Proofs.Ytchamabaodnjkaa.mutantApplies
