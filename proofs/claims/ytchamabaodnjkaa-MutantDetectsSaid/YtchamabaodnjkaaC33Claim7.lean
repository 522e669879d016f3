/- The survivors of more words are survivors of fewer words, and a word that distinguishes a mutant removes it, for any valid machine of at most 6 states and 3 inputs, and at most 30 words of at most 30 symbols. Condition: none. -/
import Derived.Test.YtchamabaodnjkaaRows
import Derived.WalkKit
import Derived.ProofKit
import Derived.OpenShut
import Derived.Test.YtchamabaodnjkaaIrOk
import Derived.Test.YtchamabaodnjkaaAwake
import Derived.Test.YtchamabaodnjkaaMutK
set_option linter.all false
namespace Go.Proofs.Ytchamabaodnjkaa.mutantDetects
open Go.ChangeShapes Go.WideShapes Go.ChangeAt Go.RowKit
theorem own : ownKnob Try.prog.godebug = none := by kernel_rfl
theorem law : ∀ l, Ab.Ty.hasL [Ab.tyMly, .sl (.sl .int)] l → Ab.noLocs l = true → ∃ σ', Ab.L 7 l [] = some (.bool true, σ') := by
  rintro l ⟨x, s, rfl, h, y, t, rfl, h2, rfl⟩ _
  obtain ⟨m, rfl, hm⟩ := Ab.has_Mly h
  obtain ⟨u, rfl, hu⟩ := Ab.has_II h2
  exact Ab.law_of (f := 7) (Ab.MutantDetects_l Ab.awake m hm u hu)
set_option maxRecDepth 100000 in
theorem lifted (os : Os) (started : os.Started) (H : Type) (enc : TypeId × Value → H) :
    ReturnsInHanded {} Try.checked os 7 .any (Rows.mutantDetectsSpec.pre6 enc Try.prog Try.f7 Rows.mutantDetectsRow.domain false) (Rows.mutantDetectsSpec.post enc Try.prog Try.f7 false true false false) := by
  refine returnsInHanded_of_change (C := Try.checked) own started (by kernel_rfl) Try.func7
    (ChangeSpec.witness6 (enc := enc) (C := Try.checked) false ⟨#[], #[.agg #[.int .i64 0, .int .i64 0, .slice none 0 0, .slice none 0 0], .slice none 0 0], []⟩ 8 (by kernel_rfl) (by kernel_rfl) (by kernel_rfl) (by kernel_rfl)) ?_
  intro W base args ds gs before hval0 hW hcnd _
  have hval : ∀ (j : Nat) t v, Try.f7.params[j]? = some t → args[j]? = some v → Value.okWide Try.prog W .any base t v := hval0
  exact Ab.law_contract Ab.L_ok (f := 7) (fn := Try.f7) (Ts := [Ab.tyMly, .sl (.sl .int)]) (tb := 4) ⟨rfl, fun H ds h => by match ds, h with | [d0, d1], _ => rfl⟩ (by kernel_rfl) (by kernel_rfl) (by kernel_rfl) rfl (by kernel_rfl) hval hW law
theorem over : Rows.mutantDetectsRow.holds Try.pinned (OpenSpec.ofChange Rows.mutantDetectsSpec) :=
  OpenClaim.holds_of_wide 7 Try.f7 rfl rfl rfl rfl rfl rfl rfl ⟨rfl, rfl, rfl, rfl, rfl⟩ rfl rfl rfl rfl rfl (by kernel_rfl) Try.func7 (by kernel_rfl)
    (of_decide_eq_true (by kernel_rfl)) (by unfold Func.isWrapper; first | (rw [if_pos (by decide +kernel)]; kernel_rfl) | (rw [if_neg (by decide +kernel)]; exact ⟨rfl, rfl⟩))
    (fun os started H enc _ => lifted os started H enc)
/-- The statement. -/
theorem proved : Rows.MutantDetectsSaid := over
#print axioms proved
end Go.Proofs.Ytchamabaodnjkaa.mutantDetects
