/- the words of Transitions, and the tour, visit all reachable states and take all of their transitions, for any valid machine of at most 12 states and 6 inputs. Condition: none. -/
import Derived.Test.YtbpkebkldaifgaaRows
import Derived.WalkKit
import Derived.ProofKit
import Derived.OpenShut
import Derived.Test.YtbpkebkldaifgaaIrOk
import Derived.Test.YtbpkebkldaifgaaAwake
import Derived.Test.YtbpkebkldaifgaaC10All
set_option linter.all false
namespace Go.Proofs.Ytbpkebkldaifgaa.coverAll
open Go.ChangeShapes Go.WideShapes Go.ChangeAt Go.RowKit
theorem own : ownKnob Try.prog.godebug = none := by kernel_rfl
theorem law : ∀ l, Ab.Ty.hasL [Ab.tyMly] l → Ab.noLocs l = true → ∃ σ', Ab.L 6 l [] = some (.bool true, σ') := by
  rintro l ⟨x, s, rfl, h, rfl⟩ _
  obtain ⟨m, rfl, hm⟩ := Ab.has_Mly h
  exact Ab.law_of (f := 6) (Ab.CoverAll_l Ab.awake m hm)
set_option maxRecDepth 100000 in
theorem lifted (os : Os) (started : os.Started) (H : Type) (enc : TypeId × Value → H) :
    ReturnsInHanded {} Try.checked os 6 .any (Rows.coverAllSpec.pre6 enc Try.prog Try.f6 Rows.coverAllRow.domain false) (Rows.coverAllSpec.post enc Try.prog Try.f6 false true false false) := by
  refine returnsInHanded_of_change (C := Try.checked) own started (by kernel_rfl) Try.func6
    (ChangeSpec.witness6 (enc := enc) (C := Try.checked) false ⟨#[], #[.agg #[.int .i64 0, .int .i64 0, .slice none 0 0, .slice none 0 0]], []⟩ 8 (by kernel_rfl) (by kernel_rfl) (by kernel_rfl) (by kernel_rfl)) ?_
  intro W base args ds gs before hval0 hW hcnd _
  have hval : ∀ (j : Nat) t v, Try.f6.params[j]? = some t → args[j]? = some v → Value.okWide Try.prog W .any base t v := hval0
  exact Ab.law_contract Ab.L_ok (f := 6) (fn := Try.f6) (Ts := [Ab.tyMly]) (tb := 4) ⟨rfl, fun H ds h => by match ds, h with | [d0], _ => rfl⟩ (by kernel_rfl) (by kernel_rfl) (by kernel_rfl) rfl (by kernel_rfl) hval hW law
theorem over : Rows.coverAllRow.holds Try.pinned (OpenSpec.ofChange Rows.coverAllSpec) :=
  OpenClaim.holds_of_wide 6 Try.f6 rfl rfl rfl rfl rfl rfl rfl ⟨rfl, rfl, rfl, rfl, rfl⟩ rfl rfl rfl rfl rfl (by kernel_rfl) Try.func6 (by kernel_rfl)
    (of_decide_eq_true (by kernel_rfl)) (by unfold Func.isWrapper; first | (rw [if_pos (by decide +kernel)]; kernel_rfl) | (rw [if_neg (by decide +kernel)]; exact ⟨rfl, rfl⟩))
    (fun os started H enc _ => lifted os started H enc)
/-- The statement. -/
theorem proved : Rows.CoverAllSaid := over
#print axioms proved
end Go.Proofs.Ytbpkebkldaifgaa.coverAll
