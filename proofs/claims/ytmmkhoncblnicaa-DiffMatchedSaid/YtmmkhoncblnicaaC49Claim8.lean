/- Match of equivalent minimal machines is their isomorphism, with which no transition is moved. Condition: none. -/
import Derived.Test.YtmmkhoncblnicaaRows
import Derived.Test.YtmmkhoncblnicaaIrOk
import Derived.Test.YtmmkhoncblnicaaAwake
import Derived.Test.YtmmkhoncblnicaaDifQ
import Derived.WalkKit
import Derived.ProofKit
import Derived.OpenShut
set_option linter.all false
namespace Go.Proofs.Ytmmkhoncblnicaa.diffMatched
open Go.ChangeShapes Go.WideShapes Go.ChangeAt Go.RowKit
theorem own : ownKnob Try.prog.godebug = none := by kernel_rfl
theorem law : ∀ l, Ab.Ty.hasL [Ab.tyMly, Ab.tyMly] l → Ab.noLocs l = true → ∃ σ', Ab.L 8 l [] = some (.bool true, σ') := by
  rintro l ⟨x, s, rfl, h, y, s, rfl, h', rfl⟩ _
  obtain ⟨m, rfl, hm⟩ := Ab.has_Mly h
  obtain ⟨n, rfl, hn⟩ := Ab.has_Mly h'
  exact Ab.law_of (f := 8) (Ab.DiffMatched_l Ab.awake m n hm hn)
set_option maxRecDepth 100000 in
theorem lifted (os : Os) (started : os.Started) (H : Type) (enc : TypeId × Value → H) :
    ReturnsInHanded {} Try.checked os 8 .any (Rows.diffMatchedSpec.pre6 enc Try.prog Try.f8 Rows.diffMatchedRow.domain false) (Rows.diffMatchedSpec.post enc Try.prog Try.f8 false true false false) := by
  refine returnsInHanded_of_change (C := Try.checked) own started (by kernel_rfl) Try.func8
    (ChangeSpec.witness6 (enc := enc) (C := Try.checked) false ⟨#[], #[.agg #[.int .i64 0, .int .i64 0, .slice none 0 0, .slice none 0 0], .agg #[.int .i64 0, .int .i64 0, .slice none 0 0, .slice none 0 0]], []⟩ 8 (by kernel_rfl) (by kernel_rfl) (by kernel_rfl) (by kernel_rfl)) ?_
  intro W base args ds gs before hval0 hW hcnd _
  have hval : ∀ (j : Nat) t v, Try.f8.params[j]? = some t → args[j]? = some v → Value.okWide Try.prog W .any base t v := hval0
  exact Ab.law_contract Ab.L_ok (f := 8) (fn := Try.f8) (Ts := [Ab.tyMly, Ab.tyMly]) (tb := 4) ⟨rfl, fun H ds h => by match ds, h with | [d0, d1], _ => rfl⟩ (by kernel_rfl) (by kernel_rfl) (by kernel_rfl) rfl (by kernel_rfl) hval hW law
theorem over : Rows.diffMatchedRow.holds Try.pinned (OpenSpec.ofChange Rows.diffMatchedSpec) :=
  OpenClaim.holds_of_wide 8 Try.f8 rfl rfl rfl rfl rfl rfl rfl ⟨rfl, rfl, rfl, rfl, rfl⟩ rfl rfl rfl rfl rfl (by kernel_rfl) Try.func8 (by kernel_rfl)
    (of_decide_eq_true (by kernel_rfl)) (by unfold Func.isWrapper; first | (rw [if_pos (by decide +kernel)]; kernel_rfl) | (rw [if_neg (by decide +kernel)]; exact ⟨rfl, rfl⟩))
    (fun os started H enc _ => lifted os started H enc)
/-- The statement. -/
theorem proved : Rows.DiffMatchedSaid := over
#print axioms proved
end Go.Proofs.Ytmmkhoncblnicaa.diffMatched
