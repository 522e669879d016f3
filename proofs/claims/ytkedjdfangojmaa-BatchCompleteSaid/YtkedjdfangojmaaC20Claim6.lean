/- After the planned words were answered by a machine, all queries are answered; no planned word was answered before, or is a prefix of another one, for machines of at most 12 states and 6 inputs, at most 20 words and queries of at most 20 symbols. Condition: none. -/
import Derived.Test.YtkedjdfangojmaaRows
import Derived.WalkKit
import Derived.ProofKit
import Derived.OpenShut
import Derived.Test.YtkedjdfangojmaaIrOk
import Derived.Test.YtkedjdfangojmaaAwake
import Derived.Test.YtkedjdfangojmaaCompL
set_option linter.all false
namespace Go.Proofs.Ytkedjdfangojmaa.batchComplete
open Go.ChangeShapes Go.WideShapes Go.ChangeAt Go.RowKit
theorem own : ownKnob Try.prog.godebug = none := by kernel_rfl
theorem law : ∀ l, Ab.Ty.hasL [Ab.tyMly, .sl (.sl .int), .sl (.sl .int)] l → Ab.noLocs l = true → ∃ σ', Ab.L 6 l [] = some (.bool true, σ') := by
  rintro l ⟨x, s, rfl, h, y, s, rfl, h', z, s, rfl, h'', rfl⟩ _
  obtain ⟨m, rfl, hm⟩ := Ab.has_Mly h
  obtain ⟨ks, rfl, hks⟩ := Ab.has_II h'
  obtain ⟨qs, rfl, hqs⟩ := Ab.has_II h''
  exact Ab.law_of (f := 6) (Ab.BatchComplete_l Ab.awake m hm ks hks qs hqs)
set_option maxRecDepth 100000 in
theorem lifted (os : Os) (started : os.Started) (H : Type) (enc : TypeId × Value → H) :
    ReturnsInHanded {} Try.checked os 6 .any (Rows.batchCompleteSpec.pre6 enc Try.prog Try.f6 Rows.batchCompleteRow.domain false) (Rows.batchCompleteSpec.post enc Try.prog Try.f6 false true false false) := by
  refine returnsInHanded_of_change (C := Try.checked) own started (by kernel_rfl) Try.func6
    (ChangeSpec.witness6 (enc := enc) (C := Try.checked) false ⟨#[], #[.agg #[.int .i64 0, .int .i64 0, .slice none 0 0, .slice none 0 0], .slice none 0 0, .slice none 0 0], []⟩ 8 (by kernel_rfl) (by kernel_rfl) (by kernel_rfl) (by kernel_rfl)) ?_
  intro W base args ds gs before hval0 hW hcnd _
  have hval : ∀ (j : Nat) t v, Try.f6.params[j]? = some t → args[j]? = some v → Value.okWide Try.prog W .any base t v := hval0
  exact Ab.law_contract Ab.L_ok (f := 6) (fn := Try.f6) (Ts := [Ab.tyMly, .sl (.sl .int), .sl (.sl .int)]) (tb := 4) ⟨rfl, fun H ds h => by match ds, h with | [d0, d1, d2], _ => rfl⟩ (by kernel_rfl) (by kernel_rfl) (by kernel_rfl) rfl (by kernel_rfl) hval hW law
theorem over : Rows.batchCompleteRow.holds Try.pinned (OpenSpec.ofChange Rows.batchCompleteSpec) :=
  OpenClaim.holds_of_wide 6 Try.f6 rfl rfl rfl rfl rfl rfl rfl ⟨rfl, rfl, rfl, rfl, rfl⟩ rfl rfl rfl rfl rfl (by kernel_rfl) Try.func6 (by kernel_rfl)
    (of_decide_eq_true (by kernel_rfl)) (by unfold Func.isWrapper; first | (rw [if_pos (by decide +kernel)]; kernel_rfl) | (rw [if_neg (by decide +kernel)]; exact ⟨rfl, rfl⟩))
    (fun os started H enc _ => lifted os started H enc)
/-- The statement. -/
theorem proved : Rows.BatchCompleteSaid := over
#print axioms proved
end Go.Proofs.Ytkedjdfangojmaa.batchComplete
