/- The machine of a mutation of All is valid and differs in one transition, and in one more state for a copy, for any valid machine of at most 8 states and 4 inputs, and a number of a mutation. Condition: none. -/
import Derived.Test.YtchamabaodnjkaaRows
import Derived.WalkKit
import Derived.ProofKit
import Derived.OpenShut
import Derived.Test.YtchamabaodnjkaaIrOk
import Derived.Test.YtchamabaodnjkaaAwake
import Derived.Test.YtchamabaodnjkaaMutJ
set_option linter.all false
namespace Go.Proofs.Ytchamabaodnjkaa.mutantDiffers
open Go.ChangeShapes Go.WideShapes Go.ChangeAt Go.RowKit
theorem own : ownKnob Try.prog.godebug = none := by kernel_rfl
theorem law : ∀ l, Ab.Ty.hasL [Ab.tyMly, .ik 5] l → Ab.noLocs l = true → ∃ σ', Ab.L 6 l [] = some (.bool true, σ') := by
  rintro l ⟨x, s, rfl, h, y, t, rfl, h2, rfl⟩ _
  obtain ⟨m, rfl, hm⟩ := Ab.has_Mly h
  obtain ⟨n, rfl, hn⟩ := h2
  have hn : (0 : Int) ≤ n ∧ n ≤ 65535 := by
    have : (decide ((0 : Int) ≤ n) && decide (n ≤ 65535)) = true := hn
    simpa using this
  exact Ab.law_of (f := 6) (Ab.MutantDiffers_l Ab.awake m hm 5 n hn.1 hn.2)
set_option maxRecDepth 100000 in
theorem lifted (os : Os) (started : os.Started) (H : Type) (enc : TypeId × Value → H) :
    ReturnsInHanded {} Try.checked os 6 .any (Rows.mutantDiffersSpec.pre6 enc Try.prog Try.f6 Rows.mutantDiffersRow.domain false) (Rows.mutantDiffersSpec.post enc Try.prog Try.f6 false true false false) := by
  refine returnsInHanded_of_change (C := Try.checked) own started (by kernel_rfl) Try.func6
    (ChangeSpec.witness6 (enc := enc) (C := Try.checked) false ⟨#[], #[.agg #[.int .i64 0, .int .i64 0, .slice none 0 0, .slice none 0 0], .int .u16 0], []⟩ 8 (by kernel_rfl) (by kernel_rfl) (by kernel_rfl) (by kernel_rfl)) ?_
  intro W base args ds gs before hval0 hW hcnd _
  have hval : ∀ (j : Nat) t v, Try.f6.params[j]? = some t → args[j]? = some v → Value.okWide Try.prog W .any base t v := hval0
  exact Ab.law_contract Ab.L_ok (f := 6) (fn := Try.f6) (Ts := [Ab.tyMly, .ik 5]) (tb := 4) ⟨rfl, fun H ds h => by match ds, h with | [d0, d1], _ => rfl⟩ (by kernel_rfl) (by kernel_rfl) (by kernel_rfl) rfl (by kernel_rfl) hval hW law
theorem over : Rows.mutantDiffersRow.holds Try.pinned (OpenSpec.ofChange Rows.mutantDiffersSpec) :=
  OpenClaim.holds_of_wide 6 Try.f6 rfl rfl rfl rfl rfl rfl rfl ⟨rfl, rfl, rfl, rfl, rfl⟩ rfl rfl rfl rfl rfl (by kernel_rfl) Try.func6 (by kernel_rfl)
    (of_decide_eq_true (by kernel_rfl)) (by unfold Func.isWrapper; first | (rw [if_pos (by decide +kernel)]; kernel_rfl) | (rw [if_neg (by decide +kernel)]; exact ⟨rfl, rfl⟩))
    (fun os started H enc _ => lifted os started H enc)
/-- The statement. -/
theorem proved : Rows.MutantDiffersSaid := over
#print axioms proved
end Go.Proofs.Ytchamabaodnjkaa.mutantDiffers
