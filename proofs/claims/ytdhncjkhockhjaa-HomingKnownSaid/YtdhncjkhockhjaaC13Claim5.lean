/- After the homing word, and any word behind it, the state is known from the outputs, for any minimal machine of at most 8 states and 4 inputs, any state, and any word of at most 60 symbols. Condition: none. -/
import Derived.Test.YtdhncjkhockhjaaRows
import Derived.Test.YtdhncjkhockhjaaIrOk
import Derived.Test.YtdhncjkhockhjaaC13Known
import Derived.WalkKit
import Derived.ProofKit
import Derived.OpenShut
set_option linter.all false
namespace Go.Proofs.Ytdhncjkhockhjaa.homingKnown
open Go.ChangeShapes Go.WideShapes Go.ChangeAt Go.RowKit
theorem own : ownKnob Try.prog.godebug = none := by kernel_rfl
theorem law : ∀ l, Ab.Ty.hasL [Ab.tyMly, .ik 4, .sl .int] l → Ab.noLocs l = true → ∃ σ', Ab.L 5 l [] = some (.bool true, σ') := by
  rintro l ⟨x, s, rfl, h, y, s, rfl, h2, z, s, rfl, h3, rfl⟩ _
  obtain ⟨m, rfl, hm⟩ := Ab.has_Mly h
  obtain ⟨n, rfl, hn⟩ := h2
  obtain ⟨w, rfl, hw⟩ := Ab.has_I h3
  have hn : (0 : Int) ≤ n ∧ n ≤ 255 := by
    have : (decide ((0 : Int) ≤ n) && decide (n ≤ 255)) = true := hn
    simpa using this
  exact Ab.law_of (f := 5) (Ab.HomingKnown_l Ab.awake m hm 4 n hn.1 (by omega) w hw.1)
set_option maxRecDepth 100000 in
theorem lifted (os : Os) (started : os.Started) (H : Type) (enc : TypeId × Value → H) :
    ReturnsInHanded {} Try.checked os 5 .any (Rows.homingKnownSpec.pre6 enc Try.prog Try.f5 Rows.homingKnownRow.domain false) (Rows.homingKnownSpec.post enc Try.prog Try.f5 false true false false) := by
  refine returnsInHanded_of_change (C := Try.checked) own started (by kernel_rfl) Try.func5
    (ChangeSpec.witness6 (enc := enc) (C := Try.checked) false ⟨#[], #[.agg #[.int .i64 0, .int .i64 0, .slice none 0 0, .slice none 0 0], .int .u8 0, .slice none 0 0], []⟩ 8 (by kernel_rfl) (by kernel_rfl) (by kernel_rfl) (by kernel_rfl)) ?_
  intro W base args ds gs before hval0 hW hcnd _
  have hval : ∀ (j : Nat) t v, Try.f5.params[j]? = some t → args[j]? = some v → Value.okWide Try.prog W .any base t v := hval0
  exact Ab.law_contract Ab.L_ok (f := 5) (fn := Try.f5) (Ts := [Ab.tyMly, .ik 4, .sl .int]) (tb := 4) ⟨rfl, fun H ds h => by match ds, h with | [d0, d1, d2], _ => rfl⟩ (by kernel_rfl) (by kernel_rfl) (by kernel_rfl) rfl (by kernel_rfl) hval hW law
theorem over : Rows.homingKnownRow.holds Try.pinned (OpenSpec.ofChange Rows.homingKnownSpec) :=
  OpenClaim.holds_of_wide 5 Try.f5 rfl rfl rfl rfl rfl rfl rfl ⟨rfl, rfl, rfl, rfl, rfl⟩ rfl rfl rfl rfl rfl (by kernel_rfl) Try.func5 (by kernel_rfl)
    (of_decide_eq_true (by kernel_rfl)) (by unfold Func.isWrapper; first | (rw [if_pos (by decide +kernel)]; kernel_rfl) | (rw [if_neg (by decide +kernel)]; exact ⟨rfl, rfl⟩))
    (fun os started H enc _ => lifted os started H enc)
/-- The statement. -/
theorem proved : Rows.HomingKnownSaid := over
#print axioms proved
end Go.Proofs.Ytdhncjkhockhjaa.homingKnown
