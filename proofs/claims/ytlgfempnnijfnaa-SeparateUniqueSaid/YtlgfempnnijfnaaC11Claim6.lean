/- The unique input-output word of a state is unique, and no word before it is, for any minimal machine of at most 8 states and 4 inputs, any state, and any word. Condition: none. -/
import Derived.Test.YtlgfempnnijfnaaRows
import Derived.Test.YtlgfempnnijfnaaIrOk
import Derived.Test.YtlgfempnnijfnaaC11Unique
import Derived.WalkKit
import Derived.ProofKit
import Derived.OpenShut
set_option linter.all false
namespace Go.Proofs.Ytlgfempnnijfnaa.separateUnique
open Go.ChangeShapes Go.WideShapes Go.ChangeAt Go.RowKit
theorem own : ownKnob Try.prog.godebug = none := by kernel_rfl
theorem law : ∀ l, Ab.Ty.hasL [Ab.tyMly, .ik 4, .sl .int] l → Ab.noLocs l = true → ∃ σ', Ab.L 6 l [] = some (.bool true, σ') := by
  rintro l ⟨x, s, rfl, h, y, s, rfl, h2, z, s, rfl, h3, rfl⟩ _
  obtain ⟨m, rfl, hm⟩ := Ab.has_Mly h
  obtain ⟨n, rfl, hn⟩ := h2
  obtain ⟨w, rfl, hw⟩ := Ab.has_I h3
  have hn : (0 : Int) ≤ n ∧ n ≤ 255 := by
    have : (decide ((0 : Int) ≤ n) && decide (n ≤ 255)) = true := hn
    simpa using this
  exact Ab.law_of (f := 6) (Ab.zpI1 Ab.awake m hm 4 n ⟨hn.1, by omega⟩ w hw.1)
set_option maxRecDepth 100000 in
theorem lifted (os : Os) (started : os.Started) (H : Type) (enc : TypeId × Value → H) :
    ReturnsInHanded {} Try.checked os 6 .any (Rows.separateUniqueSpec.pre6 enc Try.prog Try.f6 Rows.separateUniqueRow.domain false) (Rows.separateUniqueSpec.post enc Try.prog Try.f6 false true false false) := by
  refine returnsInHanded_of_change (C := Try.checked) own started (by kernel_rfl) Try.func6
    (ChangeSpec.witness6 (enc := enc) (C := Try.checked) false ⟨#[], #[.agg #[.int .i64 0, .int .i64 0, .slice none 0 0, .slice none 0 0], .int .u8 0, .slice none 0 0], []⟩ 8 (by kernel_rfl) (by kernel_rfl) (by kernel_rfl) (by kernel_rfl)) ?_
  intro W base args ds gs before hval0 hW hcnd _
  have hval : ∀ (j : Nat) t v, Try.f6.params[j]? = some t → args[j]? = some v → Value.okWide Try.prog W .any base t v := hval0
  exact Ab.law_contract Ab.L_ok (f := 6) (fn := Try.f6) (Ts := [Ab.tyMly, .ik 4, .sl .int]) (tb := 4) ⟨rfl, fun H ds h => by match ds, h with | [d0, d1, d2], _ => rfl⟩ (by kernel_rfl) (by kernel_rfl) (by kernel_rfl) rfl (by kernel_rfl) hval hW law
theorem over : Rows.separateUniqueRow.holds Try.pinned (OpenSpec.ofChange Rows.separateUniqueSpec) :=
  OpenClaim.holds_of_wide 6 Try.f6 rfl rfl rfl rfl rfl rfl rfl ⟨rfl, rfl, rfl, rfl, rfl⟩ rfl rfl rfl rfl rfl (by kernel_rfl) Try.func6 (by kernel_rfl)
    (of_decide_eq_true (by kernel_rfl)) (by unfold Func.isWrapper; first | (rw [if_pos (by decide +kernel)]; kernel_rfl) | (rw [if_neg (by decide +kernel)]; exact ⟨rfl, rfl⟩))
    (fun os started H enc _ => lifted os started H enc)
theorem proved : Rows.SeparateUniqueSaid := over
#print axioms proved
end Go.Proofs.Ytlgfempnnijfnaa.separateUnique
