/- The word that Differ gives separates the two, and no word that separates them comes before it. Condition: none. -/
import Derived.Test.YtkchnhfeebkogaaRows
import Derived.Test.YtkchnhfeebkogaaIrOk
import Derived.Test.YtkchnhfeebkogaaAwake
import Derived.Test.YtkchnhfeebkogaaN43Na
import Derived.WalkKit
import Derived.ProofKit
import Derived.OpenShut
set_option linter.all false
namespace Go.Proofs.Ytkchnhfeebkogaa.nestedApart
open Go.ChangeShapes Go.WideShapes Go.ChangeAt Go.RowKit
theorem own : ownKnob Try.prog.godebug = none := by kernel_rfl
theorem law : ∀ l, Ab.Ty.hasL [Ab.tyNst, Ab.tyNst, .sl .int] l → Ab.noLocs l = true → ∃ σ', Ab.L 6 l [] = some (.bool true, σ') := by
  rintro l ⟨x, s, rfl, h, y, s, rfl, h', z, s, rfl, h2, rfl⟩ _
  obtain ⟨a, rfl, ha⟩ := Ab.has_Nst h
  obtain ⟨b, rfl, hb⟩ := Ab.has_Nst h'
  obtain ⟨w, rfl, hw⟩ := Ab.has_I h2
  exact Ab.law_of (f := 6) (Ab.zdin Ab.awake a b ha hb w hw.1)
set_option maxRecDepth 100000 in
theorem lifted (os : Os) (started : os.Started) (H : Type) (enc : TypeId × Value → H) :
    ReturnsInHanded {} Try.checked os 6 .any (Rows.nestedApartSpec.pre6 enc Try.prog Try.f6 Rows.nestedApartRow.domain false) (Rows.nestedApartSpec.post enc Try.prog Try.f6 false true false false) := by
  refine returnsInHanded_of_change (C := Try.checked) own started (by kernel_rfl) Try.func6
    (ChangeSpec.witness6 (enc := enc) (C := Try.checked) false ⟨#[], #[.agg #[.int .i64 0, .int .i64 0, .int .i64 0, .int .i64 0, .int .i64 0, .slice none 0 0, .slice none 0 0, .slice none 0 0, .slice none 0 0, .slice none 0 0], .agg #[.int .i64 0, .int .i64 0, .int .i64 0, .int .i64 0, .int .i64 0, .slice none 0 0, .slice none 0 0, .slice none 0 0, .slice none 0 0, .slice none 0 0], .slice none 0 0], []⟩ 8 (by kernel_rfl) (by kernel_rfl) (by kernel_rfl) (by kernel_rfl)) ?_
  intro W base args ds gs before hval0 hW hcnd _
  have hval : ∀ (j : Nat) t v, Try.f6.params[j]? = some t → args[j]? = some v → Value.okWide Try.prog W .any base t v := hval0
  exact Ab.law_contract Ab.L_ok (f := 6) (fn := Try.f6) (Ts := [Ab.tyNst, Ab.tyNst, .sl .int]) (tb := 4) ⟨rfl, fun H ds h => by match ds, h with | [d0, d1, d2], _ => rfl⟩ (by kernel_rfl) (by kernel_rfl) (by kernel_rfl) rfl (by kernel_rfl) hval hW law
theorem over : Rows.nestedApartRow.holds Try.pinned (OpenSpec.ofChange Rows.nestedApartSpec) :=
  OpenClaim.holds_of_wide 6 Try.f6 rfl rfl rfl rfl rfl rfl rfl ⟨rfl, rfl, rfl, rfl, rfl⟩ rfl rfl rfl rfl rfl (by kernel_rfl) Try.func6 (by kernel_rfl)
    (of_decide_eq_true (by kernel_rfl)) (by unfold Func.isWrapper; first | (rw [if_pos (by decide +kernel)]; kernel_rfl) | (rw [if_neg (by decide +kernel)]; exact ⟨rfl, rfl⟩))
    (fun os started H enc _ => lifted os started H enc)
theorem proved : Rows.NestedApartSaid := over
#print axioms proved
end Go.Proofs.Ytkchnhfeebkogaa.nestedApart
