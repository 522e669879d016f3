/- The first nested word is in the language, and no word of the language comes before it. Condition: none. -/
import Derived.Test.YtkchnhfeebkogaaRows
import Derived.Test.YtkchnhfeebkogaaIrOk
import Derived.Test.YtkchnhfeebkogaaAwake
import Derived.Test.YtkchnhfeebkogaaN43Na
import Derived.WalkKit
import Derived.ProofKit
import Derived.OpenShut
set_option linter.all false
namespace Go.Proofs.Ytkchnhfeebkogaa.nestedFirst
open Go.ChangeShapes Go.WideShapes Go.ChangeAt Go.RowKit
theorem own : ownKnob Try.prog.godebug = none := by kernel_rfl
theorem law : ∀ l, Ab.Ty.hasL [Ab.tyNst, .sl .int] l → Ab.noLocs l = true → ∃ σ', Ab.L 5 l [] = some (.bool true, σ') := by
  rintro l ⟨x, s, rfl, h, y, s, rfl, h', rfl⟩ _
  obtain ⟨n, rfl, hn⟩ := Ab.has_Nst h
  obtain ⟨w, rfl, hw⟩ := Ab.has_I h'
  exact Ab.law_of (f := 5) (Ab.zpMX Ab.awake n hn w hw.1)
set_option maxRecDepth 100000 in
theorem lifted (os : Os) (started : os.Started) (H : Type) (enc : TypeId × Value → H) :
    ReturnsInHanded {} Try.checked os 5 .any (Rows.nestedFirstSpec.pre6 enc Try.prog Try.f5 Rows.nestedFirstRow.domain false) (Rows.nestedFirstSpec.post enc Try.prog Try.f5 false true false false) := by
  refine returnsInHanded_of_change (C := Try.checked) own started (by kernel_rfl) Try.func5
    (ChangeSpec.witness6 (enc := enc) (C := Try.checked) false ⟨#[], #[.agg #[.int .i64 0, .int .i64 0, .int .i64 0, .int .i64 0, .int .i64 0, .slice none 0 0, .slice none 0 0, .slice none 0 0, .slice none 0 0, .slice none 0 0], .slice none 0 0], []⟩ 8 (by kernel_rfl) (by kernel_rfl) (by kernel_rfl) (by kernel_rfl)) ?_
  intro W base args ds gs before hval0 hW hcnd _
  have hval : ∀ (j : Nat) t v, Try.f5.params[j]? = some t → args[j]? = some v → Value.okWide Try.prog W .any base t v := hval0
  exact Ab.law_contract Ab.L_ok (f := 5) (fn := Try.f5) (Ts := [Ab.tyNst, .sl .int]) (tb := 4) ⟨rfl, fun H ds h => by match ds, h with | [d0, d1], _ => rfl⟩ (by kernel_rfl) (by kernel_rfl) (by kernel_rfl) rfl (by kernel_rfl) hval hW law
theorem over : Rows.nestedFirstRow.holds Try.pinned (OpenSpec.ofChange Rows.nestedFirstSpec) :=
  OpenClaim.holds_of_wide 5 Try.f5 rfl rfl rfl rfl rfl rfl rfl ⟨rfl, rfl, rfl, rfl, rfl⟩ rfl rfl rfl rfl rfl (by kernel_rfl) Try.func5 (by kernel_rfl)
    (of_decide_eq_true (by kernel_rfl)) (by unfold Func.isWrapper; first | (rw [if_pos (by decide +kernel)]; kernel_rfl) | (rw [if_neg (by decide +kernel)]; exact ⟨rfl, rfl⟩))
    (fun os started H enc _ => lifted os started H enc)
theorem proved : Rows.NestedFirstSaid := over
#print axioms proved
end Go.Proofs.Ytkchnhfeebkogaa.nestedFirst
