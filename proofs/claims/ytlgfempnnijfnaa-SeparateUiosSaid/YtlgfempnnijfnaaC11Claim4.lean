/- Uio agrees with the reference, for any machine of at most 8 states and 4 inputs, and any numbers. Condition: none. -/
import Derived.Test.YtlgfempnnijfnaaRows
import Derived.Test.YtlgfempnnijfnaaIrOk
import Derived.Test.YtlgfempnnijfnaaC11Unique
import Derived.Test.YtlgfempnnijfnaaC11Shortest
import Derived.WalkKit
import Derived.ProofKit
import Derived.OpenShut
set_option linter.all false
namespace Go.Proofs.Ytlgfempnnijfnaa.separateUios
open Go.ChangeShapes Go.WideShapes Go.ChangeAt Go.RowKit
theorem own : ownKnob Try.prog.godebug = none := by kernel_rfl
theorem law : ∀ l, Ab.Ty.hasL [Ab.tyMly, .int, .int] l → Ab.noLocs l = true → ∃ σ', Ab.L 4 l [] = some (.bool true, σ') := by
  rintro l ⟨x, s, rfl, h, y, s, rfl, h2, z, s, rfl, h3, rfl⟩ _
  obtain ⟨m, rfl, hm⟩ := Ab.has_Mly h
  obtain ⟨n, rfl, hn⟩ := h2
  obtain ⟨k, rfl, hk⟩ := h3
  exact Ab.law_of (f := 4) (Ab.zutH Ab.awake m hm n k)
set_option maxRecDepth 100000 in
theorem lifted (os : Os) (started : os.Started) (H : Type) (enc : TypeId × Value → H) :
    ReturnsInHanded {} Try.checked os 4 .any (Rows.separateUiosSpec.pre6 enc Try.prog Try.f4 Rows.separateUiosRow.domain false) (Rows.separateUiosSpec.post enc Try.prog Try.f4 false true false false) := by
  refine returnsInHanded_of_change (C := Try.checked) own started (by kernel_rfl) Try.func4
    (ChangeSpec.witness6 (enc := enc) (C := Try.checked) false ⟨#[], #[.agg #[.int .i64 0, .int .i64 0, .slice none 0 0, .slice none 0 0], .int .i64 0, .int .i64 0], []⟩ 8 (by kernel_rfl) (by kernel_rfl) (by kernel_rfl) (by kernel_rfl)) ?_
  intro W base args ds gs before hval0 hW hcnd _
  have hval : ∀ (j : Nat) t v, Try.f4.params[j]? = some t → args[j]? = some v → Value.okWide Try.prog W .any base t v := hval0
  exact Ab.law_contract Ab.L_ok (f := 4) (fn := Try.f4) (Ts := [Ab.tyMly, .int, .int]) (tb := 4) ⟨rfl, fun H ds h => by match ds, h with | [d0, d1, d2], _ => rfl⟩ (by kernel_rfl) (by kernel_rfl) (by kernel_rfl) rfl (by kernel_rfl) hval hW law
theorem over : Rows.separateUiosRow.holds Try.pinned (OpenSpec.ofChange Rows.separateUiosSpec) :=
  OpenClaim.holds_of_wide 4 Try.f4 rfl rfl rfl rfl rfl rfl rfl ⟨rfl, rfl, rfl, rfl, rfl⟩ rfl rfl rfl rfl rfl (by kernel_rfl) Try.func4 (by kernel_rfl)
    (of_decide_eq_true (by kernel_rfl)) (by unfold Func.isWrapper; first | (rw [if_pos (by decide +kernel)]; kernel_rfl) | (rw [if_neg (by decide +kernel)]; exact ⟨rfl, rfl⟩))
    (fun os started H enc _ => lifted os started H enc)
theorem proved : Rows.SeparateUiosSaid := over
#print axioms proved
end Go.Proofs.Ytlgfempnnijfnaa.separateUios
