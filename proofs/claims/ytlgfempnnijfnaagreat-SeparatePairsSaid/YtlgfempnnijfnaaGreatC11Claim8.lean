/- The characterization set, and the common words of any two identifiers, separate all states, for any minimal machine of at most 8 states and 4 inputs. Condition: none. -/
import Derived.Test.YtlgfempnnijfnaaGreatRows
import Derived.Test.YtlgfempnnijfnaaGreatIrOk
import Derived.Test.YtlgfempnnijfnaaGreatC11Pairs
import Derived.WalkKit
import Derived.ProofKit
import Derived.OpenShut
set_option linter.all false
namespace Go.Proofs.YtlgfempnnijfnaaGreat.separatePairs
open Go.ChangeShapes Go.WideShapes Go.ChangeAt Go.RowKit
theorem own : ownKnob Tryz.prog.godebug = none := by kernel_rfl
theorem law : ∀ l, Ab.Ty.hasL [Ab.tyMly] l → Ab.noLocs l = true → ∃ σ', Ab.L 4 l [] = some (.bool true, σ') := by
  rintro l ⟨x, s, rfl, h, rfl⟩ _
  obtain ⟨m, rfl, hm⟩ := Ab.has_Mly h
  exact Ab.law_of (f := 4) (Ab.zRCc Ab.awake m hm)
set_option maxRecDepth 100000 in
theorem lifted (os : Os) (started : os.Started) (H : Type) (enc : TypeId × Value → H) :
    ReturnsInHanded {} Tryz.checked os 4 .any (Rows.separatePairsSpec.pre6 enc Tryz.prog Tryz.f4 Rows.separatePairsRow.domain false) (Rows.separatePairsSpec.post enc Tryz.prog Tryz.f4 false true false false) := by
  refine returnsInHanded_of_change (C := Tryz.checked) own started (by kernel_rfl) Tryz.func4
    (ChangeSpec.witness6 (enc := enc) (C := Tryz.checked) false ⟨#[], #[.agg #[.int .i64 0, .int .i64 0, .slice none 0 0, .slice none 0 0]], []⟩ 8 (by kernel_rfl) (by kernel_rfl) (by kernel_rfl) (by kernel_rfl)) ?_
  intro W base args ds gs before hval0 hW hcnd _
  have hval : ∀ (j : Nat) t v, Tryz.f4.params[j]? = some t → args[j]? = some v → Value.okWide Tryz.prog W .any base t v := hval0
  exact Ab.law_contract Ab.L_ok (f := 4) (fn := Tryz.f4) (Ts := [Ab.tyMly]) (tb := 4) ⟨rfl, fun H ds h => by match ds, h with | [d0], _ => rfl⟩ (by kernel_rfl) (by kernel_rfl) (by kernel_rfl) rfl (by kernel_rfl) hval hW law
theorem over : Rows.separatePairsRow.holds Tryz.pinned (OpenSpec.ofChange Rows.separatePairsSpec) :=
  OpenClaim.holds_of_wide 4 Tryz.f4 rfl rfl rfl rfl rfl rfl rfl ⟨rfl, rfl, rfl, rfl, rfl⟩ rfl rfl rfl rfl rfl (by kernel_rfl) Tryz.func4 (by kernel_rfl)
    (of_decide_eq_true (by kernel_rfl)) (by unfold Func.isWrapper; first | (rw [if_pos (by decide +kernel)]; kernel_rfl) | (rw [if_neg (by decide +kernel)]; exact ⟨rfl, rfl⟩))
    (fun os started H enc _ => lifted os started H enc)
theorem proved : Rows.SeparatePairsSaid := over
#print axioms proved
end Go.Proofs.YtlgfempnnijfnaaGreat.separatePairs
