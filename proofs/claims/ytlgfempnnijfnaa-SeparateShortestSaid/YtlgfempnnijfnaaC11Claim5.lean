/- The words of the identifiers are the first separating words, for any valid machine of at most 8 states and 4 inputs, and two of its states. Condition: none. -/
import Derived.Test.YtlgfempnnijfnaaRows
import Derived.Test.YtlgfempnnijfnaaIrOk
import Derived.Test.YtlgfempnnijfnaaC11Shortest
import Derived.WalkKit
import Derived.ProofKit
import Derived.OpenShut
set_option linter.all false
namespace Go.Proofs.Ytlgfempnnijfnaa.separateShortest
open Go.ChangeShapes Go.WideShapes Go.ChangeAt Go.RowKit
theorem own : ownKnob Try.prog.godebug = none := by kernel_rfl
theorem law : ∀ l, Ab.Ty.hasL [Ab.tyMly, .st [.ik 4, .ik 4]] l → Ab.noLocs l = true → ∃ σ', Ab.L 5 l [] = some (.bool true, σ') := by
  rintro l ⟨x, s, rfl, h, y, s, rfl, h2, rfl⟩ _
  obtain ⟨m, rfl, hm⟩ := Ab.has_Mly h
  obtain ⟨xs, rfl, u, s, rfl, hu, v, s, rfl, hv, rfl⟩ := h2
  obtain ⟨a, rfl, ha⟩ := hu
  obtain ⟨b, rfl, hb⟩ := hv
  have ha : (0 : Int) ≤ a ∧ a ≤ 255 := by
    have : (decide ((0 : Int) ≤ a) && decide (a ≤ 255)) = true := ha
    simpa using this
  have hb : (0 : Int) ≤ b ∧ b ≤ 255 := by
    have : (decide ((0 : Int) ≤ b) && decide (b ≤ 255)) = true := hb
    simpa using this
  exact Ab.law_of (f := 5) (Ab.zWvl Ab.awake m hm 4 a b ⟨ha.1, by omega⟩ ⟨hb.1, by omega⟩)
set_option maxRecDepth 100000 in
theorem lifted (os : Os) (started : os.Started) (H : Type) (enc : TypeId × Value → H) :
    ReturnsInHanded {} Try.checked os 5 .any (Rows.separateShortestSpec.pre6 enc Try.prog Try.f5 Rows.separateShortestRow.domain false) (Rows.separateShortestSpec.post enc Try.prog Try.f5 false true false false) := by
  refine returnsInHanded_of_change (C := Try.checked) own started (by kernel_rfl) Try.func5
    (ChangeSpec.witness6 (enc := enc) (C := Try.checked) false ⟨#[], #[.agg #[.int .i64 0, .int .i64 0, .slice none 0 0, .slice none 0 0], .agg #[.int .u8 0, .int .u8 0]], []⟩ 8 (by kernel_rfl) (by kernel_rfl) (by kernel_rfl) (by kernel_rfl)) ?_
  intro W base args ds gs before hval0 hW hcnd _
  have hval : ∀ (j : Nat) t v, Try.f5.params[j]? = some t → args[j]? = some v → Value.okWide Try.prog W .any base t v := hval0
  exact Ab.law_contract Ab.L_ok (f := 5) (fn := Try.f5) (Ts := [Ab.tyMly, .st [.ik 4, .ik 4]]) (tb := 4) ⟨rfl, fun H ds h => by match ds, h with | [d0, d1], _ => rfl⟩ (by kernel_rfl) (by kernel_rfl) (by kernel_rfl) rfl (by kernel_rfl) hval hW law
theorem over : Rows.separateShortestRow.holds Try.pinned (OpenSpec.ofChange Rows.separateShortestSpec) :=
  OpenClaim.holds_of_wide 5 Try.f5 rfl rfl rfl rfl rfl rfl rfl ⟨rfl, rfl, rfl, rfl, rfl⟩ rfl rfl rfl rfl rfl (by kernel_rfl) Try.func5 (by kernel_rfl)
    (of_decide_eq_true (by kernel_rfl)) (by unfold Func.isWrapper; first | (rw [if_pos (by decide +kernel)]; kernel_rfl) | (rw [if_neg (by decide +kernel)]; exact ⟨rfl, rfl⟩))
    (fun os started H enc _ => lifted os started H enc)
theorem proved : Rows.SeparateShortestSaid := over
#print axioms proved
end Go.Proofs.Ytlgfempnnijfnaa.separateShortest
