/- math/bits.Mul64. Condition: the library's own text, as the kit's contract has walked it. -/
import Derived.Test.YtmmkhoncblnicaaAbC
import Derived.Test.YtmmkhoncblnicaaAbSortM
import Derived.Shelf.Bits.Mul64
set_option linter.all false
namespace Ab
open Go Go.Proofs Go.Shelf
variable {P : Program}
theorem mul64_ok {ρ : Ren} (L : Lays.n264 P ρ) {f : Nat} (hf : ρ.f 264 = f) (hb : bodied P f = true) : PrimOk P f pMul64 := by
  subst hf
  refine ⟨hb, fun ce hce hbd args σ r σ' hp ids I w vs hg hv => ?_⟩
  unfold pMul64 at hp
  split at hp
  · rename_i x y
    split at hp
    · rename_i hc
      simp only [Option.some.injEq, Prod.mk.injEq] at hp
      obtain ⟨rfl, rfl⟩ := hp
      obtain ⟨v1, s1, rfl, hv1, v2, s2, rfl, hv2, rfl⟩ := hv
      have e1 := ik7 hv1; have e2 := ik7 hv2
      subst e1 e2
      obtain ⟨X, rfl⟩ := Int.eq_ofNat_of_zero_le hc.1.1
      obtain ⟨Y, rfl⟩ := Int.eq_ofNat_of_zero_le hc.2.1
      refine (Any.bits_Mul64 L X Y (by omega) (by omega) w).mono ?_
      rintro e w' ⟨rfl, rfl⟩
      refine ⟨_, ids, I, rfl, hg, ?_, Step.refl _ _⟩
      unfold VR
      refine ⟨[_, _], rfl, ?_⟩
      refine ⟨_, _, rfl, ?_, _, _, rfl, ?_, rfl⟩
      · rw [show ((X : Int) * (Y : Int) / 18446744073709551616) = ((X * Y / 18446744073709551616 : Nat) : Int) by rw [Int.natCast_ediv, Int.natCast_mul]; rfl]; exact ik7_mk
      · rw [show ((X : Int) * (Y : Int) % 18446744073709551616) = ((X * Y % 18446744073709551616 : Nat) : Int) by rw [Int.natCast_emod, Int.natCast_mul]; rfl]; exact ik7_mk
    · simp at hp
  · simp at hp
end Ab
