/- Whether a machine is too great. Whether a machine is small. Condition: none. -/
import Derived.Test.YtlgfempnnijfnaaGbf
set_option linter.all false
set_option maxRecDepth 100000
set_option maxHeartbeats 4000000
namespace Ab
def Mly.great (m : Mly) : Bool := decide (12 < (m.next.length : Int)) || decide (12 < (m.out.length : Int)) || decide (6 < m.inputs) || (m.next.any fun r => decide (12 < (r.length : Int))) || (m.out.any fun r => decide (12 < (r.length : Int)))
theorem zMHv (m : Mly) (h : m.fits) : PC zBoU [m.av] = some (.bool m.great) := by
  refine zx72 (zmfd rfl ?_)
  have hn := h.next.1
  have ho := h.out.1
  have g1 : 12 < (m.next.length : Int) ∨ 12 < (m.out.length : Int) ∨ 6 < m.inputs → m.great = true := by
    intro h; unfold Mly.great; simp only [Bool.or_eq_true, decide_eq_true_eq]; omega
  have g2 : ∀ i, 0 ≤ i → i < (m.next.length : Int) → 12 < ((ix m.next i).length : Int) → m.great = true := fun i h0 h1 h2 => by
    have := zNJm (p := fun r => decide (12 < (r.length : Int))) h0 h1 (by simpa using h2)
    unfold Mly.great; rw [this]; simp
  have g3 : ∀ i, 0 ≤ i → i < (m.out.length : Int) → 12 < ((ix m.out i).length : Int) → m.great = true := fun i h0 h1 h2 => by
    have := zNJm (p := fun r => decide (12 < (r.length : Int))) h0 h1 (by simpa using h2)
    unfold Mly.great; rw [this]; simp
  simp
  refine ⟨fun h => (g1 (.inl h)), fun a1 => ⟨fun h => (g1 (.inr (.inl h))), fun a2 => ⟨fun h => (g1 (.inr (.inr h))), fun a3 => ?_⟩⟩⟩
  refine zv8C (fun i : Int => [(2, .int i)]) (fun _ => []) (fun i => 0 ≤ i ∧ i ≤ m.next.length ∧ ∀ j, 0 ≤ j → j < i → ((ix m.next j).length : Int) ≤ 12) (fun i => (m.next.length - i).toNat) 0 rfl ⟨by omega, by omega, zguy⟩ fun i ⟨i0, i1, i2⟩ => ?_
  by_cases hi : i < m.next.length
  · simp [-zJRc, hi, i0]
    refine ⟨fun h => (g2 i i0 hi h), fun h => ⟨by omega, zGkM (i + 1) rfl rfl ⟨by omega, by omega, zvtS (by omega) i2⟩ (by omega)⟩⟩
  · simp [hi]
    refine zv8C (fun i : Int => [(5, .int i)]) (fun _ => []) (fun i => 0 ≤ i ∧ i ≤ m.out.length ∧ ∀ j, 0 ≤ j → j < i → ((ix m.out j).length : Int) ≤ 12) (fun i => (m.out.length - i).toNat) 0 rfl ⟨by omega, by omega, zguy⟩ fun k ⟨k0, k1, k2⟩ => ?_
    by_cases hk : k < m.out.length
    · simp [-zJRc, hk, k0]
      refine ⟨fun h => (g3 k k0 hk h), fun h => ⟨by omega, zGkM (k + 1) rfl rfl ⟨by omega, by omega, zvtS (by omega) k2⟩ (by omega)⟩⟩
    · simp [hk]
      have e1 := ztwy (p := fun r : List Int => decide (12 < (r.length : Int))) (xs := m.next) fun j a b => by simpa using i2 j a (by omega)
      have e2 := ztwy (p := fun r : List Int => decide (12 < (r.length : Int))) (xs := m.out) fun j a b => by simpa using k2 j a (by omega)
      unfold Mly.great
      rw [e1, e2]
      simp
      omega
end Ab
namespace Ab
def Mly.small (m : Mly) : Bool := !m.great && decide ((m.next.length : Int) ≤ 8) && decide (m.inputs ≤ 4)
theorem zL6e (m : Mly) (h : m.fits) : PC zjm7 [m.av] = some (.bool m.small) := by
  refine zx72 (z2MR rfl ?_)
  unfold Mly.small
  cases hg : m.great with
  | true => simp [zMHv m h, hg]
  | false =>
    by_cases h1 : (m.next.length : Int) ≤ 8
    · simp [zMHv m h, hg, h1]
    · simp [zMHv m h, hg, h1]
end Ab
