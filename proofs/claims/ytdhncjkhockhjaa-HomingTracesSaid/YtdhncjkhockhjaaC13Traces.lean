/- Whether a machine is too great. Whether a machine is small. The laws on traces and on words that resolve. Condition: none. -/
import Derived.Test.YtdhncjkhockhjaaGbf
import Derived.Test.YtdhncjkhockhjaaHomO
import Derived.Test.YtdhncjkhockhjaaHomE
set_option linter.all false
set_option maxRecDepth 100000
set_option maxHeartbeats 4000000
namespace Ab
def Mly.great (m : Mly) : Bool := decide (12 < (m.next.length : Int)) || decide (12 < (m.out.length : Int)) || decide (6 < m.inputs) || (m.next.any fun r => decide (12 < (r.length : Int))) || (m.out.any fun r => decide (12 < (r.length : Int)))
theorem Great_s (m : Mly) (h : m.fits) : PC F_law08_Great [m.av] = some (.bool m.great) := by
  refine PCx_of (go_law08_Great rfl ?_)
  have hn := h.next.1
  have ho := h.out.1
  have g1 : 12 < (m.next.length : Int) ∨ 12 < (m.out.length : Int) ∨ 6 < m.inputs → m.great = true := by
    intro h; unfold Mly.great; simp only [Bool.or_eq_true, decide_eq_true_eq]; omega
  have g2 : ∀ i, 0 ≤ i → i < (m.next.length : Int) → 12 < ((ix m.next i).length : Int) → m.great = true := fun i h0 h1 h2 => by
    have := any_ix (p := fun r => decide (12 < (r.length : Int))) h0 h1 (by simpa using h2)
    unfold Mly.great; rw [this]; simp
  have g3 : ∀ i, 0 ≤ i → i < (m.out.length : Int) → 12 < ((ix m.out i).length : Int) → m.great = true := fun i h0 h1 h2 => by
    have := any_ix (p := fun r => decide (12 < (r.length : Int))) h0 h1 (by simpa using h2)
    unfold Mly.great; rw [this]; simp
  simp
  refine ⟨fun h => (g1 (.inl h)), fun a1 => ⟨fun h => (g1 (.inr (.inl h))), fun a2 => ⟨fun h => (g1 (.inr (.inr h))), fun a3 => ?_⟩⟩⟩
  refine W_iter (fun i : Int => [(2, .int i)]) (fun _ => []) (fun i => 0 ≤ i ∧ i ≤ m.next.length ∧ ∀ j, 0 ≤ j → j < i → ((ix m.next j).length : Int) ≤ 12) (fun i => (m.next.length - i).toNat) 0 rfl ⟨by omega, by omega, upto_zero⟩ fun i ⟨i0, i1, i2⟩ => ?_
  by_cases hi : i < m.next.length
  · simp [-More_nor, hi, i0]
    refine ⟨fun h => (g2 i i0 hi h), fun h => ⟨by omega, More_of (i + 1) rfl rfl ⟨by omega, by omega, upto_succ (by omega) i2⟩ (by omega)⟩⟩
  · simp [hi]
    refine W_iter (fun i : Int => [(5, .int i)]) (fun _ => []) (fun i => 0 ≤ i ∧ i ≤ m.out.length ∧ ∀ j, 0 ≤ j → j < i → ((ix m.out j).length : Int) ≤ 12) (fun i => (m.out.length - i).toNat) 0 rfl ⟨by omega, by omega, upto_zero⟩ fun k ⟨k0, k1, k2⟩ => ?_
    by_cases hk : k < m.out.length
    · simp [-More_nor, hk, k0]
      refine ⟨fun h => (g3 k k0 hk h), fun h => ⟨by omega, More_of (k + 1) rfl rfl ⟨by omega, by omega, upto_succ (by omega) k2⟩ (by omega)⟩⟩
    · simp [hk]
      have e1 := any_no (p := fun r : List Int => decide (12 < (r.length : Int))) (xs := m.next) fun j a b => by simpa using i2 j a (by omega)
      have e2 := any_no (p := fun r : List Int => decide (12 < (r.length : Int))) (xs := m.out) fun j a b => by simpa using k2 j a (by omega)
      unfold Mly.great
      rw [e1, e2]
      simp
      omega
end Ab
namespace Ab
def Mly.small (m : Mly) : Bool := !m.great && decide ((m.next.length : Int) ≤ 8) && decide (m.inputs ≤ 4)
theorem Small_s (m : Mly) (h : m.fits) : PC F_law11_Small [m.av] = some (.bool m.small) := by
  refine PCx_of (go_law11_Small rfl ?_)
  unfold Mly.small
  cases hg : m.great with
  | true => simp [Great_s m h, hg]
  | false =>
    by_cases h1 : (m.next.length : Int) ≤ 8
    · simp [Great_s m h, hg, h1]
    · simp [Great_s m h, hg, h1]
end Ab
namespace Ab
theorem small_t {m : Mly} (h : m.small = true) : m.next.length ≤ 8 ∧ m.inputs ≤ 4 := by
  unfold Mly.small at h
  simp only [Bool.and_eq_true, decide_eq_true_eq] at h
  exact ⟨by omega, by omega⟩
theorem cur_le {m : Mly} {w o : List Int} : (m.cur w o).length ≤ m.next.length := by
  unfold Mly.cur
  rw [List.length_map]
  have := List.length_filter_le (fun (t : Nat) => (List.range m.next.length).any fun (s : Nat) => decide (m.outs (s : Int) w = o) && decide (m.run (s : Int) w = (t : Int))) (List.range m.next.length)
  simpa using this
theorem pos_le {m : Mly} {w o : List Int} : (m.pos w o).1.length ≤ m.next.length := by
  unfold Mly.pos
  split
  · simp
  · split
    · simp
    · exact cur_le
theorem HomingTraces_l (aw : PC F_law13_exampleHolds [] = some (.bool true)) (m : Mly) (h : m.fits) (w o : List Int) (hl : (w.length : Int) ≤ 9223372036854775807) (hl2 : (o.length : Int) ≤ 9223372036854775807) : PC F_law13_HomingTraces [m.av, iL w, iL o] = some (.bool true) := by
  refine PCx_of (go_law13_HomingTraces rfl ?_)
  have hs := Small_s m h
  cases hsm : m.small with
  | false => rw [hsm] at hs; simp [hs, aw]
  | true =>
    rw [hsm] at hs
    by_cases h1 : 60 < (w.length : Int)
    · simp [hs, h1, aw]
    by_cases h2 : 60 < (o.length : Int)
    · simp [hs, h1, h2, aw]
    obtain ⟨s1, s2⟩ := small_t hsm
    have a1 := Resolves_s m h w hl
    have a2 := RResolves_s m h w hl
    have a3 := Possible_s m h w o hl hl2
    have a4 := RPossible_s m h w o hl hl2
    have a5 := Final_s m h w o hl hl2
    have a6 := RFinal_s m h w o hl hl2
    have hp := pos_le (m := m) (w := w) (o := o)
    have a7 := EqI_s (m.pos w o).1 (m.pos w o).1 (by omega) (by omega)
    simp [hs, h1, h2, a1, a2, a3, a4, a5, a6, a7, aw]
end Ab
