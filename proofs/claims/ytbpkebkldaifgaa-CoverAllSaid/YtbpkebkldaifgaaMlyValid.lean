/- The check of a Mealy machine, by the program and by the document. Condition: none. -/
import Derived.Test.YtbpkebkldaifgaaMlyDef
set_option linter.all false
set_option maxRecDepth 100000
set_option maxHeartbeats 4000000
namespace Ab
/-- A transition is not allowed. -/
def Mly.offE (m : Mly) (s a : Int) : Bool := out1 m.next.length (ix (ix m.next s) a) || out1 1048577 (ix (ix m.out s) a)
theorem rowE_off {m : Mly} {s a : Int} (h1 : ((ix m.next s).length : Int) = m.inputs) (h2 : ((ix m.out s).length : Int) = m.inputs) (a0 : 0 ≤ a) (a1 : a < m.inputs) (h : m.offE s a = true) : m.rowE s = 2 := by
  unfold Mly.rowE
  rw [if_neg (by simp [h1, h2]), if_pos]
  simp only [Mly.offE, Bool.or_eq_true] at h
  rcases h with h | h
  · exact .inl (bad_t a0 (by omega) h)
  · exact .inr (bad_t a0 (by omega) h)
theorem rowE_on {m : Mly} {s : Int} (h1 : ((ix m.next s).length : Int) = m.inputs) (h2 : ((ix m.out s).length : Int) = m.inputs) (h : ∀ a, 0 ≤ a → a < m.inputs → m.offE s a = false) : m.rowE s = 0 := by
  unfold Mly.rowE
  have h' : ∀ a, 0 ≤ a → a < m.inputs → out1 m.next.length (ix (ix m.next s) a) = false ∧ out1 1048577 (ix (ix m.out s) a) = false := fun a a0 a1 => by
    have := h a a0 a1
    simpa [Mly.offE] using this
  rw [if_neg (by simp [h1, h2]), if_neg]
  rw [bad_n fun j a b => (h' j a (by omega)).1, bad_n fun j a b => (h' j a (by omega)).2]
  simp
theorem mValid_s (m : Mly) (h : m.fits) : PC F_mealy_Valid [m.av] = some (.int m.validE) := by
  refine PCx_of (go_mealy_Valid rfl ?_)
  have hn := h.next.1
  simp
  repeat' (first | apply And.intro | intro _)
  all_goals try (refine mvalidE_pos ?_ (by simp); unfold Mly.sizeE; repeat (first | rw [if_pos (by assumption)] | rw [if_neg (by assumption)] | rw [if_neg (by omega)] | rw [if_pos (by omega)]))
  rename_i a1 a2 a3 a4 a5 a6 a7
  have e3 : m.sizeE = 0 := by unfold Mly.sizeE; repeat (first | rw [if_pos (by assumption)] | rw [if_neg (by assumption)] | rw [if_neg (by omega)])
  rw [show m.validE = firstN m.rowE m.next.length by simp [Mly.validE, e3]]
  refine W_iter (fun i : Int => [(3, .int i)]) (fun _ => []) (fun i => 0 ≤ i ∧ i ≤ m.next.length ∧ ∀ j, 0 ≤ j → j < i → m.rowE j = 0) (fun i => (m.next.length - i).toNat) 0 rfl (by simp; omega) fun i ⟨i0, i1, i2⟩ => ?_
  by_cases hi : i < m.next.length
  · have hil : i < (m.out.length : Int) := by omega
    have bad1 : m.rowE i = 1 → 1 = firstN m.rowE m.next.length := fun h => by rw [← h]; exact (firstN_some (f := m.rowE) i0 hi (by omega) i2).symm
    have bad2 : m.rowE i = 2 → 2 = firstN m.rowE m.next.length := fun h => by rw [← h]; exact (firstN_some (f := m.rowE) i0 hi (by omega) i2).symm
    simp [-More_nor, hi, i0, hil]
    refine ⟨fun b1 => ⟨fun b2 => ?_, fun b2 => bad1 (by simp [Mly.rowE, b2])⟩, fun b1 => bad1 (by simp [Mly.rowE, b1])⟩
    refine W_iter (fun a : Int => [(6, .int a)]) (fun _ => []) (fun a => 0 ≤ a ∧ a ≤ m.inputs ∧ ∀ j, 0 ≤ j → j < a → m.offE i j = false) (fun a => (m.inputs - a).toNat) 0 rfl ⟨by omega, by omega, upto_zero⟩ fun a ⟨k0, k1, k2⟩ => ?_
    by_cases ha : a < m.inputs
    · have off : m.offE i a = true → 2 = firstN m.rowE m.next.length := fun h => bad2 (rowE_off b1 b2 k0 ha h)
      simp [-More_nor, ha, i0, hi, hil, k0, show a < ((ix m.next i).length : Int) by omega, show a < ((ix m.out i).length : Int) by omega]
      refine ⟨fun c1 => off (by simp [Mly.offE, out1, c1]), fun c1 => ⟨fun c2 => off (by simp [Mly.offE, out1, c2]), fun c2 => ⟨fun c3 => off (by simp [Mly.offE, out1, c3]), fun c3 => ⟨fun c4 => off (by simp [Mly.offE, out1, show (1048577 : Int) ≤ ix (ix m.out i) a by omega]), fun c4 => ⟨by omega, ?_⟩⟩⟩⟩⟩
      refine More_of (a + 1) rfl rfl ⟨by omega, by omega, upto_succ ?_ k2⟩ (by omega)
      simp [Mly.offE, out1]
      omega
    · simp [-More_nor, ha]
      refine ⟨by omega, More_of (i + 1) rfl rfl ⟨by omega, by omega, upto_succ (rowE_on b1 b2 fun a' h0 h1 => k2 a' h0 (by omega)) i2⟩ (by omega)⟩
  · simp [hi]
    rw [firstN_none fun j a b => i2 j a (by omega)]
theorem rrow_s (m : Mly) (s : Int) (s0 : 0 ≤ s) (s1 : s < m.next.length) (s2 : s < m.out.length) (hn : (m.next.length : Int) ≤ 9223372036854775807) (hin : inR m.inputs = true) : PC F_ref06_row [m.av, .int s] = some (.int (m.rowE s)) := by
  rw [inR_iff] at hin
  refine PCx_of (go_ref06_row rfl ?_)
  simp [-More_nor, s0, s1, s2]
  refine ⟨fun b1 => ⟨fun b2 => ?_, fun b2 => by simp [Mly.rowE, b2]⟩, fun b1 => by simp [Mly.rowE, b1]⟩
  refine W_iter (fun a : Int => [(3, .int a)]) (fun _ => []) (fun a => 0 ≤ a ∧ a ≤ m.inputs ∧ ∀ j, 0 ≤ j → j < a → m.offE s j = false) (fun a => (m.inputs - a).toNat) 0 rfl ⟨by omega, by omega, upto_zero⟩ fun a ⟨k0, k1, k2⟩ => ?_
  by_cases ha : a < m.inputs
  · have off : m.offE s a = true → 2 = m.rowE s := fun h => (rowE_off b1 b2 k0 ha h).symm
    simp [-More_nor, ha, s0, s1, s2, k0, show a < ((ix m.next s).length : Int) by omega, show a < ((ix m.out s).length : Int) by omega]
    refine ⟨fun c1 => off (by simp [Mly.offE, out1, c1]), fun c1 => ⟨fun c2 => off (by simp [Mly.offE, out1, c2]), fun c2 => ⟨fun c3 => off (by simp [Mly.offE, out1, c3]), fun c3 => ⟨fun c4 => off (by simp [Mly.offE, out1, show (1048577 : Int) ≤ ix (ix m.out s) a by omega]), fun c4 => ⟨by omega, ?_⟩⟩⟩⟩⟩
    refine More_of (a + 1) rfl rfl ⟨by omega, by omega, upto_succ ?_ k2⟩ (by omega)
    simp [Mly.offE, out1]
    omega
  · simp [-More_nor, ha]
    exact (rowE_on b1 b2 fun a' h0 h1 => k2 a' h0 (by omega)).symm
theorem rmValid_s (m : Mly) (h : m.fits) : PC F_ref06_Valid [m.av] = some (.int m.validE) := by
  refine PCx_of (go_ref06_Valid rfl ?_)
  have hn := h.next.1
  simp
  repeat' (first | apply And.intro | intro _)
  all_goals try (refine mvalidE_pos ?_ (by simp); unfold Mly.sizeE; repeat (first | rw [if_pos (by assumption)] | rw [if_neg (by assumption)] | rw [if_neg (by omega)] | rw [if_pos (by omega)]))
  rename_i a1 a2 a3 a4 a5 a6 a7
  have e3 : m.sizeE = 0 := by unfold Mly.sizeE; repeat (first | rw [if_pos (by assumption)] | rw [if_neg (by assumption)] | rw [if_neg (by omega)])
  rw [show m.validE = firstN m.rowE m.next.length by simp [Mly.validE, e3]]
  refine W_iter (fun i : Int => [(2, .int i)]) (fun _ => []) (fun i => 0 ≤ i ∧ i ≤ m.next.length ∧ ∀ j, 0 ≤ j → j < i → m.rowE j = 0) (fun i => (m.next.length - i).toNat) 0 rfl (by simp; omega) fun i ⟨i0, i1, i2⟩ => ?_
  by_cases hi : i < m.next.length
  · have e := rrow_s m i i0 hi (by omega) hn h.inputs
    simp [hi, e]
    exact ⟨fun hz => ⟨by omega, ⟨by omega, by omega, upto_succ hz i2⟩, by omega⟩, fun hz => (firstN_some i0 hi hz i2).symm⟩
  · simp [hi]
    rw [firstN_none fun j a b => i2 j a (by omega)]
end Ab
