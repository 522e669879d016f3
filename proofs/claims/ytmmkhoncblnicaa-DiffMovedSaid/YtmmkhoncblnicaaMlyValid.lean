/- Mealy machines as plain data. The check of a Mealy machine, by the program and by the document. Condition: none. -/
import Derived.Test.YtmmkhoncblnicaaDec
set_option linter.all false
set_option maxRecDepth 100000
set_option maxHeartbeats 4000000
namespace Ab
structure Mly where
  inputs : Int
  start : Int
  next : List (List Int)
  out : List (List Int)
  deriving Inhabited
abbrev Mly.av (m : Mly) : AV := .agg [.int m.inputs, .int m.start, iLL m.next, iLL m.out]
/-- The lengths of lists are those of lists in memory, the numbers fit. -/
structure Mly.fits (m : Mly) : Prop where
  inputs : inR m.inputs = true
  start : inR m.start = true
  next : okII m.next
  out : okII m.out
abbrev tyMly : Ty := .st [.int, .int, .sl (.sl .int), .sl (.sl .int)]
theorem has_Mly {x : AV} (h : tyMly.has x) : ∃ m : Mly, x = m.av ∧ m.fits := by
  obtain ⟨xs, rfl, h⟩ := h
  simp only [Ty.hasL] at h
  obtain ⟨x0, s0, rfl, h0, x1, s1, rfl, h1, x2, s2, rfl, h2, x3, s3, rfl, h3, rfl⟩ := h
  obtain ⟨a0, rfl, k0⟩ := has_int h0
  obtain ⟨a1, rfl, k1⟩ := has_int h1
  obtain ⟨a2, rfl, k2⟩ := has_II h2
  obtain ⟨a3, rfl, k3⟩ := has_II h3
  exact ⟨⟨a0, a1, a2, a3⟩, rfl, ⟨k0, k1, k2, k3⟩⟩
/-- The error of a state's row. -/
def Mly.rowE (m : Mly) (s : Int) : Int :=
  if ¬ ((ix m.next s).length : Int) = m.inputs ∨ ¬ ((ix m.out s).length : Int) = m.inputs then 1
  else if bad (ix m.next s) m.next.length = true ∨ bad (ix m.out s) 1048577 = true then 2 else 0
/-- The error of the sizes. -/
def Mly.sizeE (m : Mly) : Int :=
  if m.inputs < 1 then 2
  else if 64 < m.inputs then 2
  else if m.next = [] then 19
  else if 128 < (m.next.length : Int) then 11
  else if m.start < 0 then 2
  else if (m.next.length : Int) ≤ m.start then 2
  else if ¬ (m.out.length : Int) = m.next.length then 1
  else 0
def Mly.validE (m : Mly) : Int := if m.sizeE ≠ 0 then m.sizeE else firstN m.rowE m.next.length
theorem mvalidE_pos {m : Mly} {x : Int} (h : m.sizeE = x) (hx : x ≠ 0) : x = m.validE := by
  subst h; simp [Mly.validE, hx]
/-- A valid machine. -/
structure Mly.Ok (m : Mly) : Prop where
  inputs : 1 ≤ m.inputs ∧ m.inputs ≤ 64
  states : 1 ≤ (m.next.length : Int) ∧ (m.next.length : Int) ≤ 128
  start : 0 ≤ m.start ∧ m.start < m.next.length
  len : (m.out.length : Int) = m.next.length
  row : ∀ s, 0 ≤ s → s < (m.next.length : Int) → ((ix m.next s).length : Int) = m.inputs ∧ ((ix m.out s).length : Int) = m.inputs
  nx : ∀ s a, 0 ≤ s → s < (m.next.length : Int) → 0 ≤ a → a < m.inputs → 0 ≤ ix (ix m.next s) a ∧ ix (ix m.next s) a < m.next.length
  ot : ∀ s a, 0 ≤ s → s < (m.next.length : Int) → 0 ≤ a → a < m.inputs → 0 ≤ ix (ix m.out s) a ∧ ix (ix m.out s) a ≤ 1048576
theorem msizeE_zero {m : Mly} (h : m.sizeE = 0) : (1 ≤ m.inputs ∧ m.inputs ≤ 64) ∧ (1 ≤ (m.next.length : Int) ∧ (m.next.length : Int) ≤ 128) ∧ (0 ≤ m.start ∧ m.start < m.next.length) ∧ (m.out.length : Int) = m.next.length := by
  unfold Mly.sizeE at h
  by_cases ha : m.next = []
  · simp only [if_pos ha] at h
    (repeat' split at h) <;> omega
  · have := List.length_pos_iff.2 ha
    simp only [if_neg ha] at h
    (repeat' split at h) <;> omega
theorem mrowE_zero {m : Mly} {s : Int} (h : m.rowE s = 0) : (((ix m.next s).length : Int) = m.inputs ∧ ((ix m.out s).length : Int) = m.inputs) ∧ bad (ix m.next s) m.next.length = false ∧ bad (ix m.out s) 1048577 = false := by
  unfold Mly.rowE at h
  split at h
  · simp at h
  rename_i a
  split at h
  · simp at h
  rename_i b
  simp only [not_or, Classical.not_not, Bool.not_eq_true] at a b
  exact ⟨a, b.1, b.2⟩
theorem mvalidE_ok {m : Mly} (h : m.validE = 0) : m.Ok := by
  have hs : m.sizeE = 0 := by
    unfold Mly.validE at h
    split at h
    · rename_i a; exact absurd h a
    · rename_i a; simpa using a
  have hr : ∀ s, 0 ≤ s → s < (m.next.length : Int) → m.rowE s = 0 := by
    unfold Mly.validE at h
    rw [if_neg (by simpa using hs)] at h
    exact firstN_eq.1 h
  obtain ⟨h1, h2, h3, h4⟩ := msizeE_zero hs
  have R := fun s s0 s1 => mrowE_zero (hr s s0 s1)
  exact ⟨h1, h2, h3, h4, fun s s0 s1 => (R s s0 s1).1, fun s c s0 s1 c0 c1 => bad_fi.1 (R s s0 s1).2.1 c c0 (by have := (R s s0 s1).1; omega), fun s c s0 s1 c0 c1 => by have := bad_fi.1 (R s s0 s1).2.2 c c0 (by have := (R s s0 s1).1; omega); omega⟩
end Ab
namespace Ab
/-- A transition is not allowed. -/
def Mly.offE (m : Mly) (s a : Int) : Bool := out1 m.next.length (ix (ix m.next s) a) || out1 1048577 (ix (ix m.out s) a)
theorem rowE_off {m : Mly} {s a : Int} (h1 : ((ix m.next s).length : Int) = m.inputs) (h2 : ((ix m.out s).length : Int) = m.inputs) (a0 : 0 ≤ a) (a1 : a < m.inputs) (h : m.offE s a = true) : m.rowE s = 2 := by
  unfold Mly.rowE
  rw [if_neg (by simp [h1, h2]), if_pos]
  simp only [Mly.offE, Bool.or_eq_true] at h
  rcases h with h | h
  · exact .inl (bad_t a0 (by omega) h)
  · exact .inr (bad_t a0 (by omega) h)
theorem rowE_on {m : Mly} {s : Int} (h1 : ((ix m.next s).length : Int) = m.inputs) (h2 : ((ix m.out s).length : Int) = m.inputs) (h : ∀ a, 0 ≤ a → a < m.inputs → m.offE s a = false) : m.rowE s = 0 := by
  unfold Mly.rowE
  have h' : ∀ a, 0 ≤ a → a < m.inputs → out1 m.next.length (ix (ix m.next s) a) = false ∧ out1 1048577 (ix (ix m.out s) a) = false := fun a a0 a1 => by
    have := h a a0 a1
    simpa [Mly.offE] using this
  rw [if_neg (by simp [h1, h2]), if_neg]
  rw [bad_n fun j a b => (h' j a (by omega)).1, bad_n fun j a b => (h' j a (by omega)).2]
  simp
theorem mValid_s (m : Mly) (h : m.fits) : PC F_mealy_Valid [m.av] = some (.int m.validE) := by
  refine PCx_of (go_mealy_Valid rfl ?_)
  have hn := h.next.1
  simp
  repeat' (first | apply And.intro | intro _)
  all_goals try (refine mvalidE_pos ?_ (by simp); unfold Mly.sizeE; repeat (first | rw [if_pos (by assumption)] | rw [if_neg (by assumption)] | rw [if_neg (by omega)] | rw [if_pos (by omega)]))
  rename_i a1 a2 a3 a4 a5 a6 a7
  have e3 : m.sizeE = 0 := by unfold Mly.sizeE; repeat (first | rw [if_pos (by assumption)] | rw [if_neg (by assumption)] | rw [if_neg (by omega)])
  rw [show m.validE = firstN m.rowE m.next.length by simp [Mly.validE, e3]]
  refine W_iter (fun i : Int => [(3, .int i)]) (fun _ => []) (fun i => 0 ≤ i ∧ i ≤ m.next.length ∧ ∀ j, 0 ≤ j → j < i → m.rowE j = 0) (fun i => (m.next.length - i).toNat) 0 rfl (by simp; omega) fun i ⟨i0, i1, i2⟩ => ?_
  by_cases hi : i < m.next.length
  · have hil : i < (m.out.length : Int) := by omega
    have bad1 : m.rowE i = 1 → 1 = firstN m.rowE m.next.length := fun h => by rw [← h]; exact (firstN_some (f := m.rowE) i0 hi (by omega) i2).symm
    have bad2 : m.rowE i = 2 → 2 = firstN m.rowE m.next.length := fun h => by rw [← h]; exact (firstN_some (f := m.rowE) i0 hi (by omega) i2).symm
    simp [-More_nor, hi, i0, hil]
    refine ⟨fun b1 => ⟨fun b2 => ?_, fun b2 => bad1 (by simp [Mly.rowE, b2])⟩, fun b1 => bad1 (by simp [Mly.rowE, b1])⟩
    refine W_iter (fun a : Int => [(6, .int a)]) (fun _ => []) (fun a => 0 ≤ a ∧ a ≤ m.inputs ∧ ∀ j, 0 ≤ j → j < a → m.offE i j = false) (fun a => (m.inputs - a).toNat) 0 rfl ⟨by omega, by omega, upto_zero⟩ fun a ⟨k0, k1, k2⟩ => ?_
    by_cases ha : a < m.inputs
    · have off : m.offE i a = true → 2 = firstN m.rowE m.next.length := fun h => bad2 (rowE_off b1 b2 k0 ha h)
      simp [-More_nor, ha, i0, hi, hil, k0, show a < ((ix m.next i).length : Int) by omega, show a < ((ix m.out i).length : Int) by omega]
      refine ⟨fun c1 => off (by simp [Mly.offE, out1, c1]), fun c1 => ⟨fun c2 => off (by simp [Mly.offE, out1, c2]), fun c2 => ⟨fun c3 => off (by simp [Mly.offE, out1, c3]), fun c3 => ⟨fun c4 => off (by simp [Mly.offE, out1, show (1048577 : Int) ≤ ix (ix m.out i) a by omega]), fun c4 => ⟨by omega, ?_⟩⟩⟩⟩⟩
      refine More_of (a + 1) rfl rfl ⟨by omega, by omega, upto_succ ?_ k2⟩ (by omega)
      simp [Mly.offE, out1]
      omega
    · simp [-More_nor, ha]
      refine ⟨by omega, More_of (i + 1) rfl rfl ⟨by omega, by omega, upto_succ (rowE_on b1 b2 fun a' h0 h1 => k2 a' h0 (by omega)) i2⟩ (by omega)⟩
  · simp [hi]
    rw [firstN_none fun j a b => i2 j a (by omega)]
theorem rrow_s (m : Mly) (s : Int) (s0 : 0 ≤ s) (s1 : s < m.next.length) (s2 : s < m.out.length) (hn : (m.next.length : Int) ≤ 9223372036854775807) (hin : inR m.inputs = true) : PC F_ref06_row [m.av, .int s] = some (.int (m.rowE s)) := by
  rw [inR_iff] at hin
  refine PCx_of (go_ref06_row rfl ?_)
  simp [-More_nor, s0, s1, s2]
  refine ⟨fun b1 => ⟨fun b2 => ?_, fun b2 => by simp [Mly.rowE, b2]⟩, fun b1 => by simp [Mly.rowE, b1]⟩
  refine W_iter (fun a : Int => [(3, .int a)]) (fun _ => []) (fun a => 0 ≤ a ∧ a ≤ m.inputs ∧ ∀ j, 0 ≤ j → j < a → m.offE s j = false) (fun a => (m.inputs - a).toNat) 0 rfl ⟨by omega, by omega, upto_zero⟩ fun a ⟨k0, k1, k2⟩ => ?_
  by_cases ha : a < m.inputs
  · have off : m.offE s a = true → 2 = m.rowE s := fun h => (rowE_off b1 b2 k0 ha h).symm
    simp [-More_nor, ha, s0, s1, s2, k0, show a < ((ix m.next s).length : Int) by omega, show a < ((ix m.out s).length : Int) by omega]
    refine ⟨fun c1 => off (by simp [Mly.offE, out1, c1]), fun c1 => ⟨fun c2 => off (by simp [Mly.offE, out1, c2]), fun c2 => ⟨fun c3 => off (by simp [Mly.offE, out1, c3]), fun c3 => ⟨fun c4 => off (by simp [Mly.offE, out1, show (1048577 : Int) ≤ ix (ix m.out s) a by omega]), fun c4 => ⟨by omega, ?_⟩⟩⟩⟩⟩
    refine More_of (a + 1) rfl rfl ⟨by omega, by omega, upto_succ ?_ k2⟩ (by omega)
    simp [Mly.offE, out1]
    omega
  · simp [-More_nor, ha]
    exact (rowE_on b1 b2 fun a' h0 h1 => k2 a' h0 (by omega)).symm
theorem rmValid_s (m : Mly) (h : m.fits) : PC F_ref06_Valid [m.av] = some (.int m.validE) := by
  refine PCx_of (go_ref06_Valid rfl ?_)
  have hn := h.next.1
  simp
  repeat' (first | apply And.intro | intro _)
  all_goals try (refine mvalidE_pos ?_ (by simp); unfold Mly.sizeE; repeat (first | rw [if_pos (by assumption)] | rw [if_neg (by assumption)] | rw [if_neg (by omega)] | rw [if_pos (by omega)]))
  rename_i a1 a2 a3 a4 a5 a6 a7
  have e3 : m.sizeE = 0 := by unfold Mly.sizeE; repeat (first | rw [if_pos (by assumption)] | rw [if_neg (by assumption)] | rw [if_neg (by omega)])
  rw [show m.validE = firstN m.rowE m.next.length by simp [Mly.validE, e3]]
  refine W_iter (fun i : Int => [(2, .int i)]) (fun _ => []) (fun i => 0 ≤ i ∧ i ≤ m.next.length ∧ ∀ j, 0 ≤ j → j < i → m.rowE j = 0) (fun i => (m.next.length - i).toNat) 0 rfl (by simp; omega) fun i ⟨i0, i1, i2⟩ => ?_
  by_cases hi : i < m.next.length
  · have e := rrow_s m i i0 hi (by omega) hn h.inputs
    simp [hi, e]
    exact ⟨fun hz => ⟨by omega, ⟨by omega, by omega, upto_succ hz i2⟩, by omega⟩, fun hz => (firstN_some i0 hi hz i2).symm⟩
  · simp [hi]
    rw [firstN_none fun j a b => i2 j a (by omega)]
end Ab
