/- Mealy machines as plain data. Condition: none. -/
import Derived.Test.YtbpkebkldaifgaaDec
set_option linter.all false
set_option maxRecDepth 100000
set_option maxHeartbeats 4000000
namespace Ab
structure Mly where
  inputs : Int
  start : Int
  next : List (List Int)
  out : List (List Int)
  deriving Inhabited
abbrev Mly.av (m : Mly) : AV := .agg [.int m.inputs, .int m.start, iLL m.next, iLL m.out]
/-- The lengths of lists are those of lists in memory, the numbers fit. -/
structure Mly.fits (m : Mly) : Prop where
  inputs : inR m.inputs = true
  start : inR m.start = true
  next : okII m.next
  out : okII m.out
abbrev tyMly : Ty := .st [.int, .int, .sl (.sl .int), .sl (.sl .int)]
theorem has_Mly {x : AV} (h : tyMly.has x) : ∃ m : Mly, x = m.av ∧ m.fits := by
  obtain ⟨xs, rfl, h⟩ := h
  simp only [Ty.hasL] at h
  obtain ⟨x0, s0, rfl, h0, x1, s1, rfl, h1, x2, s2, rfl, h2, x3, s3, rfl, h3, rfl⟩ := h
  obtain ⟨a0, rfl, k0⟩ := has_int h0
  obtain ⟨a1, rfl, k1⟩ := has_int h1
  obtain ⟨a2, rfl, k2⟩ := has_II h2
  obtain ⟨a3, rfl, k3⟩ := has_II h3
  exact ⟨⟨a0, a1, a2, a3⟩, rfl, ⟨k0, k1, k2, k3⟩⟩
/-- The error of a state's row. -/
def Mly.rowE (m : Mly) (s : Int) : Int :=
  if ¬ ((ix m.next s).length : Int) = m.inputs ∨ ¬ ((ix m.out s).length : Int) = m.inputs then 1
  else if bad (ix m.next s) m.next.length = true ∨ bad (ix m.out s) 1048577 = true then 2 else 0
/-- The error of the sizes. -/
def Mly.sizeE (m : Mly) : Int :=
  if m.inputs < 1 then 2
  else if 64 < m.inputs then 2
  else if m.next = [] then 19
  else if 128 < (m.next.length : Int) then 11
  else if m.start < 0 then 2
  else if (m.next.length : Int) ≤ m.start then 2
  else if ¬ (m.out.length : Int) = m.next.length then 1
  else 0
def Mly.validE (m : Mly) : Int := if m.sizeE ≠ 0 then m.sizeE else firstN m.rowE m.next.length
theorem mvalidE_pos {m : Mly} {x : Int} (h : m.sizeE = x) (hx : x ≠ 0) : x = m.validE := by
  subst h; simp [Mly.validE, hx]
/-- A valid machine. -/
structure Mly.Ok (m : Mly) : Prop where
  inputs : 1 ≤ m.inputs ∧ m.inputs ≤ 64
  states : 1 ≤ (m.next.length : Int) ∧ (m.next.length : Int) ≤ 128
  start : 0 ≤ m.start ∧ m.start < m.next.length
  len : (m.out.length : Int) = m.next.length
  row : ∀ s, 0 ≤ s → s < (m.next.length : Int) → ((ix m.next s).length : Int) = m.inputs ∧ ((ix m.out s).length : Int) = m.inputs
  nx : ∀ s a, 0 ≤ s → s < (m.next.length : Int) → 0 ≤ a → a < m.inputs → 0 ≤ ix (ix m.next s) a ∧ ix (ix m.next s) a < m.next.length
  ot : ∀ s a, 0 ≤ s → s < (m.next.length : Int) → 0 ≤ a → a < m.inputs → 0 ≤ ix (ix m.out s) a ∧ ix (ix m.out s) a ≤ 1048576
theorem msizeE_zero {m : Mly} (h : m.sizeE = 0) : (1 ≤ m.inputs ∧ m.inputs ≤ 64) ∧ (1 ≤ (m.next.length : Int) ∧ (m.next.length : Int) ≤ 128) ∧ (0 ≤ m.start ∧ m.start < m.next.length) ∧ (m.out.length : Int) = m.next.length := by
  unfold Mly.sizeE at h
  by_cases ha : m.next = []
  · simp only [if_pos ha] at h
    (repeat' split at h) <;> omega
  · have := List.length_pos_iff.2 ha
    simp only [if_neg ha] at h
    (repeat' split at h) <;> omega
theorem mrowE_zero {m : Mly} {s : Int} (h : m.rowE s = 0) : (((ix m.next s).length : Int) = m.inputs ∧ ((ix m.out s).length : Int) = m.inputs) ∧ bad (ix m.next s) m.next.length = false ∧ bad (ix m.out s) 1048577 = false := by
  unfold Mly.rowE at h
  split at h
  · simp at h
  rename_i a
  split at h
  · simp at h
  rename_i b
  simp only [not_or, Classical.not_not, Bool.not_eq_true] at a b
  exact ⟨a, b.1, b.2⟩
theorem mvalidE_ok {m : Mly} (h : m.validE = 0) : m.Ok := by
  have hs : m.sizeE = 0 := by
    unfold Mly.validE at h
    split at h
    · rename_i a; exact absurd h a
    · rename_i a; simpa using a
  have hr : ∀ s, 0 ≤ s → s < (m.next.length : Int) → m.rowE s = 0 := by
    unfold Mly.validE at h
    rw [if_neg (by simpa using hs)] at h
    exact firstN_eq.1 h
  obtain ⟨h1, h2, h3, h4⟩ := msizeE_zero hs
  have R := fun s s0 s1 => mrowE_zero (hr s s0 s1)
  exact ⟨h1, h2, h3, h4, fun s s0 s1 => (R s s0 s1).1, fun s c s0 s1 c0 c1 => bad_fi.1 (R s s0 s1).2.1 c c0 (by have := (R s s0 s1).1; omega), fun s c s0 s1 c0 c1 => by have := bad_fi.1 (R s s0 s1).2.2 c c0 (by have := (R s s0 s1).1; omega); omega⟩
end Ab
