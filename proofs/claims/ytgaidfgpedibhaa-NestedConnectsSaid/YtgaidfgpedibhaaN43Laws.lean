/- The laws of the chapter, as the interpreter finds them. Condition: none. -/
import Derived.Test.YtgaidfgpedibhaaDec
import Derived.Test.YtgaidfgpedibhaaN43Run
set_option linter.all false
set_option maxRecDepth 100000
set_option maxHeartbeats 4000000
namespace Ab
open Go
abbrev tyNst : Ty := .st [.int, .int, .int, .int, .int, .sl .bool, .sl (.sl .int), .sl (.sl .int), .sl (.sl .int), .sl (.sl (.sl .int))]
theorem has_Nst {x : AV} (h : tyNst.has x) : ∃ n : Nst, x = n.av ∧ n.fits := by
  obtain ⟨xs, rfl, h⟩ := h
  simp only [Ty.hasL] at h
  obtain ⟨x0, s0, rfl, h0, x1, s1, rfl, h1, x2, s2, rfl, h2, x3, s3, rfl, h3, x4, s4, rfl, h4, x5, s5, rfl, h5, x6, s6, rfl, h6, x7, s7, rfl, h7, x8, s8, rfl, h8, x9, s9, rfl, h9, rfl⟩ := h
  obtain ⟨a0, rfl, k0⟩ := has_int h0
  obtain ⟨a1, rfl, k1⟩ := has_int h1
  obtain ⟨a2, rfl, k2⟩ := has_int h2
  obtain ⟨a3, rfl, k3⟩ := has_int h3
  obtain ⟨a4, rfl, k4⟩ := has_int h4
  obtain ⟨a5, rfl, k5⟩ := has_B h5
  obtain ⟨a6, rfl, k6⟩ := has_II h6
  obtain ⟨a7, rfl, k7⟩ := has_II h7
  obtain ⟨a8, rfl, k8⟩ := has_II h8
  obtain ⟨a9, rfl, k9⟩ := has_III h9
  exact ⟨⟨a0, a1, a2, a3, a4, a5, a6, a7, a8, a9⟩, rfl, ⟨k0, k1, k2, k3, k4, k5, fun l hl => (k6.2 l hl).1, fun l hl => (k7.2 l hl).1, fun l hl => (k8.2 l hl).1, fun l hl => ⟨(k9.2 l hl).1, fun m hm => ((k9.2 l hl).2 m hm).1⟩⟩⟩
theorem NestedValid_l (aw : PC F_law43_awake [] = some (.bool true)) (n : Nst) (h : n.fits) : PC F_law43_NestedValid [n.av] = some (.bool true) := by
  refine PCx_of (go_law43_NestedValid rfl ?_)
  simp [Valid_s n h, RValid_s n h, aw]
theorem NestedAccepts_l (aw : PC F_law43_awake [] = some (.bool true)) (n : Nst) (h : n.fits) (w : List Int) (hw : (w.length : Int) ≤ 9223372036854775807) : PC F_law43_NestedAccepts [n.av, iL w] = some (.bool true) := by
  refine PCx_of (go_law43_NestedAccepts rfl ?_)
  by_cases hl : 1100 < (w.length : Int)
  · simp [hl, aw]
  · simp [hl, Accepts_s n h w hw, RAccepts_s n h w hw, Matched_s n h w hw, RMatched_s n h w hw, aw]
end Ab
