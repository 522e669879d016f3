/- The laws of the chapter, as the interpreter finds them. Laws about which states are connected, as the interpreter finds them. Condition: none. -/
import Derived.Test.YtkchnhfeebkogaaN43Lv
import Derived.Test.YtkchnhfeebkogaaN43Widen
import Derived.Test.YtkchnhfeebkogaaN43Word
set_option linter.all false
set_option maxRecDepth 100000
set_option maxHeartbeats 4000000
namespace Ab
open Go
abbrev tyNst : Ty := .st [.int, .int, .int, .int, .int, .sl .bool, .sl (.sl .int), .sl (.sl .int), .sl (.sl .int), .sl (.sl (.sl .int))]
theorem has_Nst {x : AV} (h : tyNst.has x) : ∃ n : Nst, x = n.av ∧ n.fits := by
  obtain ⟨xs, rfl, h⟩ := h
  simp only [Ty.hasL] at h
  obtain ⟨x0, s0, rfl, h0, x1, s1, rfl, h1, x2, s2, rfl, h2, x3, s3, rfl, h3, x4, s4, rfl, h4, x5, s5, rfl, h5, x6, s6, rfl, h6, x7, s7, rfl, h7, x8, s8, rfl, h8, x9, s9, rfl, h9, rfl⟩ := h
  obtain ⟨a0, rfl, k0⟩ := has_int h0
  obtain ⟨a1, rfl, k1⟩ := has_int h1
  obtain ⟨a2, rfl, k2⟩ := has_int h2
  obtain ⟨a3, rfl, k3⟩ := has_int h3
  obtain ⟨a4, rfl, k4⟩ := has_int h4
  obtain ⟨a5, rfl, k5⟩ := has_B h5
  obtain ⟨a6, rfl, k6⟩ := has_II h6
  obtain ⟨a7, rfl, k7⟩ := has_II h7
  obtain ⟨a8, rfl, k8⟩ := has_II h8
  obtain ⟨a9, rfl, k9⟩ := has_III h9
  exact ⟨⟨a0, a1, a2, a3, a4, a5, a6, a7, a8, a9⟩, rfl, ⟨k0, k1, k2, k3, k4, k5, fun l hl => (k6.2 l hl).1, fun l hl => (k7.2 l hl).1, fun l hl => (k8.2 l hl).1, fun l hl => ⟨(k9.2 l hl).1, fun m hm => ((k9.2 l hl).2 m hm).1⟩⟩⟩
end Ab
namespace Ab
def Nst.small (n : Nst) : Bool := decide ((n.accept.length : Int) ≤ 5) && decide (n.stack ≤ 6) && decide (n.calls ≤ 6) && decide (n.inns ≤ 6) && decide (n.rets ≤ 6) && decide (wr (wr (n.calls + n.inns) + n.rets) ≤ 6)
theorem zL6e (n : Nst) (h : n.fits) : PC zHyK [n.av] = some (.bool n.small) := by
  refine zx72 (zQPZ rfl ?_)
  by_cases h1 : (n.accept.length : Int) ≤ 5 <;> by_cases h2 : n.stack ≤ 6 <;> by_cases h3 : n.calls ≤ 6 <;> by_cases h4 : n.inns ≤ 6 <;> by_cases h5 : n.rets ≤ 6 <;> simp [h1, h2, h3, h4, h5, Nst.small]
end Ab
