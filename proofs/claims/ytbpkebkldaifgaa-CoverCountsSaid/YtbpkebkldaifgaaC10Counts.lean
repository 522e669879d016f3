/- The law on counts. Condition: none. -/
import Derived.Test.YtbpkebkldaifgaaCovE
set_option linter.all false
set_option maxRecDepth 100000
set_option maxHeartbeats 4000000
namespace Ab
theorem CoverCounts_l (aw : PC F_law10_exampleHolds [] = some (.bool true)) (m : Mly) (h : m.fits) (ws : List (List Int)) (hw : okII ws) : PC F_law10_CoverCounts [m.av, iLL ws] = some (.bool true) := by
  refine PCx_of (go_law10_CoverCounts rfl ?_)
  have hw1 := hw.1
  have hwl : ∀ w ∈ ws, (w.length : Int) ≤ 9223372036854775807 := fun w hm => (hw.2 w hm).1
  by_cases h50 : 50 < (ws.length : Int)
  · cases hg : m.great <;> simp [Great_s m h, hg, aw, h50]
  · cases hg : m.great with
    | true => simp [Great_s m h, hg, aw]
    | false =>
      have e1 := Covered_s m h ws (by omega) hwl
      have e2 := RCovered_s m h ws (by omega) hwl
      simp [Great_s m h, hg, h50]
      (repeat' apply And.intro) <;> try omega
      refine W_iter (fun i : Int => [(3, .int i)]) (fun _ => []) (fun i => 0 ≤ i ∧ i ≤ ws.length) (fun i => (ws.length - i).toNat) 0 rfl ⟨by omega, by omega⟩ fun i ⟨i0, i1⟩ => ?_
      by_cases hi : i < ws.length
      · simp [-More_nor, hi, i0, aw]
        intro _
        exact ⟨by omega, More_of (i + 1) rfl rfl ⟨by omega, by omega⟩ (by omega)⟩
      · simp [hi, e1, e2, aw]
end Ab
