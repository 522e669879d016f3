/- Small functions of the laws of chapter 10. Condition: none. -/
import Derived.Test.YtmmkhoncblnicaaCovA
import Derived.Test.YtmmkhoncblnicaaGreatM
set_option linter.all false
set_option maxRecDepth 100000
set_option maxHeartbeats 4000000
namespace Ab
theorem Equal_r (l : List Int) (hl : (l.length : Int) ≤ 1000000) : PC F_ref08_Equal [iL l, iL l] = some (.bool true) := by
  refine PCx_of (go_ref08_Equal rfl ?_)
  simp
  refine W_iter (fun i : Int => [(2, .int i)]) (fun _ => []) (fun i => 0 ≤ i ∧ i ≤ l.length) (fun i => (l.length - i).toNat) 0 rfl ⟨by omega, by omega⟩ fun i ⟨i0, i1⟩ => ?_
  by_cases hi : i < l.length
  · simp [-More_nor, hi, i0]
    exact ⟨by omega, More_of (i + 1) rfl rfl ⟨by omega, by omega⟩ (by omega)⟩
  · simp [hi]
theorem Same_r (l : List (List Int)) (hl : (l.length : Int) ≤ 1000000) (hw : ∀ w ∈ l, (w.length : Int) ≤ 1000000) : PC F_ref10_Same [iLL l, iLL l] = some (.bool true) := by
  refine PCx_of (go_ref10_Same rfl ?_)
  simp
  refine W_iter (fun i : Int => [(2, .int i)]) (fun _ => []) (fun i => 0 ≤ i ∧ i ≤ l.length) (fun i => (l.length - i).toNat) 0 rfl ⟨by omega, by omega⟩ fun i ⟨i0, i1⟩ => ?_
  by_cases hi : i < l.length
  · have hwi := hw _ (ix_mem i0 hi)
    simp [-More_nor, hi, i0]
    refine W_iter (fun k : Int => [(3, .int k)]) (fun _ => []) (fun k => 0 ≤ k ∧ k ≤ (ix l i).length) (fun k => ((ix l i).length - k).toNat) 0 rfl ⟨by omega, by omega⟩ fun k ⟨k0, k1⟩ => ?_
    by_cases hk : k < (ix l i).length
    · simp [-More_nor, hi, i0, hk, k0]
      exact ⟨by omega, More_of (k + 1) rfl rfl ⟨by omega, by omega⟩ (by omega)⟩
    · simp [-More_nor, hk]
      (repeat' apply And.intro) <;> try omega
      refine More_of (i + 1) rfl rfl ⟨by omega, by omega⟩ (by omega)
  · simp [hi]


theorem great_f {m : Mly} (h : m.great = false) : (m.next.length : Int) ≤ 12 ∧ m.inputs ≤ 6 := by
  unfold Mly.great at h
  simp only [Bool.or_eq_false_iff, decide_eq_false_iff_not] at h
  omega
end Ab
namespace Ab
end Ab
