/- Equality of lists, of machines. What the changes of Explain are. The law on the words of the changes. Condition: none. -/
import Derived.Test.YtmmkhoncblnicaaBfsOrd
import Derived.Test.YtmmkhoncblnicaaDifA
import Derived.Test.YtmmkhoncblnicaaCovG
import Derived.Test.YtmmkhoncblnicaaTrimT
set_option linter.all false
set_option maxRecDepth 100000
set_option maxHeartbeats 4000000
namespace Ab
theorem ext_ix {a b : List Int} (hl : a.length = b.length) (h : ∀ j, 0 ≤ j → j < (a.length : Int) → ix a j = ix b j) : a = b := by
  apply List.ext_getElem hl
  intro i h1 h2
  have := h i (by omega) (by omega)
  rwa [ix_nat h1, ix_nat h2] at this
/-- The lengths are not great. -/
structure Mly.Lil (m : Mly) : Prop where
  nl : (m.next.length : Int) ≤ 1000000
  ol : (m.out.length : Int) ≤ 1000000
  nr : ∀ r ∈ m.next, (r.length : Int) ≤ 1000000
  or : ∀ r ∈ m.out, (r.length : Int) ≤ 1000000
end Ab
namespace Ab
theorem EqI_s (a b : List Int) (ha : (a.length : Int) ≤ 1000000) (hb : (b.length : Int) ≤ 1000000) : PC F_ref08_Equal [iL a, iL b] = some (.bool (decide (a = b))) := by
  refine PCx_of (go_ref08_Equal rfl ?_)
  by_cases hl : a.length = b.length
  · simp [hl]
    refine W_iter (fun i : Int => [(2, .int i)]) (fun _ => []) (fun i => 0 ≤ i ∧ i ≤ b.length ∧ ∀ j, 0 ≤ j → j < i → ix a j = ix b j) (fun i => (b.length - i).toNat) 0 rfl ⟨by omega, by omega, upto_zero⟩ fun i ⟨i0, i1, i2⟩ => ?_
    by_cases hi : i < a.length
    · have hib : i < (b.length : Int) := by omega
      simp [-More_nor, hl, hib, i0]
      refine ⟨fun h => ⟨by omega, More_of (i + 1) rfl rfl ⟨by omega, by omega, upto_succ h i2⟩ (by omega)⟩, fun h e => ?_⟩
      subst e; exact h rfl
    · have hib : ¬ i < (b.length : Int) := by omega
      have e := ext_ix hl fun j j0 j1 => i2 j j0 (by omega)
      simp [hl, hib]
      exact e
  · have hl' : ¬ (a.length : Int) = b.length := by omega
    have he : ¬ a = b := fun e => hl (by rw [e])
    simp [hl', he, hl]
end Ab
namespace Ab
theorem wordE_0 {w : List Int} {k : Int} (h1 : 1 ≤ k ∧ k ≤ 1024) (h2 : (w.length : Int) ≤ 1024) (h3 : ∀ x ∈ w, 0 ≤ x ∧ x < k) : wordE w k = 0 := by
  unfold wordE
  rw [if_neg (by omega), if_neg (by omega), if_neg (by rw [bad_f.2 h3]; simp)]
theorem from_ok {m : Mly} (hv : m.validE = 0) {u : List Int} (hu : ∀ y ∈ u, 0 ≤ y ∧ y < m.inputs) (hl : (u.length : Int) ≤ 1024) : m.from m.start u = (m.outs m.start u, m.run m.start u, 0) := by
  have hm := mvalidE_ok hv
  have hin := hm.inputs
  rw [From_e hv hm.start, if_neg (by rw [wordE_0 (by omega) hl hu]; simp)]
end Ab
