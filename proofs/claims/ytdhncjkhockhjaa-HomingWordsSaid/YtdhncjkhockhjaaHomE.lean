/- Equal lists of numbers, by the document. The example of the chapter, from what the functions are. Condition: none. -/
import Derived.Test.YtdhncjkhockhjaaHomP
import Derived.Test.YtdhncjkhockhjaaHomV
set_option linter.all false
set_option maxRecDepth 100000
set_option maxHeartbeats 4000000
namespace Ab
theorem EqI_s (a b : List Int) (ha : (a.length : Int) ≤ 1000000) (hb : (b.length : Int) ≤ 1000000) : PC F_ref08_Equal [iL a, iL b] = some (.bool (decide (a = b))) := by
  refine PCx_of (go_ref08_Equal rfl ?_)
  by_cases hl : a.length = b.length
  · simp [hl]
    refine W_iter (fun i : Int => [(2, .int i)]) (fun _ => []) (fun i => 0 ≤ i ∧ i ≤ b.length ∧ ∀ j, 0 ≤ j → j < i → ix a j = ix b j) (fun i => (b.length - i).toNat) 0 rfl ⟨by omega, by omega, upto_zero⟩ fun i ⟨i0, i1, i2⟩ => ?_
    by_cases hi : i < a.length
    · have hib : i < (b.length : Int) := by omega
      simp [-More_nor, hl, hib, i0]
      refine ⟨fun h => ⟨by omega, More_of (i + 1) rfl rfl ⟨by omega, by omega, upto_succ h i2⟩ (by omega)⟩, fun h e => ?_⟩
      subst e; exact h rfl
    · have hib : ¬ i < (b.length : Int) := by omega
      have e := ext_ix hl fun j j0 j1 => i2 j j0 (by omega)
      simp [hl, hib]
      exact e
  · have hl' : ¬ (a.length : Int) = b.length := by omega
    have he : ¬ a = b := fun e => hl (by rw [e])
    simp [hl', he, hl]
end Ab
namespace Ab
def exm : Mly := ⟨1, 0, [[1], [2], [0]], [[0], [0], [1]]⟩
theorem exm_v : exm.validE = 0 := by decide +kernel
theorem exm_ok : exm.Ok := mvalidE_ok exm_v
theorem exm_mnl : exm.mnlb = true := mnlb_t.2 ⟨exm_v, (mini_iff exm_ok).1 (by decide +kernel)⟩
theorem exm_w : hwA exm = ([0, 0], 0) := by
  unfold hwA
  rw [if_neg (by rw [exm_v]; simp), if_pos exm_mnl]
  have : exm.hwd exm.next.length [] = [0, 0] := by decide +kernel
  rw [this]
theorem exm_r1 : exm.hchk [0, 0] = 0 ∧ exm.hop [0, 0] = [] := by decide +kernel
theorem exm_r2 : exm.hchk [0] = 0 ∧ exm.hop [0] ≠ [] := by decide +kernel
theorem exm_p : exm.pos [0] [0] = ([1, 2], 0) ∧ exm.pos [0] [] = ([], 1) ∧ exm.fin [0, 0] [0, 1] = (0, true, 0) := by decide +kernel
theorem awake : PC F_law13_exampleHolds [] = some (.bool true) := by
  refine PCx_of (go_law13_exampleHolds rfl ?_)
  have hf := mok_fits exm_ok
  have h1 := Word_s exm hf (fun _ => by show 3 ≤ 8; omega)
  have h2 := Resolves_s exm hf [0, 0] (by simp)
  have h3 := Resolves_s exm hf [0] (by simp)
  have h4 := Possible_s exm hf [0] [0] (by simp) (by simp)
  have h5 := Possible_s exm hf [0] [] (by simp) (by simp)
  have h6 := Final_s exm hf [0, 0] [0, 1] (by simp) (by simp)
  have h7 := EqI_s [0, 0] [0, 0] (by simp) (by simp)
  have h8 := EqI_s [1, 2] [1, 2] (by simp) (by simp)
  rw [exm_w] at h1
  rw [exm_p.1] at h4
  rw [exm_p.2.1] at h5
  rw [exm_p.2.2] at h6
  have e2 : decide (exm.hchk [0, 0] = 0 ∧ exm.hop [0, 0] = []) = true := by simpa using exm_r1
  have e3 : decide (exm.hchk [0] = 0 ∧ exm.hop [0] = []) = false := by have := exm_r2; simpa using fun _ => this.2
  rw [e2, exm_r1.1] at h2
  rw [e3, exm_r2.1] at h3
  have k1 : PC F_homing_Word [.agg [.int 1, .int 0, .imm false [.imm false [.int 1], .imm false [.int 2], .imm false [.int 0]], .imm false [.imm false [.int 0], .imm false [.int 0], .imm false [.int 1]]]] = some (.tup [.imm false [.int 0, .int 0], .int 0]) := h1
  have k2 : PC F_homing_Resolves [.agg [.int 1, .int 0, .imm false [.imm false [.int 1], .imm false [.int 2], .imm false [.int 0]], .imm false [.imm false [.int 0], .imm false [.int 0], .imm false [.int 1]]], .imm false [.int 0, .int 0]] = some (.tup [.bool true, .int 0]) := h2
  have k3 : PC F_homing_Resolves [.agg [.int 1, .int 0, .imm false [.imm false [.int 1], .imm false [.int 2], .imm false [.int 0]], .imm false [.imm false [.int 0], .imm false [.int 0], .imm false [.int 1]]], .imm false [.int 0]] = some (.tup [.bool false, .int 0]) := h3
  have k4 : PC F_homing_Possible [.agg [.int 1, .int 0, .imm false [.imm false [.int 1], .imm false [.int 2], .imm false [.int 0]], .imm false [.imm false [.int 0], .imm false [.int 0], .imm false [.int 1]]], .imm false [.int 0], .imm false [.int 0]] = some (.tup [.imm false [.int 1, .int 2], .int 0]) := h4
  have k5 : PC F_homing_Possible [.agg [.int 1, .int 0, .imm false [.imm false [.int 1], .imm false [.int 2], .imm false [.int 0]], .imm false [.imm false [.int 0], .imm false [.int 0], .imm false [.int 1]]], .imm false [.int 0], .imm false []] = some (.tup [.imm false [], .int 1]) := h5
  have k6 : PC F_homing_Final [.agg [.int 1, .int 0, .imm false [.imm false [.int 1], .imm false [.int 2], .imm false [.int 0]], .imm false [.imm false [.int 0], .imm false [.int 0], .imm false [.int 1]]], .imm false [.int 0, .int 0], .imm false [.int 0, .int 1]] = some (.tup [.int 0, .bool true, .int 0]) := h6
  have k7 : PC F_ref08_Equal [.imm false [.int 0, .int 0], .imm false [.int 0, .int 0]] = some (.bool true) := h7
  have k8 : PC F_ref08_Equal [.imm false [.int 1, .int 2], .imm false [.int 1, .int 2]] = some (.bool true) := h8
  simp [k1, k2, k3, k4, k5, k6, k7, k8]
  trace_state
end Ab
