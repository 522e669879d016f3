/- slices.Repeat of one number. Condition: none. -/
import Derived.Test.YtmmkhoncblnicaaCovP
set_option linter.all false
set_option maxRecDepth 100000
set_option maxHeartbeats 4000000
namespace Ab
theorem view_ik {σ : List Blk} {fr : Bool} {k j : Nat} {n : Int} : view σ fr (k + 1) (.ik j n) = some (.ik j n) := rfl
theorem vd_ik {σ : List Blk} {fr : Bool} {j : Nat} {n : Int} : view σ fr vd (.ik j n) = some (.ik j n) := rfl
theorem Mul64_s (n : Int) (h : 0 ≤ n ∧ n ≤ 1000000) : PC F_math_bits_Mul64 [.ik 7 1, .ik 7 n] = some (.tup [.ik 7 0, .ik 7 n]) := by
  have e : L F_math_bits_Mul64 [.ik 7 1, .ik 7 n] [] = some (.tup [.ik 7 0, .ik 7 n], []) := by
    refine go_math_bits_Mul64 (N := 0) ?_
    unfold pMul64
    simp only
    rw [if_pos (by omega)]
    have h1 : 1 * n / 18446744073709551616 = 0 := by omega
    have h2 : 1 * n % 18446744073709551616 = n := by omega
    rw [h1, h2]
  show PCx L _ _ = _
  unfold PCx
  rw [e]
  rfl
theorem Mul_s (n : Int) (h : 0 ≤ n ∧ n ≤ 1000000) : PC F_math_bits_Mul [.ik 7 1, .ik 7 n] = some (.tup [.ik 7 0, .ik 7 n]) := by
  refine PCx_of (go_math_bits_Mul rfl ?_)
  simp [Mul64_s n h, vd_ik]
/-- A slice on its way. -/
def rpt (x : Int) (n k : Nat) : List AV := List.replicate k (.int x) ++ List.replicate (n - k) (.int 0)
theorem rpt_len {x : Int} {n k : Nat} (h : k ≤ n) : (rpt x n k).length = n := by simp [rpt]; omega
theorem rpt_put {x : Int} {n k : Nat} (h1 : 1 ≤ k) (h : k < n) : putAt (rpt x n k) k (((rpt x n k).take k).take (min k (n - k))) = rpt x n (k + min k (n - k)) := by
  have e : (rpt x n k).take k = List.replicate k (.int x) := by unfold rpt; rw [List.take_left' (by simp)]
  rw [e, List.take_replicate, Nat.min_eq_left (by omega)]
  unfold putAt
  rw [e]
  generalize hm : min k (n - k) = m
  have hmk : m ≤ n - k := by omega
  unfold rpt
  rw [List.length_replicate, List.drop_append, List.drop_replicate, List.drop_replicate, List.length_replicate, show k - (k + m) = 0 by omega, List.replicate_zero, List.nil_append, show k + m - k = m by omega, List.replicate_append_replicate, show n - k - m = n - (k + m) by omega]
theorem Repeat_l (x : Int) (n : Nat) (h : 1 ≤ n ∧ n ≤ 1000000) : L F_slices_Repeat_Sint_int [.imm false [.int x], .int n] [] = some (.sl 0 n 0 n, [⟨none, List.replicate n (.int x), .live⟩]) := by
  refine LX_eq (go_slices_Repeat_Sint_int rfl ?_)
  have e := Mul_s (n : Int) (by omega)
  simp [-More_nor, e]
  refine ⟨by omega, by omega, fun _ => ⟨by omega, by omega, fun h0 => absurd h0 (by omega), fun _ => ?_⟩⟩
  rw [Nat.min_eq_left (by omega : 1 ≤ n)]
  refine W_iter (fun k : Nat => [(5, .int k)]) (fun k => [⟨none, rpt x n k, .live⟩]) (fun k => 1 ≤ k ∧ k ≤ n) (fun k => n - k) 1 ?_ (by omega) ?_
  · obtain ⟨j, rfl⟩ : ∃ j, n = j + 1 := ⟨n - 1, by omega⟩
    simp [sets, rpt, putAt, List.replicate_succ, AV.cells]
  · intro k ⟨k1, k2⟩
    by_cases hk : k < n
    · have hr := rpt_len (x := x) k2
      simp [-More_nor, hk, hr]
      refine ⟨by omega, by omega, fun h0 => absurd h0 (by omega), fun _ _ => ⟨by omega, More_of (k + min k (n - k)) (by simp) (by rw [rpt_put k1 hk]) (by omega) (by omega)⟩⟩
    · have : k = n := by omega
      subst this
      simp [rpt]
end Ab
