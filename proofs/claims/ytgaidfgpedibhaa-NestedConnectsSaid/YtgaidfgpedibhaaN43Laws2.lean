/- Laws about which states are connected, as the interpreter finds them. Condition: none. -/
import Derived.Test.YtgaidfgpedibhaaN43Laws
import Derived.Test.YtgaidfgpedibhaaN43Word
set_option linter.all false
set_option maxRecDepth 100000
set_option maxHeartbeats 4000000
namespace Ab
/-- At most 5 states, 6 stack symbols and 6 symbols. -/
def Nst.small (n : Nst) : Bool := decide ((n.accept.length : Int) ≤ 5) && decide (n.stack ≤ 6) && decide (n.calls ≤ 6) && decide (n.inns ≤ 6) && decide (n.rets ≤ 6) && decide (wr (wr (n.calls + n.inns) + n.rets) ≤ 6)
theorem Small_s (n : Nst) (h : n.fits) : PC F_law43_Small [n.av] = some (.bool n.small) := by
  refine PCx_of (go_law43_Small rfl ?_)
  by_cases h1 : (n.accept.length : Int) ≤ 5 <;> by_cases h2 : n.stack ≤ 6 <;> by_cases h3 : n.calls ≤ 6 <;> by_cases h4 : n.inns ≤ 6 <;> by_cases h5 : n.rets ≤ 6 <;> simp [h1, h2, h3, h4, h5, Nst.small]
theorem pairs_len (n : Nst) : (n.pairs.length : Int) ≤ n.accept.length ∧ ∀ r ∈ n.pairs, r.length = n.accept.length := by
  unfold Nst.pairs
  split
  · have := conT_sq (M := n.mch)
    exact ⟨by rw [this.1]; simp [Nst.mch], this.2⟩
  · simp
theorem small_len {n : Nst} (h : n.small = true) : (n.accept.length : Int) ≤ 5 := by
  simp only [Nst.small, Bool.and_eq_true, decide_eq_true_eq] at h
  omega
theorem NestedPairs_l (aw : PC F_law43_awake [] = some (.bool true)) (n : Nst) (h : n.fits) : PC F_law43_NestedPairs [n.av] = some (.bool true) := by
  refine PCx_of (go_law43_NestedPairs rfl ?_)
  cases hs : n.small with
  | false => simp [Small_s n h, hs, aw]
  | true =>
    have hl := small_len hs
    have hp := pairs_len n
    have e := SameTables_s n.pairs (by omega) (fun r hr => by rw [hp.2 r hr]; omega)
    simp [Small_s n h, hs, aw, Pairs_s n h, RPairs_s n h, e]
theorem NestedConnects_l (aw : PC F_law43_awake [] = some (.bool true)) (n : Nst) (h : n.fits) (w : List Int) (hw : (w.length : Int) ≤ 9223372036854775807) : PC F_law43_NestedConnects [n.av, iL w] = some (.bool true) := by
  refine PCx_of (go_law43_NestedConnects rfl ?_)
  cases hs : n.small with
  | false => simp [Small_s n h, hs, aw]
  | true =>
    have hl := small_len hs
    by_cases hw6 : 60 < (w.length : Int)
    · simp [Small_s n h, hs, hw6, aw]
    by_cases hv : n.validE = 0
    case neg =>
      have hp : n.pairs = [] := by simp [Nst.pairs, hv]
      simp [Small_s n h, hs, hw6, Pairs_s n h, hv, hp, aw]
    simp [Small_s n h, hs, hw6, Pairs_s n h, hv]
    have ok := validE_ok hv
    have hp : n.pairs = conT n.mch := by simp [Nst.pairs, hv]
    rw [hp]
    have hq : Sq n.accept.length (conT n.mch) := conT_sq
    have hql := hq.1
    have hc : ∀ {s t : Int}, 0 ≤ s → s < n.accept.length → 0 ≤ t → t < n.accept.length → (ix (ix (conT n.mch) s) t = true ↔ Conn n.mch s t) := fun s0 s1 t0 t1 => conT_ix (M := n.mch) s0 s1 t0 t1
    refine W_iter (fun i : Int => [(5, .int i)]) (fun _ => []) (fun i => 0 ≤ i ∧ i ≤ (n.accept.length : Int)) (fun i => (n.accept.length - i).toNat) 0 rfl (by simp) fun i ⟨i0, i1⟩ => ?_
    by_cases hi : i < (n.accept.length : Int)
    · have hr := hq.row i0 hi
      have := (hc i0 hi i0 hi).2 (.refl _)
      simp [i0, hi, hql, hr, this]
      omega
    simp [-More_nor, hql, hi]
    refine W_iter (fun i : Int => [(6, .int i)]) (fun _ => []) (fun i => 0 ≤ i ∧ i ≤ (n.accept.length : Int)) (fun i => (n.accept.length - i).toNat) 0 rfl (by simp) fun x ⟨x0, x1⟩ => ?_
    by_cases hx : x < (n.accept.length : Int)
    · simp [-More_nor, hql, hx]
      refine W_iter (fun i : Int => [(7, .int i)]) (fun _ => []) (fun i => 0 ≤ i ∧ i ≤ (n.accept.length : Int)) (fun i => (n.accept.length - i).toNat) 0 rfl (by simp) fun y ⟨y0, y1⟩ => ?_
      by_cases hy : y < (n.accept.length : Int)
      · simp [-More_nor, hql, hy]
        refine W_iter (fun i : Int => [(8, .int i)]) (fun _ => []) (fun i => 0 ≤ i ∧ i ≤ (n.accept.length : Int)) (fun i => (n.accept.length - i).toNat) 0 rfl (by simp) fun z ⟨z0, z1⟩ => ?_
        by_cases hz : z < (n.accept.length : Int)
        · have r1 := hq.row x0 hx
          have r2 := hq.row y0 hy
          have k1 := hc x0 hx y0 hy
          have k2 := hc y0 hy z0 hz
          have k3 := hc x0 hx z0 hz
          cases a1 : ix (ix (conT n.mch) x) y with
          | false => simp [hql, hx, hy, hz, x0, y0, z0, r1, r2, a1]; omega
          | true =>
            cases a2 : ix (ix (conT n.mch) y) z with
            | false => simp [hql, hx, hy, hz, x0, y0, z0, r1, r2, a1, a2]; omega
            | true =>
              have a3 := k3.2 ((k1.1 a1).trans (k2.1 a2))
              simp [hql, hx, hy, hz, x0, y0, z0, r1, r2, a1, a2, a3]; omega
        · simp [hql, hz]; omega
      · simp [hql, hy]; omega
    simp [-More_nor, hql, hx, Matched_s n h w hw]
    refine ⟨fun hm => ?_, fun hm => by simp [aw]⟩
    refine W_iter (fun i : Int => [(9, .int i)]) (fun _ => []) (fun i => 0 ≤ i ∧ i ≤ (n.accept.length : Int)) (fun i => (n.accept.length - i).toNat) 0 rfl (by simp) fun x ⟨x0, x1⟩ => ?_
    by_cases hx : x < (n.accept.length : Int)
    · simp [Nst.matched, hv] at hm
      have hwd := wordE_zero (n := n) hm.1
      have hup : n.up w := up_of (mat_t hm.2).1
      have e := From_s n ok w hwd hup x ⟨x0, hx⟩
      have hr := (run_inv ok hwd hup (s := x) ⟨x0, hx⟩ (i := w.length) (by omega) (by omega)).1
      rw [runp_end (Int.le_refl _)] at hr
      have hr1 := hq.row x0 hx
      have hcn := (hc x0 hx hr.1 hr.2).2 ((wd_nst ok).2 ⟨hwd.2, hm.2, rfl⟩).conn
      simp [hql, hx, x0, e, hr.1, hr.2, hr1, hcn]
      omega
    · simp [hql, hx, aw]
end Ab
