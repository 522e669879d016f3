/- The document's check of an automaton. Condition: none. -/
import Derived.Test.YtgaidfgpedibhaaN43Valid
set_option linter.all false
set_option maxRecDepth 100000
set_option maxHeartbeats 4000000
namespace Ab
theorem isState_s (n : Nst) (s : Int) : PC F_ref43_isState [n.av, .int s] = some (.bool (!out1 n.accept.length s)) := by
  refine PCx_of (go_ref43_isState rfl ?_)
  rw [not_out1]
  simp
  exact ⟨fun a => by simp [a], fun a b => by omega⟩
theorem rsizes_s (n : Nst) : PC F_ref43_sizes [n.av] = some (.int n.sizeE) := by
  refine PCx_of (go_ref43_sizes rfl ?_)
  by_cases e0 : n.calls < 0 ∨ 65 ≤ n.calls ∨ n.inns < 0 ∨ 65 ≤ n.inns ∨ n.rets < 0 ∨ 65 ≤ n.rets
  · rw [show n.sizeE = 2 by simp [Nst.sizeE, e0]]
    simp
    omega
  · have e2 := rsymbols_s n (by rw [inR_iff]; omega) (by rw [inR_iff]; omega)
    have d1 : ¬ n.calls < 0 := by omega
    have d2 : ¬ n.calls > 64 := by omega
    have d3 : ¬ n.inns < 0 := by omega
    have d4 : ¬ n.inns > 64 := by omega
    have d5 : ¬ n.rets < 0 := by omega
    have d6 : ¬ n.rets > 64 := by omega
    simp [d1, d2, d3, d4, d5, d6, e2]
    repeat' (first | apply And.intro | intro _)
    all_goals (unfold Nst.sizeE; rw [if_neg e0]; repeat (first | rw [if_pos (by assumption)] | rw [if_neg (by assumption)] | rw [if_neg (by omega)]))
theorem rstate_s (n : Nst) (h : n.fits) (s : Int) (h0 : 0 ≤ s) (h1 : s < n.call.length) (h2 : s < n.push.length) (h3 : s < n.inner.length) (h4 : s < n.pop.length) : PC F_ref43_state [n.av, .int s] = some (.int (n.rowE s)) := by
  refine PCx_of (go_ref43_state rfl ?_)
  have k1 := h.call _ (ix_mem h0 h1)
  have k2 := h.push _ (ix_mem h0 h2)
  have k3 := h.inner _ (ix_mem h0 h3)
  have k4 := h.pop _ (ix_mem h0 h4)
  simp [h0, h1, h2, h3, h4]
  refine ⟨fun a1 => ⟨fun a2 => ⟨fun a3 => ⟨fun a4 => ?_, fun a4 => by simp [Nst.rowE, a4]⟩, fun a3 => by simp [Nst.rowE, a3]⟩, fun a2 => by simp [Nst.rowE, a2]⟩, fun a1 => by simp [Nst.rowE, a1]⟩
  refine W_iter (fun i : Int => [(3, .int i)]) (fun _ => []) (fun i => 0 ≤ i ∧ i ≤ n.calls ∧ (∀ j, 0 ≤ j → j < i → out1 n.accept.length (ix (ix n.call s) j) = false) ∧ ∀ j, 0 ≤ j → j < i → out1 n.stack (ix (ix n.push s) j) = false) (fun i => (n.calls - i).toNat) 0 rfl ⟨by omega, by omega, upto_zero, upto_zero⟩ fun i ⟨i0, i1, i2, i3⟩ => ?_
  by_cases hi : i < n.calls
  · have e1 := isState_s n (ix (ix n.call s) i)
    simp [hi, e1, h0, h1, h2, i0, a1, a2]
    have q : bad (ix n.call s) n.accept.length = true ∨ bad (ix n.push s) n.stack = true ∨ bad (ix n.inner s) n.accept.length = true → 2 = n.rowE s := fun hh => by simp [Nst.rowE, a1, a2, a3, a4, hh]
    refine ⟨fun c1 => q (.inl (bad_t i0 (by omega) c1)), fun c1 => ⟨fun c2 => q (.inr (.inl (bad_t i0 (by omega) (by simp [out1, c2])))), fun c2 => ⟨fun c3 => q (.inr (.inl (bad_t i0 (by omega) (by simp [out1, c3])))), fun c3 => ⟨by omega, ⟨by omega, by omega, upto_succ c1 i2, upto_succ (out1_f.2 ⟨c2, c3⟩) i3⟩, by omega⟩⟩⟩⟩
  simp [hi]
  have b1 := bad_n (xs := ix n.call s) fun j a b => i2 j a (by omega)
  have b2 := bad_n (xs := ix n.push s) fun j a b => i3 j a (by omega)
  refine W_iter (fun i : Int => [(4, .int i)]) (fun _ => []) (fun i => 0 ≤ i ∧ i ≤ n.inns ∧ (∀ j, 0 ≤ j → j < i → out1 n.accept.length (ix (ix n.inner s) j) = false)) (fun i => (n.inns - i).toNat) 0 rfl ⟨by omega, by omega, upto_zero⟩ fun i' ⟨j0, j1, j2⟩ => ?_
  by_cases hj : i' < n.inns
  · have e1 := isState_s n (ix (ix n.inner s) i')
    simp [hj, e1, h0, h3, j0, a3]
    have q : bad (ix n.inner s) n.accept.length = true → 2 = n.rowE s := fun hh => by simp [Nst.rowE, a1, a2, a3, a4, hh]
    exact ⟨fun c1 => q (bad_t j0 (by omega) c1), fun c1 => ⟨by omega, ⟨by omega, by omega, upto_succ c1 j2⟩, by omega⟩⟩
  simp [hj]
  have b3 := bad_n (xs := ix n.inner s) fun j a b => j2 j a (by omega)
  have e : n.rowE s = firstN (fun g => n.popE (ix (ix n.pop s) g)) (ix n.pop s).length := by simp [Nst.rowE, a1, a2, a3, a4, b1, b2, b3]
  rw [e]
  refine W_iter (fun i : Int => [(5, .int i)]) (fun _ => []) (fun i => 0 ≤ i ∧ i ≤ (ix n.pop s).length ∧ ∀ j, 0 ≤ j → j < i → n.popE (ix (ix n.pop s) j) = 0) (fun i => ((ix n.pop s).length - i).toNat) 0 rfl (by simp; omega) fun g ⟨g0, g1, g2⟩ => ?_
  have q : g < (ix n.pop s).length → ∀ {x : Int}, n.popE (ix (ix n.pop s) g) = x → x ≠ 0 → x = firstN (fun g => n.popE (ix (ix n.pop s) g)) (ix n.pop s).length := fun hg x h1 h2 => by subst h1; exact (firstN_some (f := fun g => n.popE (ix (ix n.pop s) g)) g0 hg h2 g2).symm
  by_cases hg : g < (ix n.pop s).length
  · simp [show g < n.stack by omega, hg, h0, h4, g0]
    refine ⟨fun c1 => ?_, fun c1 => q hg (by simp [Nst.popE, c1]) (by simp)⟩
    have k5 := k4.2 _ (ix_mem g0 hg)
    refine W_iter (fun i : Int => [(6, .int i)]) (fun _ => []) (fun i => 0 ≤ i ∧ i ≤ n.rets ∧ (∀ j, 0 ≤ j → j < i → out1 n.accept.length (ix (ix (ix n.pop s) g) j) = false)) (fun i => (n.rets - i).toNat) 0 rfl ⟨by omega, by omega, upto_zero⟩ fun r ⟨r0, r1, r2⟩ => ?_
    by_cases hr : r < n.rets
    · have e1 := isState_s n (ix (ix (ix n.pop s) g) r)
      simp [hr, e1, h0, h4, g0, hg, r0, c1]
      exact ⟨fun c2 => q hg (by simp [Nst.popE, c1, bad_t r0 (by omega) c2]) (by simp), fun c2 => ⟨by omega, ⟨by omega, by omega, upto_succ c2 r2⟩, by omega⟩⟩
    · simp [hr]
      exact ⟨by omega, ⟨by omega, by omega, upto_succ (by simp [Nst.popE, c1, bad_n (xs := ix (ix n.pop s) g) fun j a b => r2 j a (by omega)]) g2⟩, by omega⟩
  · simp [show ¬ g < n.stack by omega]
    rw [firstN_none fun j a b => g2 j a (by omega)]
theorem RValid_s (n : Nst) (h : n.fits) : PC F_ref43_Valid [n.av] = some (.int n.validE) := by
  refine PCx_of (go_ref43_Valid rfl ?_)
  have e1 := rsizes_s n
  simp [e1]
  refine ⟨fun e3 => ?_, fun e3 => validE_pos rfl e3⟩
  rw [show n.validE = firstN n.rowE n.accept.length by simp [Nst.validE, e3]]
  have ha := h.accept
  have hs : (n.call.length : Int) = n.accept.length ∧ (n.push.length : Int) = n.accept.length ∧ (n.inner.length : Int) = n.accept.length ∧ (n.pop.length : Int) = n.accept.length := by
    unfold Nst.sizeE at e3
    (repeat' split at e3) <;> omega
  refine W_iter (fun i : Int => [(3, .int i)]) (fun _ => []) (fun i => 0 ≤ i ∧ i ≤ n.accept.length ∧ ∀ j, 0 ≤ j → j < i → n.rowE j = 0) (fun i => (n.accept.length - i).toNat) 0 rfl (by simp; omega) fun i ⟨i0, i1, i2⟩ => ?_
  by_cases hi : i < n.accept.length
  · have e4 := rstate_s n h i i0 (by omega) (by omega) (by omega) (by omega)
    simp [hi, e4]
    exact ⟨fun hz => ⟨by omega, ⟨by omega, by omega, upto_succ hz i2⟩, by omega⟩, fun hz => (firstN_some i0 hi hz i2).symm⟩
  · simp [hi]
    rw [firstN_none fun j a b => i2 j a (by omega)]
end Ab
