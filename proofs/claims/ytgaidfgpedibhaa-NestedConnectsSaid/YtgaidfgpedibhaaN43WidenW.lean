/- The walk of widen. Condition: none. -/
import Derived.Test.YtgaidfgpedibhaaN43Widen
set_option linter.all false
set_option maxRecDepth 100000
set_option maxHeartbeats 4000000
namespace Ab
theorem widen_s (M : Mch) (hM : M.Ok) (t : Nat) (v : AV) (hv : MOk t v M) (n : Nst) (hc : n.calls = M.calls) (hr : n.rets = M.rets) (box : Blk) (m R : List (List Bool)) (rest : List Blk) (br : Nat)
    (hm : Sq M.size m) (hR : Sq M.size R) (hb : ∀ m', m'.length = m.length → blk (mat box M.size m' rest) br = some ⟨none, R.map bL, .live⟩) :
    LX L F_nested_widen [.iface t v, n.av, .sl 1 M.size 0 M.size, .sl br M.size 0 M.size] (mat box M.size m rest) (WPost M box m R rest) := by
  obtain ⟨fc, tc, pc⟩ := hv.call
  obtain ⟨fp, tp, pp⟩ := hv.pop
  have hsz := hM.size
  have hMc := hM.calls
  have hMr := hM.rets
  have hloc := hv.loc
  have hwk := hv.wk
  refine go_nested_widen rfl ?_
  simp
  refine W_iter (fun p : Int × List (List Bool) × Bool => [(4, .int p.1), (19, .bool p.2.2)]) (fun p => mat box M.size p.2.1 rest)
    (fun p => (0 ≤ p.1 ∧ p.1 ≤ M.size) ∧ Grew M R m p.2.1 p.2.2 ∧ ∀ s, 0 ≤ s → s < p.1 → ∀ u, Wide M R s u → rel p.2.1 s u)
    (fun p => (M.size - p.1).toNat) (0, m, false) (by simp [sets]) ⟨by simp, ⟨hm, fun _ _ h => h, fun _ _ h => .inl h, fun _ => rfl, by simp, Nat.le_refl _⟩, upto_zero⟩ ?_
  rintro ⟨i, m1, ch⟩ ⟨⟨i0, i1⟩, h1, h2⟩
  dsimp only at i0 i1 h1 h2 ⊢
  by_cases hi : i < (M.size : Int)
  · simp [-More_nor, hi, hc]
    refine W_iter (fun p : Int × List (List Bool) × Bool => [(7, .int p.1), (19, .bool p.2.2)]) (fun p => mat box M.size p.2.1 rest)
      (fun p => (0 ≤ p.1 ∧ p.1 ≤ M.calls) ∧ Grew M R m p.2.1 p.2.2 ∧ (∀ s, 0 ≤ s → s < i → ∀ u, Wide M R s u → rel p.2.1 s u) ∧ ∀ c, 0 ≤ c → c < p.1 → ∀ q r, 0 ≤ r → r < M.rets → rel R (M.call i c).1 q → rel p.2.1 i (M.pop q (M.call i c).2 r))
      (fun p => (M.calls - p.1).toNat) (0, m1, ch) (by simp [sets]) ⟨by simp; omega, h1, h2, upto_zero⟩ ?_
    rintro ⟨c, m2, ch2⟩ ⟨⟨c0, c1⟩, g1, g2, g3⟩
    dsimp only at c0 c1 g1 g2 g3 ⊢
    by_cases hcc : c < M.calls
    · have hq := hM.call i c i0 hi c0 hcc
      have e1 := pc i c i0 hi c0 hcc
      have hRr := hR.row hq.1 hq.2
      have hb2 := hb m2 (by rw [g1.sq.1, hm.1])
      have hRl := hR.1
      simp [-More_nor, hcc, tc, hloc, hwk, e1, hq.1, hq.2, hb2, show (M.call i c).1.toNat < R.length by omega]
      refine ⟨hRl, ?_⟩
      refine W_iter (fun p : Int × List (List Bool) × Bool => [(12, .int p.1), (19, .bool p.2.2)]) (fun p => mat box M.size p.2.1 rest)
        (fun p => (0 ≤ p.1 ∧ p.1 ≤ (M.size : Int)) ∧ Grew M R m p.2.1 p.2.2 ∧ (∀ a b, rel m2 a b → rel p.2.1 a b) ∧ ∀ q, 0 ≤ q → q < p.1 → ∀ r, 0 ≤ r → r < M.rets → rel R (M.call i c).1 q → rel p.2.1 i (M.pop q (M.call i c).2 r))
        (fun p => (M.size - p.1).toNat) (0, m2, ch2) (by simp [sets]) ⟨by simp, g1, fun _ _ h => h, upto_zero⟩ ?_
      rintro ⟨q, m3, ch3⟩ ⟨⟨q0, q1⟩, k1, k2, k3⟩
      dsimp only at q0 q1 k1 k2 k3 ⊢
      by_cases hqq : q < (M.size : Int)
      · have hqr : q < ((ix R (M.call i c).1).length : Int) := by omega
        simp [-More_nor, hqr, q0]
        refine W_iter (fun p : Int × List (List Bool) × Bool => [(15, .int p.1), (19, .bool p.2.2)]) (fun p => mat box M.size p.2.1 rest)
          (fun p => (0 ≤ p.1 ∧ p.1 ≤ M.rets) ∧ Grew M R m p.2.1 p.2.2 ∧ (∀ a b, rel m3 a b → rel p.2.1 a b) ∧ ∀ r, 0 ≤ r → r < p.1 → rel R (M.call i c).1 q → rel p.2.1 i (M.pop q (M.call i c).2 r))
          (fun p => (M.rets - p.1).toNat) (0, m3, ch3) (by simp [sets]) ⟨by simp; omega, k1, fun _ _ h => h, upto_zero⟩ ?_
        rintro ⟨r, m4, ch4⟩ ⟨⟨r0, r1⟩, l1, l2, l3⟩
        dsimp only at r0 r1 l1 l2 l3 ⊢
        by_cases hgo : r < M.rets ∧ ix (ix R (M.call i c).1) q = true
        · obtain ⟨hrr, hok⟩ := hgo
          have hrel : rel R (M.call i c).1 q := ⟨hq.1, by rw [hR.1]; exact hq.2, q0, by rw [hR.1]; exact hqq, hok⟩
          have hu := hM.pop i c q r i0 hi c0 hcc q0 hqq r0 hrr
          have e2 := pp i c q r i0 hi c0 hcc q0 hqq r0 hrr
          have hw : Wide M R i (M.pop q (M.call i c).2 r) := ⟨c, q, r, ⟨c0, hcc⟩, ⟨r0, hrr⟩, hrel, rfl⟩
          obtain ⟨n1, n2, n3⟩ := l1.more i0 hi hu.1 hu.2 hw
          have hl4 := l1.sq.1
          have hrow4 := l1.sq.row i0 hi
          have b1 := blk_outer1 (box := box) (rest := rest) hl4
          have b2 := blk_row (box := box) (N := M.size) (rest := rest) (m := m4) i0 (by omega)
          have b3 := ix_range (N := M.size) i0 hi
          have b4 := fun r => setB_row (box := box) (N := M.size) (rest := rest) (m := m4) (r := r) i0 (by omega)
          have fin : ∀ ch5 : Bool, ch5 = (ch4 || !ix (ix m4 i) (M.pop q (M.call i c).2 r)) → (0 ≤ r + 1 ∧ r + 1 ≤ M.rets) ∧ Grew M R m (upd m4 i (M.pop q (M.call i c).2 r)) ch5 ∧ (∀ a b, rel m3 a b → rel (upd m4 i (M.pop q (M.call i c).2 r)) a b) ∧ ∀ r', 0 ≤ r' → r' < r + 1 → rel R (M.call i c).1 q → rel (upd m4 i (M.pop q (M.call i c).2 r)) i (M.pop q (M.call i c).2 r') := by
            rintro ch5 rfl
            exact ⟨by omega, n1, fun a b h => n3 a b (l2 a b h), upto_succ (fun _ => n2) fun r' a b h => n3 _ _ (l3 r' a b h)⟩
          have hrow4i : (M.pop q (M.call i c).2 r) < ((ix m4 i).length : Int) := by omega
          cases ch4 with
          | true =>
            simp [-More_nor, -List.map_set, hr, hrr, hok, tp, hloc, hwk, e2, i0, hi, hu.1, hu.2, b1, b2, b3, b4, hrow4, show (M.pop q (M.call i c).2 r).toNat < M.size by omega]
            (repeat' apply And.intro) <;> try omega
            exact More_of (r + 1, upd m4 i (M.pop q (M.call i c).2 r), true) (by simp) (by simp [upd]) (fin true (by simp)) (by dsimp only; omega)
          | false =>
            cases hx : ix (ix m4 i) (M.pop q (M.call i c).2 r) with
            | true =>
              simp [-More_nor, -List.map_set, hr, hrr, hok, tp, hloc, hwk, e2, i0, hi, hu.1, hu.2, b1, b2, b3, b4, hrow4, hx, show (M.pop q (M.call i c).2 r).toNat < M.size by omega]
              (repeat' apply And.intro) <;> try omega
              exact More_of (r + 1, upd m4 i (M.pop q (M.call i c).2 r), false) (by simp) (by simp [upd]) (fin false (by simp [hx])) (by dsimp only; omega)
            | false =>
              simp [-More_nor, -List.map_set, hr, hrr, hok, tp, hloc, hwk, e2, i0, hi, hu.1, hu.2, b1, b2, b3, b4, hrow4, hx, show (M.pop q (M.call i c).2 r).toNat < M.size by omega]
              (repeat' apply And.intro) <;> try omega
              exact More_of (r + 1, upd m4 i (M.pop q (M.call i c).2 r), true) (by simp) (by simp [upd]) (fin true (by simp [hx])) (by dsimp only; omega)
        · have out : (0 ≤ q + 1 ∧ q + 1 ≤ (M.size : Int)) ∧ Grew M R m m4 ch4 ∧ (∀ a b, rel m2 a b → rel m4 a b) ∧ ∀ q', 0 ≤ q' → q' < q + 1 → ∀ r', 0 ≤ r' → r' < M.rets → rel R (M.call i c).1 q' → rel m4 i (M.pop q' (M.call i c).2 r') := by
            refine ⟨by omega, l1, fun a b h => l2 a b (k2 a b h), upto_succ ?_ fun q' a b r' r0' r1' h => l2 _ _ (k3 q' a b r' r0' r1' h)⟩
            intro r' r0' r1' hrel
            refine l3 r' r0' ?_ hrel
            have : ¬ r < M.rets := fun hh => hgo ⟨hh, hrel.2.2.2.2⟩
            omega
          by_cases hrr : r < M.rets
          · have hok : ix (ix R (M.call i c).1) q = false := by
              cases hx : ix (ix R (M.call i c).1) q with
              | false => rfl
              | true => exact absurd ⟨hrr, hx⟩ hgo
            simp [-More_nor, hr, hrr, hok]
            (repeat' apply And.intro) <;> try omega
            exact More_of (q + 1, m4, ch4) (by simp) rfl out (by dsimp only; omega)
          · simp [-More_nor, hr, hrr]
            (repeat' apply And.intro) <;> try omega
            exact More_of (q + 1, m4, ch4) (by simp) rfl out (by dsimp only; omega)
      · simp [-More_nor, show ¬ q < ((ix R (M.call i c).1).length : Int) by omega]
        (repeat' apply And.intro) <;> try omega
        refine More_of (c + 1, m3, ch3) (by simp) rfl ⟨⟨by dsimp only; omega, by dsimp only; omega⟩, k1, fun s s0 s1 u hu => k2 _ _ (g2 s s0 s1 u hu), ?_⟩ (by dsimp only; omega)
        exact upto_succ (fun q r r0 r1 hrel => k3 q hrel.2.2.1 (by have := hrel.2.2.2.1; omega) r r0 r1 hrel) fun c' c0' c1' q r r0 r1 hrel => k2 _ _ (g3 c' c0' c1' q r r0 r1 hrel)
    · simp [-More_nor, hcc]
      refine ⟨by omega, ?_⟩
      refine More_of (i + 1, m2, ch2) (by simp) rfl ⟨⟨by dsimp only; omega, by dsimp only; omega⟩, g1, ?_⟩ (by dsimp only; omega)
      refine upto_succ ?_ g2
      rintro u ⟨c', p, r, hc', hr', hp, rfl⟩
      exact g3 c' hc'.1 (by omega) p r hr'.1 hr'.2 hp
  · simp [hi]
    exact ⟨ch, m1, rfl, rfl, h1, fun s u s0 s1 hw => h2 s s0 (by omega) u hw⟩
end Ab
