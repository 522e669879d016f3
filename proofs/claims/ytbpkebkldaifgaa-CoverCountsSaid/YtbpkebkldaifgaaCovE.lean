/- How many states and transitions words visit, by the document. Condition: none. -/
import Derived.Test.YtbpkebkldaifgaaCovD
set_option linter.all false
set_option maxRecDepth 100000
set_option maxHeartbeats 4000000
namespace Ab
section
variable {C N : Nat} {T : List (List Bool)} {rest : List Blk}
theorem g0_outerN (h : T.length = N) : blk (grid0 C N T rest) 0 = some ⟨none, rfs 1 N C, .live⟩ := by rw [g0_outer, h]; simp
theorem g0_set {s : Int} {r : List Bool} (h0 : 0 ≤ s) (h1 : s < T.length) : setB (grid0 C N T rest) (1 + s.toNat) ⟨none, r.map .bool, .live⟩ = grid0 C N (T.set s.toNat r) rest := by
  rw [setBS, grid0, grid0, show 1 + s.toNat = s.toNat + 1 by omega, List.set_cons_succ, List.set_append, if_pos (by simp; omega)]
  simp [List.map_set]
theorem g0_rest {B : Blk} (h : T.length = N) : blk (grid0 C N T [B]) (1 + N) = some B := by
  subst h
  rw [blkS, grid0, show 1 + T.length = T.length + 1 by omega, List.getElem?_cons_succ, List.getElem?_append_right (by simp)]
  simp
theorem g0_setrest {B B' : Blk} (h : T.length = N) : setB (grid0 C N T [B]) (1 + N) B' = grid0 C N T [B'] := by
  subst h
  rw [setBS, grid0, grid0, show 1 + T.length = T.length + 1 by omega, List.set_cons_succ, List.set_append, if_neg (by simp)]
  simp
theorem g0_zero (h : T.length = N) : (grid0 C N T []).map (shB 0) = grid0 C N T [] := by
  subst h
  unfold grid0
  simp only [List.map_cons, List.append_nil, shB_rows, shB, Nat.sub_self, List.replicate_zero, shL_rfs]
end
theorem RCovered_s (m : Mly) (h : m.fits) (ws : List (List Int)) (hws : (ws.length : Int) ≤ 1000000) (hwl : ∀ w ∈ ws, (w.length : Int) ≤ 9223372036854775807) : PC F_ref10_Covered [m.av, iLL ws] = some (covA (m.covE ws)) := by
  refine PCx_of (go_ref10_Covered rfl ?_)
  by_cases hv : m.validE = 0
  · have hm := mvalidE_ok hv
    obtain ⟨hi1, hi2⟩ := hm.inputs
    obtain ⟨hs1, hs2⟩ := hm.states
    simp [-List.map_replicate, rmValid_s m h, hv]
    refine W_iter (fun i : Int => [(4, .int i)]) (fun _ => []) (fun i => 0 ≤ i ∧ i ≤ ws.length ∧ ∀ j, 0 ≤ j → j < i → wordE (ix ws j) m.inputs = 0) (fun i => (ws.length - i).toNat) 0 rfl ⟨by omega, by omega, upto_zero⟩ fun i ⟨i0, i1, i2⟩ => ?_
    by_cases hi : i < ws.length
    · have hc := rCheck_s (ix ws i) m.inputs (hwl _ (ix_mem i0 hi))
      simp [-More_nor, hi, i0, hc]
      refine ⟨fun e => ⟨by omega, More_of (i + 1) (by simp) rfl ⟨by omega, by omega, upto_succ e i2⟩ (by omega)⟩, fun e => ?_⟩
      have hE0 : m.wordsE ws = wordE (ix ws i) m.inputs := firstN_some (f := fun i => wordE (ix ws i) m.inputs) i0 hi e i2
      have hE : m.covE ws = (0, 0, m.wordsE ws) := by unfold Mly.covE; rw [if_neg (by simpa using hv), if_pos (by rw [hE0]; exact e)]
      rw [hE, hE0]; simp
    · have hE0 : m.wordsE ws = 0 := firstN_none fun j a b => i2 j a (by omega)
      have hE : m.covE ws = (((m.cov0 ws).vis.length : Int), (m.cov0 ws).n, 0) := by unfold Mly.covE; rw [if_neg (by simpa using hv), if_neg (by simpa using hE0)]
      rw [hE]
      obtain ⟨_, _, hM, rfl, rfl⟩ := LX_s (none_l m hm)
      have hz := g0_zero (C := m.inputs.toNat) (N := m.next.length) (T := m.blank) (by simp)
      have hgl : (grid0 m.inputs.toNat m.next.length m.blank []).length = 1 + m.next.length := by rw [g0_len]; simp
      simp [-List.map_replicate, hi, hM, shV, hz, g0_app, hgl]
      have hst := hm.start
      have hwE : ∀ j, 0 ≤ j → j < (ws.length : Int) → wordE (ix ws j) m.inputs = 0 := fun j a b => i2 j a (by omega)
      refine W_iter (fun p : Int × Cv => [(6, .int p.1), (8, .sl (1 + m.next.length) p.2.vis.length 0 p.2.vis.length), (12, .int p.2.n)]) (fun p => grid0 m.inputs.toNat m.next.length p.2.tak [lout p.2.vis])
        (fun p => (0 ≤ p.1 ∧ p.1 ≤ ws.length) ∧ Sh m.next.length m.inputs.toNat p.2.tak ∧ (0 ≤ p.2.n ∧ p.2.n ≤ p.1 * 1024) ∧ (p.2.vis.length : Int) ≤ p.1 * 1025 ∧ m.cov (ws.drop p.1.toNat) p.2 = m.cov0 ws)
        (fun p => (ws.length - p.1).toNat) (0, ⟨[], m.blank, 0⟩) (by simp [-List.map_replicate, sets, lout]) ⟨by simp, ⟨by simp, fun r hr => by rw [List.eq_of_mem_replicate hr]; simp⟩, by simp, by simp, rfl⟩ ?_
      rintro ⟨i, c⟩ ⟨⟨i0, i1⟩, hT, hn, hvl, hR⟩
      dsimp only at i0 i1 hT hn hvl hR ⊢
      by_cases hi : i < ws.length
      · have hw := wordE_len (hwE i i0 hi)
        simp [-More_nor, hi, i0]
        refine W_iter (fun p : Int × Int × Cv => [(7, .int p.1), (8, .sl (1 + m.next.length) p.2.2.vis.length 0 p.2.2.vis.length), (9, .int p.2.1), (12, .int p.2.2.n)]) (fun p => grid0 m.inputs.toNat m.next.length p.2.2.tak [lout p.2.2.vis])
          (fun p => (0 ≤ p.1 ∧ p.1 ≤ (ix ws i).length + 1) ∧ (0 ≤ p.2.1 ∧ p.2.1 < (m.next.length : Int)) ∧ Sh m.next.length m.inputs.toNat p.2.2.tak ∧ (0 ≤ p.2.2.n ∧ p.2.2.n ≤ i * 1024 + min p.1 (ix ws i).length) ∧ (p.2.2.vis.length : Int) ≤ i * 1025 + p.1 ∧ (if p.1 ≤ (ix ws i).length then m.goV p.2.1 ((ix ws i).drop p.1.toNat) (p.2.2.visit p.2.1) else p.2.2) = m.goV m.start (ix ws i) (c.visit m.start))
          (fun p => ((ix ws i).length + 1 - p.1).toNat) (0, m.start, c) (by simp [sets]) ⟨by simp; omega, hst, hT, by dsimp only; omega, by dsimp only; omega, by rw [if_pos (by simp)]; rfl⟩ ?_
        rintro ⟨k, s, c1⟩ ⟨⟨k0, k1⟩, hs, kT, kn, kv, kR⟩
        dsimp only at k0 k1 hs kT kn kv kR ⊢
        by_cases hk : k ≤ (ix ws i).length
        · rw [if_pos hk] at kR
          have hvw := fun (c' : Cv) (h : c'.tak.length = m.next.length) => vd_lout (out := c'.vis) (g0_rest (C := m.inputs.toNat) (B := lout c'.vis) h)
          have hrow := (hm.row s hs.1 hs.2).1
          have hrl := kT.ix hs.1 hs.2
          have hmx : max m.inputs 0 = m.inputs := by omega
          obtain ⟨_, hH⟩ := rhas_s c1.vis s (by omega)
          have b9 := g0_rest (C := m.inputs.toNat) (T := c1.tak) (B := lout c1.vis) kT.len
          have b8 := fun B' => g0_setrest (C := m.inputs.toNat) (T := c1.tak) (B := lout c1.vis) (B' := B') kT.len
          have p1 := fun (K : AV → Prop) (t : Tk K) => pT_rfsN (e := 1) (C := m.inputs.toNat) (k := m.next.length) (K := K) (t := t) hs.1 hs.2
          have hv1 := hvw c1 kT.len
          have q1 := fun B => g0_outerN (C := m.inputs.toNat) (rest := [B]) kT.len
          have q2 := fun B => g0_row (C := m.inputs.toNat) (N := m.next.length) (rest := [B]) (m := c1.tak) hs.1 (by rw [kT.len]; exact hs.2)
          have q3 := fun B r => g0_set (C := m.inputs.toNat) (N := m.next.length) (rest := [B]) (T := c1.tak) (r := r) hs.1 (by rw [kT.len]; exact hs.2)
          have hvl2 := visit_len (c := c1) (s := s)
          by_cases hlt : k < (ix ws i).length
          · have ha := hw.2 k k0 hlt
            have hnx := hm.nx s _ hs.1 hs.2 ha.1 ha.2
            have hax : max (ix (ix ws i) k) 0 = ix (ix ws i) k := by omega
            have eR := goV_ix (m := m) (s := s) (c := c1.visit s) k0 hlt
            rw [kR] at eR
            cases hvis : c1.vis.any (· == s) with
            | true =>
              rw [hvis] at hH
              have ev : c1.visit s = c1 := if_pos hvis
              rw [ev] at eR
              cases ht : ix (ix c1.tak s) (ix (ix ws i) k) with
              | true =>
                simp [-More_nor, -List.map_set, hk, hlt, k0, hi, i0, hv1, hH, hs.1, hs.2, ha.1, ha.2, hrl, hrow, hmx, hax, ↓p1, q1, q2, ht]
                rw [take_t ht] at eR
                refine ⟨by omega, More_of (k + 1, ix (ix m.next s) (ix (ix ws i) k), c1) (by simp) rfl ⟨by dsimp only; omega, hnx, kT, by dsimp only; omega, by dsimp only; omega, by rw [if_pos (by dsimp only; omega)]; exact eR.symm⟩ (by dsimp only; omega)⟩
              | false =>
                simp [-More_nor, -List.map_set, hk, hlt, k0, hi, i0, hv1, hH, hs.1, hs.2, ha.1, ha.2, hrl, hrow, hmx, hax, ↓p1, q1, q2, q3, ht]
                rw [take_f ht] at eR
                refine ⟨by omega, by omega, More_of (k + 1, ix (ix m.next s) (ix (ix ws i) k), { c1 with tak := mark c1.tak s (ix (ix ws i) k), n := c1.n + 1 }) (by simp) rfl ⟨by dsimp only; omega, hnx, mark_sh kT hs.1 hs.2, by dsimp only; omega, by dsimp only; omega, by rw [if_pos (by dsimp only; omega)]; exact eR.symm⟩ (by dsimp only; omega)⟩
            | false =>
              rw [hvis] at hH
              have ev : c1.visit s = { c1 with vis := c1.vis ++ [s] } := if_neg (by simp [hvis])
              rw [ev] at eR
              cases ht : ix (ix c1.tak s) (ix (ix ws i) k) with
              | true =>
                simp [-More_nor, -List.map_set, hk, hlt, k0, hi, i0, hv1, hH, b9, b8, hs.1, hs.2, ha.1, ha.2, hrl, hrow, hmx, hax, ↓p1, q1, q2, ht]
                rw [take_t (c := { c1 with vis := c1.vis ++ [s] }) ht] at eR
                refine ⟨by split <;> simp, by omega, by omega, More_of (k + 1, ix (ix m.next s) (ix (ix ws i) k), { c1 with vis := c1.vis ++ [s] }) (by simp) (by simp [lout]) ⟨by dsimp only; omega, hnx, kT, by dsimp only; omega, by simp; omega, by rw [if_pos (by dsimp only; omega)]; exact eR.symm⟩ (by dsimp only; omega)⟩
              | false =>
                simp [-More_nor, -List.map_set, hk, hlt, k0, hi, i0, hv1, hH, b9, b8, hs.1, hs.2, ha.1, ha.2, hrl, hrow, hmx, hax, ↓p1, q1, q2, q3, ht]
                rw [take_f (c := { c1 with vis := c1.vis ++ [s] }) ht] at eR
                refine ⟨by split <;> simp, by omega, by omega, by omega, More_of (k + 1, ix (ix m.next s) (ix (ix ws i) k), { c1 with vis := c1.vis ++ [s], tak := mark c1.tak s (ix (ix ws i) k), n := c1.n + 1 }) (by simp) (by simp [lout]; rfl) ⟨by dsimp only; omega, hnx, mark_sh kT hs.1 hs.2, by dsimp only; omega, by simp; omega, by rw [if_pos (by dsimp only; omega)]; exact eR.symm⟩ (by dsimp only; omega)⟩
          · have ek : k = (ix ws i).length := by omega
            rw [drop_end (by omega)] at kR
            have kR : c1.visit s = m.goV m.start (ix ws i) (c.visit m.start) := kR
            cases hvis : c1.vis.any (· == s) with
            | true =>
              rw [hvis] at hH
              have ev : c1.visit s = c1 := if_pos hvis
              rw [ev] at kR
              simp [-More_nor, -List.map_set, hk, hlt, k0, hi, i0, hv1, hH]
              refine ⟨by omega, More_of (k + 1, s, c1) (by simp) rfl ⟨by dsimp only; omega, hs, kT, by dsimp only; omega, by dsimp only; omega, by rw [if_neg (by dsimp only; omega)]; exact kR⟩ (by dsimp only; omega)⟩
            | false =>
              rw [hvis] at hH
              have ev : c1.visit s = { c1 with vis := c1.vis ++ [s] } := if_neg (by simp [hvis])
              rw [ev] at kR
              simp [-More_nor, -List.map_set, hk, hlt, k0, hi, i0, hv1, hH, b9, b8]
              refine ⟨by split <;> simp, by omega, by omega, More_of (k + 1, s, { c1 with vis := c1.vis ++ [s] }) (by simp) (by simp [lout]) ⟨by dsimp only; omega, hs, kT, by dsimp only; omega, by simp; omega, by rw [if_neg (by dsimp only; omega)]; exact kR⟩ (by dsimp only; omega)⟩
        · rw [if_neg hk] at kR
          have e : ix (ws.map iL) i = iL (ix ws i) := ix_map i0 hi
          simp [-More_nor, hk, hi, i0]
          refine ⟨by omega, More_of (i + 1, c1) (by simp) rfl ⟨by dsimp only; omega, kT, by dsimp only; omega, by dsimp only; omega, ?_⟩ (by dsimp only; omega)⟩
          dsimp only
          rw [kR, ← hR]; exact (cov_ix i0 hi).symm
      · rw [drop_end (by omega)] at hR
        have hR : c = m.cov0 ws := hR
        rw [← hR]
        simp [hi]
  · have : m.covE ws = (0, 0, m.validE) := by unfold Mly.covE; rw [if_pos hv]
    rw [this]
    simp [rmValid_s m h, hv]
end Ab
