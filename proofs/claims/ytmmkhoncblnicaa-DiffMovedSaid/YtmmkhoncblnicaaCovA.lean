/- The reachable states with their first words; paths. Condition: none. -/
import Derived.Test.YtmmkhoncblnicaaCovP
set_option linter.all false
set_option maxRecDepth 100000
set_option maxHeartbeats 4000000
namespace Ab
theorem rhas_l (l : List Int) (n : Int) (hl : (l.length : Int) ≤ 9223372036854775807) : LX L F_ref10_has [iL l, .int n] [] (fun v _ => v = .bool (l.any fun x => x == n)) := by
  refine go_ref10_has rfl ?_
  simp
  refine W_iter (fun i : Int => [(2, .int i)]) (fun _ => []) (fun i => 0 ≤ i ∧ i ≤ l.length ∧ ∀ j, 0 ≤ j → j < i → ¬ ix l j = n) (fun i => (l.length - i).toNat) 0 rfl ⟨by omega, by omega, upto_zero⟩ fun i ⟨i0, i1, i2⟩ => ?_
  by_cases hi : i < l.length
  · simp [-More_nor, hi, i0]
    refine ⟨fun h => h ▸ ix_mem i0 hi, fun h => ⟨by omega, More_of (i + 1) rfl rfl ⟨by omega, by omega, upto_succ h i2⟩ (by omega)⟩⟩
  · have e := any_no (p := fun x => x == n) (xs := l) fun j a b => by simpa using i2 j a (by omega)
    simp [hi]
    simpa using e
theorem rhas_s (l : List Int) (n : Int) (hl : (l.length : Int) ≤ 9223372036854775807) : ∃ σ', L F_ref10_has [iL l, .int n] [] = some (.bool (l.any fun x => x == n), σ') := by
  obtain ⟨_, σ', h, rfl⟩ := LX_s (rhas_l l n hl)
  exact ⟨σ', h⟩
theorem Ext_s (w : List Int) (a : Int) (hl : (w.length : Int) ≤ 1000000) : PC F_ref09_Extended [iL w, .int a] = some (iL (w ++ [a])) := by
  refine PCx_of (go_ref09_Extended rfl ?_)
  simp
  refine ⟨by omega, fun h => ?_, fun h => ⟨by omega, ?_⟩⟩
  · subst h; rfl
  · have := vd_iL (σ := [⟨none, (w ++ [a]).map .int, .live⟩]) (fr := false) (b := 0) (xs := w ++ [a]) (n := w.length + 1) (st := .live) rfl (by simp) (by simp)
    simp at this
    simp [this]
theorem RAccess_e (m : Mly) (h : m.fits) (hv : m.validE ≠ 0) : PC F_ref10_Access [m.av] = some (.tup [iL [], iLL [], .int m.validE]) := by
  refine PCx_of (go_ref10_Access rfl ?_)
  simp [rmValid_s m h, hv]
theorem RAccess_s (m : Mly) (h : m.fits) (hv : m.validE = 0) : PC F_ref10_Access [m.av] = some (.tup [iL ((m.places m.start).map (·.1)), iLL ((m.places m.start).map (·.2)), .int 0]) := by
  have hm := mvalidE_ok hv
  obtain ⟨hi1, hi2⟩ := hm.inputs
  obtain ⟨hs1, hs2⟩ := hm.states
  refine PCx_of (go_ref10_Access rfl ?_)
  simp [rmValid_s m h, hv]
  refine W_iter (fun p : Int × List Pl => [(3, .int p.1), (4, .sl 0 p.2.length 0 p.2.length), (7, .sl 1 p.2.length 0 p.2.length)]) (fun p => [⟨none, (p.2.map (·.1)).map .int, .live⟩, ⟨none, (p.2.map (·.2)).map iL, .live⟩])
    (fun p => (0 ≤ p.1 ∧ p.1 ≤ p.2.length) ∧ Bq m m.start p.2 ∧ ∃ f : Nat, bfs m f p.1 p.2 = m.places m.start ∧ (m.next.length : Int) + 1 ≤ f + p.1)
    (fun p => (m.next.length - p.1).toNat) (0, [(m.start, [])]) (by simp [sets]) ⟨by simp, Bq.init hm.start, m.next.length + 1, rfl, by simp⟩ ?_
  rintro ⟨i, q⟩ ⟨⟨i0, i1⟩, hq, f, hf1, hf2⟩
  dsimp only at i0 i1 hq hf1 hf2 ⊢
  have hqn := hq.le
  by_cases hi : i < q.length
  · have hp := hq.rng _ (ix_mem i0 hi)
    have hrow := (hm.row _ hp.1 hp.2).1
    simp [-More_nor, -List.map_map, hi, i0]
    refine W_iter (fun p : Int × List Pl => [(4, .sl 0 p.2.length 0 p.2.length), (5, .int p.1), (7, .sl 1 p.2.length 0 p.2.length)]) (fun p => [⟨none, (p.2.map (·.1)).map .int, .live⟩, ⟨none, (p.2.map (·.2)).map iL, .live⟩])
      (fun p => (0 ≤ p.1 ∧ p.1 ≤ m.inputs) ∧ Bq m m.start p.2 ∧ p.2 = brow m (ix q i) q p.1 ∧ q.length ≤ p.2.length ∧ ix p.2 i = ix q i)
      (fun p => (m.inputs - p.1).toNat) (0, q) (by simp [-List.map_map, sets]) ⟨by simp; omega, hq, rfl, by simp, rfl⟩ ?_
    rintro ⟨a, q'⟩ ⟨⟨a0, a1⟩, gq, ge, gl, gx⟩
    dsimp only at a0 a1 gq ge gl gx ⊢
    have gqn := gq.le
    by_cases ha : a < m.inputs
    · have ht := hm.nx _ a hp.1 hp.2 a0 ha
      have hwl := gq.len i i0 (by omega)
      rw [gx] at hwl
      have g1 : ix (q'.map (·.1)) i = (ix q i).1 := by rw [ix_map i0 (by omega), gx]
      have g2 : ix (q'.map (·.2)) i = (ix q i).2 := by rw [ix_map i0 (by omega), gx]
      have es : brow m (ix q i) q (a + 1) = bstep m (ix q i) q' a := by rw [brow_succ a0, ← ge]
      obtain ⟨σ', hh⟩ := rhas_s (q'.map (·.1)) (ix (ix m.next (ix (q'.map (·.1)) i)) a) (by simp; omega)
      have hv4 := vd_iL (σ := [⟨none, (q'.map (·.1)).map .int, .live⟩, ⟨none, (q'.map (·.2)).map iL, .live⟩]) (fr := false) (b := 0) (xs := q'.map (·.1)) (n := q'.length) (st := .live) rfl (by simp) (by simp)
      rw [has_map] at hh
      have hx := Ext_s (ix (q'.map (·.2)) i) a (by rw [g2]; omega)
      have hrow' : ((ix m.next (ix (q'.map (·.1)) i)).length : Int) = m.inputs := by rw [g1]; exact hrow
      have hp' : 0 ≤ ix (q'.map (·.1)) i ∧ ix (q'.map (·.1)) i < (m.next.length : Int) := by rw [g1]; exact hp
      have hc' : hasS q' (ix (ix m.next (ix (q'.map (·.1)) i)) a) = hasS q' (ix (ix m.next (ix q i).1) a) := by rw [g1]
      rw [hc'] at hh
      cases hc : hasS q' (ix (ix m.next (ix q i).1) a) with
      | true =>
        rw [hc] at hh
        simp [-More_nor, -List.map_map, ha, a0, i0, hp'.1, hp'.2, hrow', hv4, hh, show i < (q'.length : Int) by omega]
        refine ⟨by omega, More_of (a + 1, q') (by simp) rfl ⟨by dsimp only; omega, gq, by dsimp only; rw [es, bstep_has hc], gl, gx⟩ (by dsimp only; omega)⟩
      | false =>
        rw [hc] at hh
        simp [-More_nor, -List.map_map, ha, a0, i0, hp'.1, hp'.2, hrow', hv4, hh, hx, show i < (q'.length : Int) by omega]
        rw [g1, g2]
        refine ⟨by omega, by omega, More_of (a + 1, q' ++ [(ix (ix m.next (ix q i).1) a, (ix q i).2 ++ [a])]) (by simp) (by simp [-List.map_map]) ⟨by dsimp only; omega, gq.add ht hc (by simp) (by simp; omega), by dsimp only; rw [es, bstep_new hc], by simp; omega, by dsimp only; rw [ixa_app i0 (by omega), gx]⟩ (by dsimp only; omega)⟩
    · have hai : a = m.inputs := by omega
      subst hai
      simp [-More_nor, -List.map_map]
      refine ⟨by omega, More_of (i + 1, q') (by simp) rfl ⟨by dsimp only; omega, gq, ?_⟩ (by dsimp only; omega)⟩
      match f, hf1, hf2 with
      | 0, _, hf2 => omega
      | f + 1, hf1, hf2 => exact ⟨f, by dsimp only; rw [bfs_go hi, ← ge] at hf1; exact hf1, by dsimp only; omega⟩
  · have v1 := vd_iL (σ := [⟨none, (q.map (·.1)).map .int, .live⟩, ⟨none, (q.map (·.2)).map iL, .live⟩]) (fr := false) (b := 0) (xs := q.map (·.1)) (n := q.length) (st := .live) rfl (by simp) (by simp)
    have v2 := vd_LL (σ := [⟨none, (q.map (·.1)).map .int, .live⟩, ⟨none, (q.map (·.2)).map iL, .live⟩]) (fr := false) (b := 1) (xs := q.map (·.2)) (n := q.length) (st := .live) rfl (by simp) (by simp)
    simp [-List.map_map, hi, v1, v2]
    rw [← hf1, bfs_end hi]
    exact ⟨rfl, rfl⟩
theorem RAt_s (m : Mly) (h : m.fits) (hv : m.validE = 0) (s : Int) (hs : 0 ≤ s ∧ s < (m.next.length : Int)) : PC F_ref10_Access [.agg [.int m.inputs, .int s, iLL m.next, iLL m.out]] = some (.tup [iL ((m.places s).map (·.1)), iLL ((m.places s).map (·.2)), .int 0]) := by
  have := RAccess_s (m.at s) (at_ok h hv hs).1 (at_ok h hv hs).2
  rw [at_places] at this
  exact this
theorem places_s (m : Mly) (hm : m.Ok) (s : Int) (hs : 0 ≤ s ∧ s < (m.next.length : Int)) : PC F_cover_places [m.av, .int s] = some (.imm false ((m.places s).map fun p => .agg [.int p.1, iL p.2])) := by
  obtain ⟨hi1, hi2⟩ := hm.inputs
  obtain ⟨hs1, hs2⟩ := hm.states
  refine PCx_of (go_cover_places rfl ?_)
  simp [-List.map_replicate]
  refine ⟨by omega, by omega, by omega, ?_⟩
  refine W_iter (fun p : Int × List Pl × List Bool => [(4, .int p.1), (5, .sl 1 (2 * p.2.1.length) 0 p.2.1.length)]) (fun p => [⟨none, p.2.2.map .bool, .live⟩, ⟨some 2, pc p.2.1, .live⟩])
    (fun p => (0 ≤ p.1 ∧ p.1 ≤ p.2.1.length) ∧ Bq m s p.2.1 ∧ Sn m.next.length p.2.2 p.2.1 ∧ ∃ f : Nat, bfs m f p.1 p.2.1 = m.places s ∧ (m.next.length : Int) + 1 ≤ f + p.1)
    (fun p => (m.next.length - p.1).toNat) (0, [(s, [])], (List.replicate m.next.length false).set s.toNat true) (by simp [sets, pc, wB, catR]) ⟨by simp, Bq.init hs, ?_, m.next.length + 1, rfl, by simp⟩ ?_
  · have := Sn.add (N := m.next.length) (b := List.replicate m.next.length false) (q := []) (w := []) ⟨by simp, fun t t0 t1 => by rw [ixs_rep t0 t1]; rfl⟩ hs.1 hs.2
    simpa using this
  rintro ⟨i, q, b⟩ ⟨⟨i0, i1⟩, hq, hb, f, hf1, hf2⟩
  dsimp only at i0 i1 hq hb hf1 hf2 ⊢
  have hqn := hq.le
  by_cases hi : i < q.length
  · have hp := hq.rng _ (ix_mem i0 hi)
    have hrow := (hm.row _ hp.1 hp.2).1
    have hel := elm_pc i0 hi
    simp [-More_nor, hi, i0, hel, pc_len, hp.1, hp.2, hrow]
    (repeat' apply And.intro) <;> try omega
    refine W_iter (fun p : Int × List Pl × List Bool => [(5, .sl 1 (2 * p.2.1.length) 0 p.2.1.length), (6, .int p.1)]) (fun p => [⟨none, p.2.2.map .bool, .live⟩, ⟨some 2, pc p.2.1, .live⟩])
      (fun p => (0 ≤ p.1 ∧ p.1 ≤ m.inputs) ∧ Bq m s p.2.1 ∧ Sn m.next.length p.2.2 p.2.1 ∧ p.2.1 = brow m (ix q i) q p.1 ∧ q.length ≤ p.2.1.length ∧ ix p.2.1 i = ix q i)
      (fun p => (m.inputs - p.1).toNat) (0, q, b) (by simp [sets]) ⟨by simp; omega, hq, hb, rfl, by simp, rfl⟩ ?_
    rintro ⟨a, q', b'⟩ ⟨⟨a0, a1⟩, gq, gb, ge, gl, gx⟩
    dsimp only at a0 a1 gq gb ge gl gx ⊢
    have gqn := gq.le
    by_cases ha : a < m.inputs
    · have ht := hm.nx _ a hp.1 hp.2 a0 ha
      have hbk := gb.ok _ ht.1 ht.2
      have hbl := gb.len
      have gel := elm_pc (q := q') i0 (by omega)
      rw [gx] at gel
      have hwl := gq.len i i0 (by omega)
      rw [gx] at hwl
      have hj := join_p (ix q i) a (by omega)
      have es : brow m (ix q i) q (a + 1) = bstep m (ix q i) q' a := by rw [brow_succ a0, ← ge]
      cases hh : hasS q' (ix (ix m.next (ix q i).1) a) with
      | true =>
        simp [-More_nor, ha, a0, i0, hp.1, hp.2, hrow, ht.1, ht.2, hbl, hbk, gel, pc_len, show i < (q'.length : Int) by omega, hh]
        refine ⟨by omega, More_of (a + 1, q', b') (by simp) rfl ⟨by dsimp only; omega, gq, gb, by dsimp only; rw [es, bstep_has hh], gl, gx⟩ (by dsimp only; omega)⟩
      | false =>
        simp [-More_nor, ha, a0, i0, hp.1, hp.2, hrow, ht.1, ht.2, hbl, hbk, gel, pc_len, show i < (q'.length : Int) by omega, hh, noLoc_wB, cells_wB, hj]
        have hne : (ix q i).2 ++ [a] ≠ [] := by simp
        refine ⟨notUnd_pW, by omega, fun _ => ⟨by omega, More_of (a + 1, q' ++ [(ix (ix m.next (ix q i).1) a, (ix q i).2 ++ [a])], b'.set (ix (ix m.next (ix q i).1) a).toNat true) (by simp [sets]; omega) (by simp [pc_add]) ⟨by dsimp only; omega, gq.add ht hh hne (by simp; omega), gb.add ht.1 ht.2, by dsimp only; rw [es, bstep_new hh], by simp; omega, by dsimp only; rw [ixa_app i0 (by omega), gx]⟩ (by dsimp only; omega)⟩, fun hc => (hc (by simp only [kst]; omega)).elim⟩
    · have hai : a = m.inputs := by omega
      subst hai
      simp [-More_nor]
      refine ⟨by omega, More_of (i + 1, q', b') (by simp) rfl ⟨by dsimp only; omega, gq, gb, ?_⟩ (by dsimp only; omega)⟩
      match f, hf1, hf2 with
      | 0, _, hf2 => omega
      | f + 1, hf1, hf2 => exact ⟨f, by dsimp only; rw [bfs_go hi, ← ge] at hf1; exact hf1, by dsimp only; omega⟩
  · have hv := view_pc (σ := [⟨none, b.map .bool, .live⟩, ⟨some 2, pc q, .live⟩]) (b := 1) (n := q.length) (q := q) (fr := false) (st := .live) rfl (by simp) rfl rfl
    simp [hi, hv]
    rw [← hf1, bfs_end hi]
end Ab
