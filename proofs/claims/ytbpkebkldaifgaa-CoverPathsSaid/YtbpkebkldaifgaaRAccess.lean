/- The reachable states with their first words: the document's. Condition: none. -/
import Derived.Test.YtbpkebkldaifgaaRefSm
import Derived.Test.YtbpkebkldaifgaaMlyValid
set_option linter.all false
set_option maxRecDepth 100000
set_option maxHeartbeats 4000000
namespace Ab
theorem RAccess_e (m : Mly) (h : m.fits) (hv : m.validE ≠ 0) : PC F_ref10_Access [m.av] = some (.tup [iL [], iLL [], .int m.validE]) := by
  refine PCx_of (go_ref10_Access rfl ?_)
  simp [rmValid_s m h, hv]
theorem ix_map {α β : Type} [Inhabited α] [Inhabited β] {f : α → β} {l : List α} {i : Int} (h0 : 0 ≤ i) (h1 : i < l.length) : ix (l.map f) i = f (ix l i) := by
  unfold ix
  rw [List.getD_eq_getElem?_getD, List.getD_eq_getElem?_getD, List.getElem?_map, List.getElem?_eq_getElem (by omega)]
  simp
theorem has_map {q : List Pl} {t : Int} : ((q.map (·.1)).any fun x => x == t) = hasS q t := by
  unfold hasS; rw [List.any_map]; rfl
theorem RAccess_s (m : Mly) (h : m.fits) (hv : m.validE = 0) : PC F_ref10_Access [m.av] = some (.tup [iL ((m.places m.start).map (·.1)), iLL ((m.places m.start).map (·.2)), .int 0]) := by
  have hm := mvalidE_ok hv
  obtain ⟨hi1, hi2⟩ := hm.inputs
  obtain ⟨hs1, hs2⟩ := hm.states
  refine PCx_of (go_ref10_Access rfl ?_)
  simp [rmValid_s m h, hv]
  refine W_iter (fun p : Int × List Pl => [(3, .int p.1), (4, .sl 0 p.2.length 0 p.2.length), (7, .sl 1 p.2.length 0 p.2.length)]) (fun p => [⟨none, (p.2.map (·.1)).map .int, .live⟩, ⟨none, (p.2.map (·.2)).map iL, .live⟩])
    (fun p => (0 ≤ p.1 ∧ p.1 ≤ p.2.length) ∧ Bq m m.start p.2 ∧ ∃ f : Nat, bfs m f p.1 p.2 = m.places m.start ∧ (m.next.length : Int) + 1 ≤ f + p.1)
    (fun p => (m.next.length - p.1).toNat) (0, [(m.start, [])]) (by simp [sets]) ⟨by simp, Bq.init hm.start, m.next.length + 1, rfl, by simp⟩ ?_
  rintro ⟨i, q⟩ ⟨⟨i0, i1⟩, hq, f, hf1, hf2⟩
  dsimp only at i0 i1 hq hf1 hf2 ⊢
  have hqn := hq.le
  by_cases hi : i < q.length
  · have hp := hq.rng _ (ix_mem i0 hi)
    have hrow := (hm.row _ hp.1 hp.2).1
    simp [-More_nor, -List.map_map, hi, i0]
    refine W_iter (fun p : Int × List Pl => [(4, .sl 0 p.2.length 0 p.2.length), (5, .int p.1), (7, .sl 1 p.2.length 0 p.2.length)]) (fun p => [⟨none, (p.2.map (·.1)).map .int, .live⟩, ⟨none, (p.2.map (·.2)).map iL, .live⟩])
      (fun p => (0 ≤ p.1 ∧ p.1 ≤ m.inputs) ∧ Bq m m.start p.2 ∧ p.2 = brow m (ix q i) q p.1 ∧ q.length ≤ p.2.length ∧ ix p.2 i = ix q i)
      (fun p => (m.inputs - p.1).toNat) (0, q) (by simp [-List.map_map, sets]) ⟨by simp; omega, hq, rfl, by simp, rfl⟩ ?_
    rintro ⟨a, q'⟩ ⟨⟨a0, a1⟩, gq, ge, gl, gx⟩
    dsimp only at a0 a1 gq ge gl gx ⊢
    have gqn := gq.le
    by_cases ha : a < m.inputs
    · have ht := hm.nx _ a hp.1 hp.2 a0 ha
      have hwl := gq.len i i0 (by omega)
      rw [gx] at hwl
      have g1 : ix (q'.map (·.1)) i = (ix q i).1 := by rw [ix_map i0 (by omega), gx]
      have g2 : ix (q'.map (·.2)) i = (ix q i).2 := by rw [ix_map i0 (by omega), gx]
      have es : brow m (ix q i) q (a + 1) = bstep m (ix q i) q' a := by rw [brow_succ a0, ← ge]
      obtain ⟨σ', hh⟩ := rhas_s (q'.map (·.1)) (ix (ix m.next (ix (q'.map (·.1)) i)) a) (by simp; omega)
      have hv4 := vd_iL (σ := [⟨none, (q'.map (·.1)).map .int, .live⟩, ⟨none, (q'.map (·.2)).map iL, .live⟩]) (fr := false) (b := 0) (xs := q'.map (·.1)) (n := q'.length) (st := .live) rfl (by simp) (by simp)
      rw [has_map] at hh
      have hx := Ext_s (ix (q'.map (·.2)) i) a (by rw [g2]; omega)
      have hrow' : ((ix m.next (ix (q'.map (·.1)) i)).length : Int) = m.inputs := by rw [g1]; exact hrow
      have hp' : 0 ≤ ix (q'.map (·.1)) i ∧ ix (q'.map (·.1)) i < (m.next.length : Int) := by rw [g1]; exact hp
      have hc' : hasS q' (ix (ix m.next (ix (q'.map (·.1)) i)) a) = hasS q' (ix (ix m.next (ix q i).1) a) := by rw [g1]
      rw [hc'] at hh
      cases hc : hasS q' (ix (ix m.next (ix q i).1) a) with
      | true =>
        rw [hc] at hh
        simp [-More_nor, -List.map_map, ha, a0, i0, hp'.1, hp'.2, hrow', hv4, hh, show i < (q'.length : Int) by omega]
        refine ⟨by omega, More_of (a + 1, q') (by simp) rfl ⟨by dsimp only; omega, gq, by dsimp only; rw [es, bstep_has hc], gl, gx⟩ (by dsimp only; omega)⟩
      | false =>
        rw [hc] at hh
        simp [-More_nor, -List.map_map, ha, a0, i0, hp'.1, hp'.2, hrow', hv4, hh, hx, show i < (q'.length : Int) by omega]
        rw [g1, g2]
        refine ⟨by omega, by omega, More_of (a + 1, q' ++ [(ix (ix m.next (ix q i).1) a, (ix q i).2 ++ [a])]) (by simp) (by simp [-List.map_map]) ⟨by dsimp only; omega, gq.add ht hc (by simp) (by simp; omega), by dsimp only; rw [es, bstep_new hc], by simp; omega, by dsimp only; rw [ixa_app i0 (by omega), gx]⟩ (by dsimp only; omega)⟩
    · have hai : a = m.inputs := by omega
      subst hai
      simp [-More_nor, -List.map_map]
      refine ⟨by omega, More_of (i + 1, q') (by simp) rfl ⟨by dsimp only; omega, gq, ?_⟩ (by dsimp only; omega)⟩
      match f, hf1, hf2 with
      | 0, _, hf2 => omega
      | f + 1, hf1, hf2 => exact ⟨f, by dsimp only; rw [bfs_go hi, ← ge] at hf1; exact hf1, by dsimp only; omega⟩
  · have v1 := vd_iL (σ := [⟨none, (q.map (·.1)).map .int, .live⟩, ⟨none, (q.map (·.2)).map iL, .live⟩]) (fr := false) (b := 0) (xs := q.map (·.1)) (n := q.length) (st := .live) rfl (by simp) (by simp)
    have v2 := vd_LL (σ := [⟨none, (q.map (·.1)).map .int, .live⟩, ⟨none, (q.map (·.2)).map iL, .live⟩]) (fr := false) (b := 1) (xs := q.map (·.2)) (n := q.length) (st := .live) rfl (by simp) (by simp)
    simp [-List.map_map, hi, v1, v2]
    rw [← hf1, bfs_end hi]
    exact ⟨rfl, rfl⟩
/-- The machine that starts elsewhere. -/
abbrev Mly.at (m : Mly) (s : Int) : Mly := ⟨m.inputs, s, m.next, m.out⟩
theorem at_ok {m : Mly} (h : m.fits) (hv : m.validE = 0) {s : Int} (hs : 0 ≤ s ∧ s < (m.next.length : Int)) : (m.at s).fits ∧ (m.at s).validE = 0 := by
  have hm := mvalidE_ok hv
  have hst := hm.states
  refine ⟨⟨h.inputs, by rw [inR_iff]; show _ ∧ _; dsimp only [Mly.at]; omega, h.next, h.out⟩, ?_⟩
  have h1 : m.sizeE = 0 := by
    unfold Mly.validE at hv
    split at hv
    · rename_i a; exact absurd hv a
    · rename_i a; simpa using a
  have h2 : (m.at s).sizeE = 0 := by
    have := msizeE_zero h1
    have hne : m.next ≠ [] := by intro e; rw [e] at hst; simp at hst
    unfold Mly.sizeE
    dsimp only [Mly.at]
    rw [if_neg (by omega), if_neg (by omega), if_neg hne, if_neg (by omega), if_neg (by omega), if_neg (by omega), if_neg (by omega)]
  unfold Mly.validE at hv ⊢
  rw [if_neg (by simpa using h1)] at hv
  rw [if_neg (by simpa using h2)]
  exact hv
theorem at_places {m : Mly} {s x : Int} : (m.at s).places x = m.places x := by
  have hb : ∀ p q a, bstep (m.at s) p q a = bstep m p q a := fun _ _ _ => rfl
  have hr : ∀ p q k, brow (m.at s) p q k = brow m p q k := fun _ _ _ => rfl
  have : ∀ f i q, bfs (m.at s) f i q = bfs m f i q := by
    intro f
    induction f with
    | zero => intro i q; rfl
    | succ f ih => intro i q; unfold bfs; rw [hr, ih]
  exact this _ _ _
theorem RAt_s (m : Mly) (h : m.fits) (hv : m.validE = 0) (s : Int) (hs : 0 ≤ s ∧ s < (m.next.length : Int)) : PC F_ref10_Access [.agg [.int m.inputs, .int s, iLL m.next, iLL m.out]] = some (.tup [iL ((m.places s).map (·.1)), iLL ((m.places s).map (·.2)), .int 0]) := by
  have := RAccess_s (m.at s) (at_ok h hv hs).1 (at_ok h hv hs).2
  rw [at_places] at this
  exact this
end Ab
