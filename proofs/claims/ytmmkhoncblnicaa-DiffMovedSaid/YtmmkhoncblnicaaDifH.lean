/- The states that a machine reaches, by the document. Condition: none. -/
import Derived.Test.YtmmkhoncblnicaaDifN
set_option linter.all false
set_option maxRecDepth 100000
set_option maxHeartbeats 4000000
namespace Ab
theorem view_trueT {σ : List Blk} {b fr : Bool} {v : AV} (h : viewT σ fr v = some (.bool b)) : v = .bool b := by
  have key : ∀ {x : AV} {k : Nat}, view σ fr (k + 1) x = some (.bool b) → x = .bool b := by
    intro x k h
    cases x <;> unfold view at h
    case bool => simpa using h
    case sl =>
      dsimp only at h
      split at h
      · simp at h
      · split at h
        · split at h <;> simp at h
        · simp at h
    case ptr =>
      dsimp only at h
      split at h
      · simp at h
      · split at h
        · split at h
          · simp at h
          · split at h <;> simp at h
        · simp at h
    all_goals (try dsimp only at h)
    all_goals (try split at h) <;> simp at h
  cases v with
  | tup l => simp only [viewT] at h; split at h <;> simp at h
  | _ => exact key (k := 11) h
abbrev ZbT (vs : List Int) : Blk := ⟨none, vs.map .int, .live⟩
theorem zhas_sT (l : List Int) (n : Int) (hl : (l.length : Int) ≤ 1000000) : PC F_ref06_has [iL l, .int n] = some (.bool (l.any fun x => x == n)) := by
  refine PCx_of (go_ref06_has rfl ?_)
  simp
  refine W_iter (fun i : Int => [(2, .int i)]) (fun _ => []) (fun i => 0 ≤ i ∧ i ≤ l.length ∧ ∀ j, 0 ≤ j → j < i → ¬ ix l j = n) (fun i => (l.length - i).toNat) 0 rfl ⟨by omega, by omega, upto_zero⟩ fun i ⟨i0, i1, i2⟩ => ?_
  by_cases hi : i < l.length
  · simp [-More_nor, hi, i0]
    refine ⟨fun h => h ▸ ix_mem i0 hi, fun h => ⟨by omega, More_of (i + 1) rfl rfl ⟨by omega, by omega, upto_succ h i2⟩ (by omega)⟩⟩
  · have e := any_no (p := fun x => x == n) (xs := l) fun j a b => by simpa using i2 j a (by omega)
    simp [hi, e]
theorem zL_boolT {f : Nat} {args : List AV} {b : Bool} (h : PC f args = some (.bool b)) : ∃ τ, L f args [] = some (.bool b, τ) := by
  simp only [PC, PCx] at h
  split at h
  · rename_i v τ h1
    rw [view_trueT h] at h1
    exact ⟨τ, h1⟩
  · simp at h
theorem RReach_t (m : Mly) (h : m.fits) (hv : m.validE = 0) : PC F_ref06_Reach [m.av] = some (iL ((m.places m.start).map (·.1))) := by
  have hm := mvalidE_ok hv
  obtain ⟨hi1, hi2⟩ := hm.inputs
  obtain ⟨hs1, hs2⟩ := hm.states
  have hs := hm.start
  refine PCx_of (go_ref06_Reach rfl ?_)
  simp [rmValid_s m h, hv]
  refine W_iter (fun p : Int × List Pl => [(2, .int p.1), (3, .sl 0 p.2.length 0 p.2.length)]) (fun p => [ZbT (p.2.map (·.1))])
    (fun p => (0 ≤ p.1 ∧ p.1 ≤ p.2.length) ∧ Bq m m.start p.2 ∧ ∃ f : Nat, bfs m f p.1 p.2 = m.places m.start ∧ (m.next.length : Int) + 1 ≤ f + p.1)
    (fun p => (m.next.length - p.1).toNat) (0, [(m.start, [])]) (by simp [sets]) ⟨by simp, Bq.init hs, m.next.length + 1, rfl, by simp⟩ ?_
  rintro ⟨i, q⟩ ⟨⟨i0, i1⟩, hq, f, hf1, hf2⟩
  dsimp only at i0 i1 hq hf1 hf2 ⊢
  have hqn := hq.le
  by_cases hi : i < q.length
  · simp [-More_nor, -List.map_map, hi]
    refine W_iter (fun p : Int × List Pl => [(3, .sl 0 p.2.length 0 p.2.length), (4, .int p.1)]) (fun p => [ZbT (p.2.map (·.1))])
      (fun p => (0 ≤ p.1 ∧ p.1 ≤ m.inputs) ∧ Bq m m.start p.2 ∧ p.2 = brow m (ix q i) q p.1 ∧ q.length ≤ p.2.length ∧ ix p.2 i = ix q i)
      (fun p => (m.inputs - p.1).toNat) (0, q) (by simp [-List.map_map, sets]) ⟨by simp; omega, hq, rfl, by simp, rfl⟩ ?_
    rintro ⟨a, q'⟩ ⟨⟨a0, a1⟩, gq, ge, gl, gx⟩
    dsimp only at a0 a1 gq ge gl gx ⊢
    have gqn := gq.le
    by_cases ha : a < m.inputs
    · have hp := hq.rng _ (ix_mem i0 hi)
      have g1 : ix (q'.map (·.1)) i = (ix q i).1 := by rw [ix_map i0 (by omega), gx]
      have hp' : 0 ≤ ix (q'.map (·.1)) i ∧ ix (q'.map (·.1)) i < (m.next.length : Int) := by rw [g1]; exact hp
      have hrow := (hm.row _ hp'.1 hp'.2).1
      have ht := hm.nx _ a hp.1 hp.2 a0 ha
      have es : brow m (ix q i) q (a + 1) = bstep m (ix q i) q' a := by rw [brow_succ a0, ← ge]
      have hwl := gq.len i i0 (by omega)
      rw [gx] at hwl
      obtain ⟨τ, hz⟩ := zL_boolT (zhas_sT (q'.map (·.1)) (ix (ix m.next (ix (q'.map (·.1)) i)) a) (by simp; omega))
      have hh : ((q'.map (·.1)).any fun x => x == ix (ix m.next (ix (q'.map (·.1)) i)) a) = hasS q' (ix (ix m.next (ix q i).1) a) := by rw [has_map, g1]
      rw [hh] at hz
      have hv := vd_iL (σ := [ZbT (q'.map (·.1))]) (fr := false) (b := 0) (xs := q'.map (·.1)) (n := q'.length) (st := .live) rfl (by simp) (by simp)
      cases hc : hasS q' (ix (ix m.next (ix q i).1) a) with
      | true =>
        rw [hc] at hz
        simp [-More_nor, -List.map_map, ha, a0, i0, hi, show i < (q'.length : Int) by omega, hp'.1, hp'.2, hrow, hv, hz]
        refine ⟨by omega, More_of (a + 1, q') (by simp) rfl ⟨by dsimp only; omega, gq, by dsimp only; rw [es, bstep_has hc], gl, gx⟩ (by dsimp only; omega)⟩
      | false =>
        rw [hc] at hz
        simp [-More_nor, -List.map_map, ha, a0, i0, hi, show i < (q'.length : Int) by omega, hp'.1, hp'.2, hrow, hv, hz]
        rw [g1]
        refine ⟨by omega, by omega, More_of (a + 1, q' ++ [(ix (ix m.next (ix q i).1) a, (ix q i).2 ++ [a])]) (by simp) (by simp [-List.map_map]) ⟨by dsimp only; omega, gq.add ht hc (by simp) (by simp; omega), by dsimp only; rw [es, bstep_new hc], by simp; omega, by dsimp only; rw [ixa_app i0 (by omega), gx]⟩ (by dsimp only; omega)⟩
    · have hai : a = m.inputs := by omega
      subst hai
      simp [-More_nor, -List.map_map]
      refine ⟨by omega, More_of (i + 1, q') (by simp) rfl ⟨by dsimp only; omega, gq, ?_⟩ (by dsimp only; omega)⟩
      match f, hf1, hf2 with
      | 0, _, hf2 => omega
      | f + 1, hf1, hf2 => exact ⟨f, by dsimp only; rw [bfs_go hi, ← ge] at hf1; exact hf1, by dsimp only; omega⟩
  · have v1 := vd_iL (σ := [ZbT (q.map (·.1))]) (fr := false) (b := 0) (xs := q.map (·.1)) (n := q.length) (st := .live) rfl (by simp) (by simp)
    simp [-List.map_map, hi, v1]
    rw [← hf1, bfs_end hi]
end Ab
