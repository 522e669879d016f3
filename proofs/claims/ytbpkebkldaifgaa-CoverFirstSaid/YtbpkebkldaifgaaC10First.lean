/- The law on first words. Condition: none. -/
import Derived.Test.YtbpkebkldaifgaaFrom
import Derived.Test.YtbpkebkldaifgaaC10Access
set_option linter.all false
set_option maxRecDepth 100000
set_option maxHeartbeats 4000000
namespace Ab
theorem last_in {m : Mly} (hv : m.validE = 0) {w : List Int} (hw : wordE w m.inputs = 0) : m.last w = m.run m.start w := by
  have hm := mvalidE_ok hv
  have e : m.from m.start w = (m.outs m.start w, m.run m.start w, 0) := by rw [From_e hv hm.start, if_neg (by simpa using hw)]
  unfold Mly.last
  rw [e]; simp
theorem last_out {m : Mly} (hv : m.validE = 0) {w : List Int} (hw : ¬ wordE w m.inputs = 0) : m.last w = -1 := by
  have hm := mvalidE_ok hv
  have e : m.from m.start w = ([], 0, wordE w m.inputs) := by rw [From_e hv hm.start, if_pos hw]
  unfold Mly.last
  rw [e]; simp [hw]
theorem bq_inj {m : Mly} {s : Int} {q : List Pl} (h : Bq m s q) {i j : Int} (i0 : 0 ≤ i) (i1 : i < q.length) (j0 : 0 ≤ j) (j1 : j < q.length) (e : (ix q i).1 = (ix q j).1) : i = j := by
  have hn : (q.map (·.1)).Pairwise (fun a b => a ≠ b) := h.nd
  rw [List.pairwise_iff_getElem] at hn
  have key : ∀ a b : Nat, a < b → b < q.length → (ix q (a : Int)).1 = (ix q (b : Int)).1 → False := fun a b hab hb e => by
    have := hn a b (by simp; omega) (by simp; omega) hab
    rw [ix_nat (by omega), ix_nat hb] at e
    simp [e] at this
  rcases Int.lt_trichotomy i j with hlt | he | hgt
  · exact (key i.toNat j.toNat (by omega) (by omega) (by rw [show ((i.toNat : Nat) : Int) = i by omega, show ((j.toNat : Nat) : Int) = j by omega]; exact e)).elim
  · exact he
  · exact (key j.toNat i.toNat (by omega) (by omega) (by rw [show ((i.toNat : Nat) : Int) = i by omega, show ((j.toNat : Nat) : Int) = j by omega]; exact e.symm)).elim
theorem wordE_zero {w : List Int} {k : Int} (h1 : 1 ≤ k ∧ k ≤ 1024) (h2 : (w.length : Int) ≤ 1024) (h3 : ∀ x ∈ w, 0 ≤ x ∧ x < k) : wordE w k = 0 := by
  unfold wordE
  rw [if_neg (by omega), if_neg (by omega), if_neg (by rw [bad_f.2 h3]; simp)]
theorem CoverFirst_l (aw : PC F_law10_exampleHolds [] = some (.bool true)) (m : Mly) (h : m.fits) (w : List Int) (hl : (w.length : Int) ≤ 9223372036854775807) : PC F_law10_CoverFirst [m.av, iL w] = some (.bool true) := by
  refine PCx_of (go_law10_CoverFirst rfl ?_)
  cases hg : m.great with
  | true => simp [Great_s m h, hg, aw]
  | false =>
    by_cases hv : m.validE = 0
    · have hm := mvalidE_ok hv
      have hst := hm.states
      have hin := hm.inputs
      have hb := places_bf m hm m.start hm.start
      have hqn := hb.bq.le
      have hqp := hb.bq.pos
      have hA := Acc_s m h
      rw [acc_ok hv] at hA
      have hfit := acc_fit m
      rw [acc_ok hv] at hfit
      have hlen : ∀ i : Int, 0 ≤ i → i < ((m.places m.start).length : Int) → ((ix (m.places m.start) i).2.length : Int) ≤ 128 := fun i i0 i1 => by have := hb.bq.len i i0 i1; omega
      have hP := Prefixes_s ((m.places m.start).map (·.2)) (by simp; omega) fun v hv' => by
        obtain ⟨p, hp, rfl⟩ := List.mem_map.1 hv'
        obtain ⟨i, hi, rfl⟩ := List.mem_iff_getElem.1 hp
        have := hlen i (by omega) (by omega)
        rw [ix_nat hi] at this; omega
      have hsort : sortU (pres ((m.places m.start).map (·.2))) = (m.places m.start).map (·.2) := by
        refine sortU_eq ?_ fun v => ?_
        · rw [asc, List.pairwise_map, List.pairwise_iff_getElem]
          intro i j hi hj hij
          have := hb.asc i j (by omega) (by omega) (by omega)
          rwa [ix_nat hi, ix_nat hj] at this
        · rw [pres_mem]
          constructor
          · rintro ⟨w, hw, i, hi, rfl⟩
            obtain ⟨p, hp, rfl⟩ := List.mem_map.1 hw
            obtain ⟨k, hk, rfl⟩ := List.mem_iff_getElem.1 hp
            obtain ⟨j, j0, j1, _, e⟩ := hb.pre k i (by omega) (by omega) (by rw [ix_nat hk]; exact hi)
            rw [ix_nat hk] at e
            rw [← e]
            exact List.mem_map.2 ⟨_, ix_mem j0 (by omega), rfl⟩
          · intro hv'
            exact ⟨v, hv', v.length, by omega, by rw [List.take_length]⟩
      rw [hsort] at hP
      have hSame := Same_r ((m.places m.start).map (·.2)) hfit.2.1 hfit.2.2
      have h0 : ix ((m.places m.start).map (·.2)) 0 = [] := by rw [ix_map (by omega) (by omega), hb.bq.head]
      have hlast := last_s m h w hl
      have hat : m.last w = -1 ∨ (0 ≤ m.last w ∧ (∀ x ∈ w, 0 ≤ x ∧ x < m.inputs) ∧ m.last w = m.run m.start w) := by
        by_cases hw : wordE w m.inputs = 0
        · right
          have := wordE_ok hw
          rw [last_in hv hw]
          exact ⟨(run_rng hm hm.start this.2).1, this.2, rfl⟩
        · left; exact last_out hv hw
      simp [-List.map_map, Great_s m h, hg, rmValid_s m h, hv, hA, hP, hSame, h0, hlast]
      have hne : m.places m.start ≠ [] := List.length_pos_iff.1 hqp
      refine ⟨hne, fun _ => ⟨hqp, ?_⟩⟩
      refine W_iter (fun p : Int × Bool => [(7, .int p.1), (13, .bool p.2)]) (fun _ => []) (fun p => (0 ≤ p.1 ∧ p.1 ≤ (m.places m.start).length) ∧ (p.2 = true ↔ m.last w < 0 ∨ ∃ j, 0 ≤ j ∧ j < p.1 ∧ (ix (m.places m.start) j).1 = m.last w)) (fun p => ((m.places m.start).length - p.1).toNat) (0, decide (m.last w < 0)) rfl ⟨by dsimp only; omega, by simp; intro j; omega⟩ ?_
      rintro ⟨i, fd⟩ ⟨⟨i0, i1⟩, i2⟩
      dsimp only at i0 i1 i2 ⊢
      by_cases hi : i < (m.places m.start).length
      · have g1 : ix ((m.places m.start).map (·.1)) i = (ix (m.places m.start) i).1 := ix_map i0 hi
        have g2 : ix ((m.places m.start).map (·.2)) i = (ix (m.places m.start) i).2 := ix_map i0 hi
        have hrg := hb.bq.rng _ (ix_mem i0 hi)
        have hrun := hb.run i i0 hi
        have hli := hlen i i0 hi
        have hpath : m.path m.start (ix (m.places m.start) i).1 = ((ix (m.places m.start) i).2, true, 0) := by
          rw [path_in hv ⟨hm.start.1, hm.start.2, hrg.1, hrg.2⟩]
          refine way_hit i0 hi rfl fun j j0 j1 e => ?_
          have := bq_inj hb.bq j0 (by omega) i0 hi e
          omega
        have hPs := Path_s m h m.start (ix (m.places m.start) i).1
        rw [hpath] at hPs
        have hL := last_s m h (ix (m.places m.start) i).2 (by omega)
        rw [last_in hv (wordE_zero (by omega) (by omega) hrun.2), hrun.1] at hL
        have hE := Equal_r (ix (m.places m.start) i).2 (by omega)
        have hC := wcmp_s (ix (m.places m.start) i).2 w (by omega) hl
        have hcmp : (ix (m.places m.start) i).1 = m.last w → slxC (ix (m.places m.start) i).2 w ≤ 0 := fun e => by
          rcases hat with e' | ⟨_, hx, hr⟩
          · omega
          · obtain ⟨k, k0, k1, e1, e2⟩ := hb.all w hx
            have := bq_inj hb.bq i0 hi k0 k1 (by rw [e, hr, e1])
            rw [this]; exact e2
        rw [← g1] at hPs hL hcmp
        rw [← g2] at hPs hL hE hC hcmp
        simp [-More_nor, -List.map_map, hi, i0, hPs, hL, hE, hC]
        refine ⟨fun e => ⟨hcmp e, fun _ => ⟨by omega, More_of (i + 1, true) (by simp) rfl ⟨by dsimp only; omega, by simp; exact .inr ⟨i, i0, by omega, by rw [← g1]; exact e⟩⟩ (by dsimp only; omega)⟩⟩, fun e => ⟨by omega, More_of (i + 1, fd) (by simp) rfl ⟨by dsimp only; omega, ?_⟩ (by dsimp only; omega)⟩⟩
        dsimp only
        rw [i2]
        rw [g1] at e
        constructor
        · rintro (h | ⟨j, j0, j1, j2⟩)
          · exact .inl h
          · exact .inr ⟨j, j0, by omega, j2⟩
        · rintro (h | ⟨j, j0, j1, j2⟩)
          · exact .inl h
          · refine .inr ⟨j, j0, ?_, j2⟩
            by_cases ej : j = i
            · subst ej; exact absurd j2 e
            · omega
      · have hfd : fd = true := by
          rw [i2]
          rcases hat with e' | ⟨_, hx, hr⟩
          · left; omega
          · obtain ⟨k, k0, k1, e1, e2⟩ := hb.all w hx
            exact .inr ⟨k, k0, by omega, by rw [e1, hr]⟩
        simp [hi, hfd, aw]
    · simp [Great_s m h, hg, rmValid_s m h, hv, aw]
end Ab
