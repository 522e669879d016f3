/- The law on transition covers and tours. Condition: none. -/
import Derived.Test.YtbpkebkldaifgaaCovAllP
set_option linter.all false
set_option maxRecDepth 100000
set_option maxHeartbeats 4000000
namespace Ab
/-- A word that takes all. -/
structure Full (m : Mly) (w : List Int) : Prop where
  sym : ∀ a ∈ w, 0 ≤ a ∧ a < m.inputs
  len : (w.length : Int) ≤ 1024
  all : ∀ p ∈ m.allT, p ∈ m.trs m.start w
theorem tour_full {m : Mly} (hm : m.Ok) : ∀ {k : Nat} {s : Int} {T : List (List Bool)} {out : List Int} {K : List (Int × Int)}, Kt m T K → (∀ p ∈ K, p ∈ m.allT) → K.length + k = m.allT.length → m.InR s → m.run m.start out = s → (∀ a ∈ out, 0 ≤ a ∧ a < m.inputs) → out.length ≤ 1024 → (∀ p ∈ K, p ∈ m.trs m.start out) →
    ((m.tour k s T out).2 = 0 ∧ Full m (m.tour k s T out).1) ∨ ((m.tour k s T out).2 = 8 ∧ ∃ x y, m.InR x ∧ m.InR y ∧ m.way x y = ([], false, 0)) ∨ (m.tour k s T out).2 = 3
  | 0, s, T, out, K, h, hK, hl, _, _, ho, hol, hc => by
    refine .inl ⟨rfl, ho, by show (out.length : Int) ≤ 1024; omega, fun p hp => ?_⟩
    by_cases hpk : p ∈ K
    · exact hc p hpk
    · have : (p :: K).length ≤ m.allT.length := sub_len (List.nodup_cons.2 ⟨hpk, h.nd⟩) fun q hq => by
        rcases List.mem_cons.1 hq with rfl | hq
        · exact hp
        · exact hK q hq
      simp at this; omega
  | k + 1, s, T, out, K, h, hK, hl, hs, hr, ho, hol, hc => by
    have hsr := inR_rng hm hs
    have hbs := places_bf m hm s hsr
    unfold Mly.tour
    cases hf : m.fresh s T with
    | none =>
      refine .inr (.inl ⟨rfl, ?_⟩)
      obtain ⟨p, hp, hpk⟩ : ∃ p, p ∈ m.allT ∧ p ∉ K := by
        apply Classical.byContradiction
        intro hno
        have := sub_len (allT_nd hm) (L := K) fun p hp => Classical.byContradiction fun hk => hno ⟨p, hp, hk⟩
        omega
      have hpm := (allT_mem hm).1 hp
      have hpr := inR_rng hm hpm.1
      refine ⟨s, p.1, hs, hpm.1, way_no fun j j0 j1 e => ?_⟩
      have ho1 : m.open1 T (ix (m.places s) j) = none := by
        unfold Mly.fresh at hf
        rw [List.findSome?_eq_none_iff] at hf
        have := hf _ (ix_mem j0 j1)
        simpa using this
      have := open1_none ho1 p.2 hpm.2.1 hpm.2.2
      rw [e] at this
      exact hpk ((h.tak p.1 p.2 hpr.1 hpr.2 hpm.2.1 hpm.2.2).1 this)
    | some pa =>
      obtain ⟨p, a⟩ := pa
      have hw := fresh_fw hm hsr hf
      simp only
      split
      · exact .inr (.inr rfl)
      · rename_i hlong
        obtain ⟨i, i0, i1, hpi, _, _⟩ := fresh_some hf
        have hsy : ∀ x ∈ p.2, 0 ≤ x ∧ x < m.inputs := by rw [hpi]; exact (hbs.run i i0 i1).2
        have hpR : m.InR p.1 := by rw [← hw.run]; exact inR_run hm hs hsy
        have htr : m.trs m.start (out ++ (p.2 ++ [a])) = m.trs m.start out ++ (m.trs s p.2 ++ [(p.1, a)]) := by
          rw [trs_app, hr, trs_app, hw.run]; rfl
        refine tour_full hm (k := k) (K := (p.1, a) :: K) (h.mark hm hw.st hw.sym hw.new) ?_ ?_ (inR_next hm hpR hw.sym) ?_ ?_ ?_ ?_
        · intro q hq
          rcases List.mem_cons.1 hq with rfl | hq
          · exact (allT_mem hm).2 ⟨hpR, hw.sym⟩
          · exact hK q hq
        · simp; omega
        · rw [run_app, hr, run_app, hw.run]; rfl
        · intro x hx
          rcases List.mem_append.1 hx with hx | hx
          · exact ho x hx
          · rcases List.mem_append.1 hx with hx | hx
            · exact hsy x hx
            · simp at hx; subst hx; exact hw.sym
        · simp; omega
        · intro q hq
          rw [htr, List.mem_append, List.mem_append]
          rcases List.mem_cons.1 hq with rfl | hq
          · exact .inr (.inr (by simp))
          · exact .inl (hc q hq)
theorem tourE_full {m : Mly} (hv : m.validE = 0) : (m.tourE.2 = 0 ∧ Full m m.tourE.1) ∨ (m.tourE.2 = 8 ∧ ∃ x y, m.InR x ∧ m.InR y ∧ m.way x y = ([], false, 0)) ∨ m.tourE.2 = 3 := by
  have hm := mvalidE_ok hv
  have e : m.tourE = m.tour ((m.places m.start).length * m.inputs.toNat) m.start m.blank [] := by unfold Mly.tourE; rw [if_neg (by simpa using hv)]
  rw [e]
  exact tour_full hm (K := []) blank_kt (by simp) (by rw [allT_len]; simp) (inR_start hm) rfl (by simp) (by simp) (by simp)
theorem wordsE_zero {m : Mly} (hm : m.Ok) {ws : List (List Int)} (h1 : ∀ w ∈ ws, (w.length : Int) ≤ 1024) (h2 : ∀ w ∈ ws, ∀ a ∈ w, 0 ≤ a ∧ a < m.inputs) : m.wordsE ws = 0 := by
  have hin := hm.inputs
  refine firstN_none fun j j0 j1 => ?_
  have hj := ix_mem (l := ws) j0 j1
  unfold wordE
  rw [if_neg (by omega), if_neg (by have := h1 _ hj; omega), if_neg (by rw [bad_f.2 (h2 _ hj)]; simp)]
theorem covE_full {m : Mly} (hv : m.validE = 0) {ws : List (List Int)} (hne : ws ≠ []) (h1 : ∀ w ∈ ws, (w.length : Int) ≤ 1024) (h2 : ∀ w ∈ ws, ∀ a ∈ w, 0 ≤ a ∧ a < m.inputs) (h3 : ∀ p ∈ m.allT, ∃ w ∈ ws, p ∈ m.trs m.start w) :
    m.covE ws = (((m.places m.start).length : Int), (((m.places m.start).length * m.inputs.toNat : Nat) : Int), 0) := by
  have hm := mvalidE_ok hv
  have hw := wordsE_zero hm h1 h2
  have hc := cov_full hm hne h2 h3
  unfold Mly.covE
  rw [if_neg (by simpa using hv), if_neg (by simpa using hw), hc.1, hc.2]
theorem way_zero {m : Mly} {s t : Int} : (m.way s t).2.2 = 0 := by
  unfold Mly.way; split <;> rfl
theorem CoverAll_l (aw : PC F_law10_exampleHolds [] = some (.bool true)) (m : Mly) (h : m.fits) : PC F_law10_CoverAll [m.av] = some (.bool true) := by
  refine PCx_of (go_law10_CoverAll rfl ?_)
  cases hg : m.great with
  | true => simp [Great_s m h, hg, aw]
  | false =>
    by_cases hv : m.validE = 0
    · have hm := mvalidE_ok hv
      have hst := hm.states
      have hin := hm.inputs
      have hb := places_bf m hm m.start hm.start
      have hqn := hb.bq.le
      have hqp := hb.bq.pos
      have hA := Acc_s m h
      rw [acc_ok hv] at hA
      have hT := Tra_s m h
      rw [if_pos hv, hv] at hT
      have htf := tra_fit m hm
      have hC := Covered_s m h m.tra (by omega) fun w hw => by have := htf.2 w hw; omega
      have htm : ∀ w, w ∈ m.tra ↔ ∃ i : Int, (0 ≤ i ∧ i < ((m.places m.start).length : Int)) ∧ ∃ a, (0 ≤ a ∧ a < m.inputs) ∧ w = (ix (m.places m.start) i).2 ++ [a] := by
        intro w
        unfold Mly.tra Mly.exts
        rw [List.mem_flatMap]
        constructor
        · rintro ⟨v, hv, hw⟩
          obtain ⟨a, ha, rfl⟩ := List.mem_map.1 hw
          obtain ⟨p, hp, rfl⟩ := List.mem_map.1 hv
          obtain ⟨i, hi, rfl⟩ := List.mem_iff_getElem.1 hp
          simp at ha
          exact ⟨i, by omega, a, by omega, by rw [ix_nat hi]⟩
        · rintro ⟨i, ⟨i0, i1⟩, a, ⟨a0, a1⟩, rfl⟩
          exact ⟨_, List.mem_map.2 ⟨_, ix_mem i0 i1, rfl⟩, List.mem_map.2 ⟨a.toNat, by simp; omega, by rw [show ((a.toNat : Nat) : Int) = a by omega]⟩⟩
      have hc0 : m.covE m.tra = (((m.places m.start).length : Int), (((m.places m.start).length * m.inputs.toNat : Nat) : Int), 0) := by
        refine covE_full hv ?_ (fun w hw => by have := htf.2 w hw; omega) (fun w hw a ha => ?_) fun p hp => ?_
        · intro e
          have : (ix (m.places m.start) 0).2 ++ [0] ∈ m.tra := (htm _).2 ⟨0, by omega, 0, by omega, rfl⟩
          rw [e] at this; simp at this
        · obtain ⟨i, i0, b, hb', rfl⟩ := (htm w).1 hw
          rcases List.mem_append.1 ha with ha | ha
          · exact (hb.run i i0.1 i0.2).2 a ha
          · simp at ha; subst ha; exact hb'
        · obtain ⟨⟨i, i0, i1, e⟩, hp2⟩ := (allT_mem hm).1 hp
          refine ⟨_, (htm _).2 ⟨i, ⟨i0, i1⟩, p.2, hp2, rfl⟩, ?_⟩
          rw [trs_app, (hb.run i i0 i1).1, e, List.mem_append]
          right; simp [Mly.trs]
      rw [hc0] at hC
      have htl : m.tra.length = (m.places m.start).length * m.inputs.toNat := by unfold Mly.tra; rw [exts_len, List.length_map]
      have hml := mul_small (P := (m.places m.start).length) (c := m.inputs) (by omega) hin.2 (by omega)
      have hmn := mul_nat (P := (m.places m.start).length) (c := m.inputs) (by omega)
      have hTo := Tour_s m h
      have hal := allT_len (m := m)
      have hf := tourE_full hv
      have hc1 : Full m m.tourE.1 → PC F_cover_Covered [m.av, .imm false [.imm false (m.tourE.1.map .int)]] = some (covA (((m.places m.start).length : Int), (((m.places m.start).length * m.inputs.toNat : Nat) : Int), 0)) := fun hF => by
        have e := Covered_s m h [m.tourE.1] (by simp) (by simp; have := hF.len; omega)
        rw [covE_full hv (by simp) (by simpa using hF.len) (by simpa using hF.sym) (fun p hp => ⟨_, by simp, hF.all p hp⟩)] at e
        exact e
      have hlen : Full m m.tourE.1 → (m.places m.start).length * m.inputs.toNat ≤ m.tourE.1.length := fun hF => by
        have := sub_len (allT_nd hm) hF.all
        rw [trs_len, hal] at this; exact this
      obtain ⟨B, hB⟩ : ∃ B, (m.places m.start).length * m.inputs.toNat = B := ⟨_, rfl⟩
      rw [hB] at hC htl hml hmn hlen hc1
      rcases hf with ⟨f1, f2⟩ | ⟨f1, x, y, ⟨ix', x0, x1, rfl⟩, ⟨iy, y0, y1, rfl⟩, f2⟩ | f1
      · have hc2 := hc1 f2
        have hl2 := hlen f2
        simp [-List.map_map, Great_s m h, hg, rmValid_s m h, hv, hA, hT, hC, htl, hTo, hmn, f1, hc2, aw]
        omega
      · have hpath : ∀ i j : Int, 0 ≤ i → i < ((m.places m.start).length : Int) → 0 ≤ j → j < ((m.places m.start).length : Int) → m.path (ix (m.places m.start) i).1 (ix (m.places m.start) j).1 = m.way (ix (m.places m.start) i).1 (ix (m.places m.start) j).1 := fun i j i0 i1 j0 j1 => by
          have h1 := hb.bq.rng _ (ix_mem i0 i1)
          have h2 := hb.bq.rng _ (ix_mem j0 j1)
          exact path_in hv ⟨h1.1, h1.2, h2.1, h2.2⟩
        simp [-List.map_map, Great_s m h, hg, rmValid_s m h, hv, hA, hT, hC, htl, hTo, hmn, f1]
        refine ⟨by omega, ?_⟩
        refine W_iter (fun i : Int => [(14, .int i)]) (fun _ => []) (fun i => (0 ≤ i ∧ i ≤ (m.places m.start).length) ∧ ∀ j, 0 ≤ j → j < i → ∀ k, 0 ≤ k → k < ((m.places m.start).length : Int) → (m.way (ix (m.places m.start) j).1 (ix (m.places m.start) k).1).2.1 = true) (fun i => ((m.places m.start).length - i).toNat) 0 rfl ⟨by omega, upto_zero⟩ fun i ⟨⟨i0, i1⟩, i2⟩ => ?_
        by_cases hi : i < (m.places m.start).length
        · simp [-More_nor, -List.map_map, hi, i0]
          refine W_iter (fun k : Int => [(16, .int k)]) (fun _ => []) (fun k => (0 ≤ k ∧ k ≤ (m.places m.start).length) ∧ ∀ j, 0 ≤ j → j < k → (m.way (ix (m.places m.start) i).1 (ix (m.places m.start) j).1).2.1 = true) (fun k => ((m.places m.start).length - k).toNat) 0 rfl ⟨by omega, upto_zero⟩ fun k ⟨⟨k0, k1⟩, k2⟩ => ?_
          by_cases hk : k < (m.places m.start).length
          · have g1 : ix ((m.places m.start).map (·.1)) i = (ix (m.places m.start) i).1 := ix_map i0 hi
            have g2 : ix ((m.places m.start).map (·.1)) k = (ix (m.places m.start) k).1 := ix_map k0 hk
            have hPs := Path_s m h (ix (m.places m.start) i).1 (ix (m.places m.start) k).1
            rw [hpath i k i0 hi k0 hk] at hPs
            have hw0 := way_zero (m := m) (s := (ix (m.places m.start) i).1) (t := (ix (m.places m.start) k).1)
            rw [← g1, ← g2] at hPs hw0
            simp [-More_nor, -List.map_map, hi, i0, hk, k0, hPs, hw0, aw]
            intro hok
            rw [g1, g2] at hok
            exact ⟨by omega, More_of (k + 1) (by simp) rfl ⟨by omega, upto_succ hok k2⟩ (by omega)⟩
          · simp [-More_nor, -List.map_map, hk]
            exact ⟨by omega, More_of (i + 1) (by simp) rfl ⟨by omega, upto_succ (fun k a b => k2 k a (by omega)) i2⟩ (by omega)⟩
        · have := i2 ix' x0 (by omega) iy y0 y1
          rw [f2] at this
          simp at this
      · simp [-List.map_map, Great_s m h, hg, rmValid_s m h, hv, hA, hT, hC, htl, hTo, hmn, f1, aw]
        try omega
    · simp [Great_s m h, hg, rmValid_s m h, hv, aw]
end Ab
