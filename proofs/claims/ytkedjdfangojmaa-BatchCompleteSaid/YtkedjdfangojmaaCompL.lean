/- The planned words suffice. Condition: none. -/
import Derived.Test.YtkedjdfangojmaaObsB
set_option linter.all false
set_option maxRecDepth 100000
set_option maxHeartbeats 4000000
namespace Ab
theorem maxW_above {l : List (List Int)} : ∀ (k : Nat) (w : List Int), w ∈ l → (∀ v ∈ l, v.length ≤ w.length + k) → ∃ v ∈ maxW l, w <+: v
  | 0, w, hw, hb => ⟨w, maxW_mem.2 ⟨hw, fun v hv hne hp => by
      have h1 := hp.length_le
      have h2 := hb v hv
      exact hne (hp.eq_of_length (by omega))⟩, List.prefix_refl _⟩
  | k + 1, w, hw, hb => by
    by_cases h : ∃ v ∈ l, w ≠ v ∧ w <+: v
    · obtain ⟨v, hv, hne, hp⟩ := h
      have h1 := hp.length_le
      have h2 : w.length ≠ v.length := fun e => hne (hp.eq_of_length e)
      obtain ⟨u, hu, hq⟩ := maxW_above k v hv fun x hx => by have := hb x hx; omega
      exact ⟨u, hu, hp.trans hq⟩
    · exact ⟨w, maxW_mem.2 ⟨hw, fun v hv hne hp => h ⟨v, hv, hne, hp⟩⟩, List.prefix_refl _⟩
theorem ans_cov {o : Obs} {w : List Int} : (o.ans w).2 = true ↔ w = [] ∨ o.cov w := by
  unfold Obs.ans
  by_cases h0 : w = []
  · simp [h0]
  · rw [if_neg h0]
    by_cases hn : o.at w < 0
    · rw [if_pos hn]
      simp only [Bool.false_eq_true, false_iff, not_or]
      refine ⟨h0, fun ⟨t, ht, hp⟩ => ?_⟩
      have h1 := idx_any (p := fun t : Tr => decide (w <+: t.inp)) (xs := o.traces)
      rw [List.any_eq_true.2 ⟨t, ht, by simpa using hp⟩] at h1
      have h2 : 0 ≤ o.at w := by simpa [Obs.at] using h1
      omega
    · rw [if_neg hn]
      have hh := idx_hit (p := fun t : Tr => decide (w <+: t.inp)) (xs := o.traces) (show 0 ≤ o.at w by omega)
      simp only [true_iff]
      exact .inr ⟨_, ix_mem (l := o.traces) (n := o.at w) (by omega) hh.1, of_decide_eq_true (show decide (w <+: (ix o.traces (o.at w)).inp) = true from hh.2)⟩
theorem BatchComplete_l (aw : PC F_law20_awake [] = some (.bool true)) (m : Mly) (h : m.fits) (ks : List (List Int)) (hk : okII ks) (qs : List (List Int)) (hq : okII qs) : PC F_law20_BatchComplete [m.av, iLL ks, iLL qs] = some (.bool true) := by
  refine PCx_of (go_law20_BatchComplete rfl ?_)
  obtain ⟨b, hg⟩ := mgreat_s m h ⟨[], 0⟩ ⟨by simp, by simp, by simp⟩
  have hg : PC F_ref19_Great [m.av, .agg [.imm false [], .int 0]] = some (.bool b) := hg
  cases b with
  | true => simp [hg, aw]
  | false =>
  obtain ⟨c, hg2, hc⟩ := rgreat_s ks 20 20 (by omega) (by omega) hk.1 (fun w hm => (hk.2 w hm).1)
  cases c with
  | true => simp [hg, hg2, aw]
  | false =>
  obtain ⟨d, hg3, hd⟩ := rgreat_s qs 20 20 (by omega) (by omega) hq.1 (fun w hm => (hq.2 w hm).1)
  cases d with
  | true => simp [hg, hg2, hg3, aw]
  | false =>
  obtain ⟨hc1, hc2⟩ := hc rfl
  obtain ⟨hd1, hd2⟩ := hd rfl
  obtain ⟨o, e, hO, hoe⟩ := Of_s m h ks (by omega) (fun w hm => by have := hc2 w hm; omega)
  by_cases he : e = 0
  · subst he
    obtain ⟨e1, hm, hof, hol⟩ := hoe rfl
    have hok := Of.ok hof (by omega)
    have hfw : fitW qs := fun w hm => by have := hd2 w hm; omega
    have hP := Plan_s o hok qs (by omega) hfw
    obtain ⟨pl1, pl2⟩ := plan_ok (o := o) hfw
    by_cases hE : wordsE qs o.inputs = 0
    · have hpl : o.plan qs = (maxW (o.open qs), 0) := by unfold Obs.plan; rw [if_neg (by simpa using hE)]
      rw [hpl] at hP pl1 pl2
      dsimp only at pl1 pl2
      have hopen : ∀ w ∈ maxW (o.open qs), (o.ans w).2 = false := fun w hw => by
        have := (List.mem_filter.1 (maxW_mem.1 hw).1).2
        simpa using this
      have hEw : ∀ w ∈ qs, wordE w m.inputs = 0 := fun w hw => by
        obtain ⟨j, hj, e⟩ := List.mem_iff_getElem.1 hw
        have := firstN_eq.1 hE j (by omega) (by omega)
        rwa [ix_nat hj, e, hof.inputs] at this
      have hasc := maxW_asc (o.open qs)
      have habove : ∀ q ∈ qs, (o.ans q).2 = false → ∃ w ∈ maxW (o.open qs), q <+: w := fun q hq' ha =>
        maxW_above 20 q (List.mem_filter.2 ⟨hq', by simp [ha]⟩) fun v hv => by
          have := hd2 v (List.mem_filter.1 hv).1
          omega
      have hpre : ∀ u ∈ maxW (o.open qs), ∀ v ∈ maxW (o.open qs), u ≠ v → ¬ u <+: v := fun u hu v hv hne => (maxW_mem.1 hu).2 v (maxW_mem.1 hv).1 hne
      have hT := Traces_s m h (maxW (o.open qs)) (by omega) (fun w hw => by have := hd2 w (pl2 w hw); omega)
      generalize maxW (o.open qs) = top at *
      have htE : m.trsE top = 0 := by
        unfold Mly.trsE
        rw [if_neg (by simpa using e1)]
        exact firstN_none fun j h1 h2 => hEw _ (pl2 _ (ix_mem h1 h2))
      rw [htE] at hT
      simp only [ne_eq, not_true_eq_false, if_false] at hT
      obtain ⟨p, hA, a1, a2, a3, a4⟩ := All_s m hm o (m.trs top) hof (trs_of fun w hw => hEw w (pl2 w hw)) (by simp [Mly.trs]; omega)
      have hpok := Of.ok a1 (by simp [Mly.trs] at a2; omega)
      have hfin : ∀ q ∈ qs, (p.ans q).2 = true := fun q hq' => by
        rw [ans_cov]
        cases ha : (o.ans q).2 with
        | true => exact (ans_cov.1 ha).imp id (a3 q)
        | false =>
          right
          obtain ⟨w, hw, hp⟩ := habove q hq' ha
          have hwne : w ≠ [] := fun e => by
            have := hopen w hw
            rw [e] at this
            simp [Obs.ans] at this
          obtain ⟨t, ht, hp2⟩ := a4 ⟨w, m.outs m.start w⟩ (List.mem_map.2 ⟨w, hw, rfl⟩) hwne
          exact ⟨t, ht, hp.trans hp2⟩
      simp [hg, hg2, hg3, hO, hP]
      refine W_iter (fun i : Nat => [(8, .int i)]) (fun _ => []) (fun i => i ≤ top.length) (fun i => top.length - i) 0 (by simp [sets]) (by omega) ?_
      intro i i0
      by_cases hi : i < top.length
      · have hmi := ix_get (l := top) hi
        have hli := hd2 _ (pl2 _ hmi)
        have hans := RAnswer_s o hok (ix top (i : Int)) (by omega)
        rw [hopen _ hmi] at hans
        have hhas := Has_s qs (ix top (i : Int)) (by omega) (fun x hx => by have := hd2 x hx; omega) (pl2 _ hmi)
        by_cases hz : 0 < i
        · have hlt := asc_ix hasc (i := i - 1) (j := i) (by omega) hi
          rw [show ((i - 1 : Nat) : Int) = (i : Int) - 1 by omega] at hlt
          have hmj := ix_mem (l := top) (n := (i : Int) - 1) (by omega) (by omega)
          have hcm := rcmp_s (ix top ((i : Int) - 1)) (ix top (i : Int)) (by have := hd2 _ (pl2 _ hmj); omega) (by omega)
          simp [-More_nor, hi, hans, hhas, hz, hcm, show ¬ 0 ≤ slxC (ix top ((i : Int) - 1)) (ix top (i : Int)) by omega, show (i : Int) - 1 < top.length by omega]
          refine ⟨by omega, by omega, ?_⟩
          refine W_iter (fun k : Nat => [(10, .int k)]) (fun _ => []) (fun k => k ≤ top.length) (fun k => top.length - k) 0 (by simp [sets]) (by omega) ?_
          intro k k0
          by_cases hk : k < top.length
          · have hmk := ix_get (l := top) hk
            have hlk := hd2 _ (pl2 _ hmk)
            by_cases hki : k = i
            · have hki' : ((k : Int) = i) = True := eq_true (by omega)
              simp [-More_nor, hk, hi, hki]
              (repeat' apply And.intro) <;> try omega
              exact More_of (k + 1) (by simp [hki]) rfl (by omega) (by omega)
            · have hne : ix top (i : Int) ≠ ix top (k : Int) := fun e => by
                have h8 := slxC_ok.anti (ix top (i : Int)) (ix top (i : Int))
                rcases Nat.lt_or_gt_of_ne hki with h | h
                · have := asc_ix hasc h hi
                  rw [← e] at this; omega
                · have := asc_ix hasc h hk
                  rw [← e] at this; omega
              have hpf := rhasPre_s (ix top (k : Int)) (ix top (i : Int)) (by omega) (by omega)
              rw [decide_eq_false (hpre _ hmi _ hmk hne)] at hpf
              simp [-More_nor, hk, hi, hki, hpf]
              (repeat' apply And.intro) <;> try omega
              exact More_of (k + 1) (by simp) rfl (by omega) (by omega)
          · have ek : k = top.length := by omega
            subst ek
            simp [-More_nor]
            (repeat' apply And.intro) <;> try omega
            exact More_of (i + 1) (by simp) rfl (by omega) (by omega)
        · simp [-More_nor, hi, hans, hhas, hz]
          refine W_iter (fun k : Nat => [(10, .int k)]) (fun _ => []) (fun k => k ≤ top.length) (fun k => top.length - k) 0 (by simp [sets]) (by omega) ?_
          intro k k0
          by_cases hk : k < top.length
          · have hmk := ix_get (l := top) hk
            have hlk := hd2 _ (pl2 _ hmk)
            by_cases hki : k = i
            · have hki' : ((k : Int) = i) = True := eq_true (by omega)
              simp [-More_nor, hk, hi, hki]
              (repeat' apply And.intro) <;> try omega
              exact More_of (k + 1) (by simp [hki]) rfl (by omega) (by omega)
            · have hne : ix top (i : Int) ≠ ix top (k : Int) := fun e => by
                have h8 := slxC_ok.anti (ix top (i : Int)) (ix top (i : Int))
                rcases Nat.lt_or_gt_of_ne hki with h | h
                · have := asc_ix hasc h hi
                  rw [← e] at this; omega
                · have := asc_ix hasc h hk
                  rw [← e] at this; omega
              have hpf := rhasPre_s (ix top (k : Int)) (ix top (i : Int)) (by omega) (by omega)
              rw [decide_eq_false (hpre _ hmi _ hmk hne)] at hpf
              simp [-More_nor, hk, hi, hki, hpf]
              (repeat' apply And.intro) <;> try omega
              exact More_of (k + 1) (by simp) rfl (by omega) (by omega)
          · have ek : k = top.length := by omega
            subst ek
            simp [-More_nor]
            (repeat' apply And.intro) <;> try omega
            exact More_of (i + 1) (by simp) rfl (by omega) (by omega)
      · have ei : i = top.length := by omega
        subst ei
        simp [-More_nor, hT, hA]
        refine W_iter (fun i : Nat => [(14, .int i)]) (fun _ => []) (fun i => i ≤ qs.length) (fun i => qs.length - i) 0 (by simp [sets]) (by omega) ?_
        intro i i0
        by_cases hi : i < qs.length
        · have hmi := ix_get (l := qs) hi
          have hli := hd2 _ hmi
          have hans := RAnswer_s p hpok (ix qs (i : Int)) (by omega)
          rw [hfin _ hmi] at hans
          simp [-More_nor, hi, hans]
          (repeat' apply And.intro) <;> try omega
          exact More_of (i + 1) (by simp) rfl (by omega) (by omega)
        · simp [hi, aw]
    · have hpl : o.plan qs = ([], wordsE qs o.inputs) := by unfold Obs.plan; rw [if_pos hE]
      rw [hpl] at hP
      have hP' : PC F_batch_Plan [o.av, iLL qs] = some (.tup [.imm false [], .int (wordsE qs o.inputs)]) := hP
      simp [hg, hg2, hg3, hO, hP', hE, aw]
  · simp [hg, hg2, hg3, hO, he, aw]
end Ab
