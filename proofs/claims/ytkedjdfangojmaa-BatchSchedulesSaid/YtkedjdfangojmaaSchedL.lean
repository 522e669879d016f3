/- The theorem of schedules. Condition: none. -/
import Derived.Test.YtkedjdfangojmaaChainL
set_option linter.all false
set_option maxRecDepth 100000
set_option maxHeartbeats 4000000
namespace Ab
theorem mvs_ix {m : Mly} {l : Lat} {top : List (List Int)} : ∀ {n i : Nat}, i < n → ix (m.mvs l top n) (i : Int) = m.mv l top i
  | n + 1, i, h => by
    have hl := mvs_len (m := m) (l := l) (top := top) (n := n)
    rw [ix_nat (by rw [mvs_len]; exact h)]
    simp only [Mly.mvs]
    by_cases e : i < n
    · rw [List.getElem_append_left (by rw [hl]; exact e)]
      have := mvs_ix (m := m) (l := l) (top := top) e
      rwa [ix_nat (by rw [hl]; exact e)] at this
    · have e : i = n := by omega
      subst e
      rw [List.getElem_append_right (by rw [hl]; omega)]
      simp
theorem total_ok {m : Mly} (hm : m.Ok) {l : Lat} (hl : (l.step.length : Int) = m.inputs) (hb : l.bad = false) {top : List (List Int)} (hi1 : 1 ≤ m.inputs ∧ m.inputs ≤ 64) (htE : ∀ w ∈ top, wordE w m.inputs = 0) : (l.total top).2 = 0 ∧ (l.total top).1 = l.sum top ∧ ∀ w ∈ top, (l.cost w).1 = l.rst + l.steps w := by
  have hc : ∀ w, wordE w m.inputs = 0 → l.cost w = (l.rst + l.steps w, 0) := fun w hw => by
    unfold Lat.cost
    rw [if_neg (by rw [hb]; simp; omega), if_neg (by rw [hl, hw]; simp)]
  have h0 : wordE [] m.inputs = 0 := by
    unfold wordE
    rw [if_neg (by omega), if_neg (by simp)]; rfl
  have hf : firstN (fun i => (l.cost (ix top i)).2) top.length = 0 := firstN_none fun j h1 h2 => by
    rw [hc _ (htE _ (ix_mem h1 h2))]
  unfold Lat.total
  rw [hc [] h0, hf]
  exact ⟨rfl, rfl, fun w hw => by rw [hc w (htE w hw)]⟩
theorem sum_ge {m : Mly} (hm : m.Ok) {l : Lat} (hb : l.bad = false) (hl : (l.step.length : Int) = m.inputs) {top : List (List Int)} (ht : ∀ w ∈ top, (w.length : Int) ≤ 1024 ∧ ∀ x ∈ w, 0 ≤ x ∧ x < m.inputs) (hc : ∀ w ∈ top, (l.cost w).1 = l.rst + l.steps w) : ∀ {n : Nat}, n ≤ top.length → m.mvt l top n ≤ l.sum (top.take n)
  | 0, _ => by simp [Mly.mvt, Lat.sum]
  | n + 1, h => by
    have h1 := sum_ge hm hb hl ht hc (n := n) (by omega)
    have h2 := (mv_cost hm hb hl ht (i := n) (by omega)).2.1
    rw [sum_take (by omega), hc _ (ix_get (by omega))]
    simp only [Mly.mvt]
    omega
theorem BatchSchedules_l (aw : PC F_law20_awake [] = some (.bool true)) (m : Mly) (h : m.fits) (l : Lat) (hl : l.fits) (ws : List (List Int)) (hw : okII ws) : PC F_law20_BatchSchedules [m.av, l.av, iLL ws] = some (.bool true) := by
  refine PCx_of (go_law20_BatchSchedules rfl ?_)
  obtain ⟨b, hg⟩ := mgreat_s m h l hl
  cases b with
  | true => simp [hg, aw]
  | false =>
  obtain ⟨c, hg2, hc⟩ := rgreat_s ws 20 20 (by omega) (by omega) hw.1 (fun w hm => (hw.2 w hm).1)
  cases c with
  | true => simp [hg, hg2, aw]
  | false =>
  obtain ⟨hc1, hc2⟩ := hc rfl
  have hfw : fitW ws := fun w hm => by have := hc2 w hm; omega
  have hC := Chain_s m h l hl ws (by omega) hfw
  by_cases hE : (m.chain l ws).2.2 = 0
  · have e1 : m.validE = 0 := by
      refine Classical.byContradiction fun e => ?_
      unfold Mly.chain at hE; rw [if_pos e] at hE; exact e hE
    have e2 : l.fitE m.inputs = 0 := by
      refine Classical.byContradiction fun e => ?_
      unfold Mly.chain at hE; rw [if_neg (by simpa using e1), if_pos e] at hE; exact e hE
    have e3 : wordsE ws m.inputs = 0 := by
      refine Classical.byContradiction fun e => ?_
      unfold Mly.chain at hE; rw [if_neg (by simpa using e1), if_neg (by simpa using e2), if_pos e] at hE; exact e hE
    have hch : m.chain l ws = (m.mvs l (maxW ws) (maxW ws).length, m.mvt l (maxW ws) (maxW ws).length, 0) := by
      unfold Mly.chain; rw [if_neg (by simpa using e1), if_neg (by simpa using e2), if_neg (by simpa using e3)]
    rw [hch] at hC
    have hv := rmValid_s m h
    rw [e1] at hv
    have hm := mvalidE_ok e1
    obtain ⟨hls, hbad⟩ := fitE_ok e2
    have hr0 := (lbad_f.1 hbad).1
    have hmx := RMaximal_s ws (by omega) hfw
    have hok := wordsE_ok (ws := ws) (k := m.inputs) e3
    have htop : ∀ w ∈ maxW ws, (w.length : Int) ≤ 1024 ∧ ∀ x ∈ w, 0 ≤ x ∧ x < m.inputs := fun w hm => hok w (maxW_mem.1 hm).1
    have htE : ∀ w ∈ maxW ws, wordE w m.inputs = 0 := fun w hm => by
      obtain ⟨j, hj, e⟩ := List.mem_iff_getElem.1 (maxW_mem.1 hm).1
      have := firstN_eq.1 e3 j (by omega) (by omega)
      rwa [ix_nat hj, e] at this
    have htl := maxW_len (ws := ws)
    have hin := hm.inputs
    have hCo := Cost_s l hl (maxW ws) (by omega) (fun w h => by have := (htop w h).1; omega)
    obtain ⟨t1, t2, t3⟩ := total_ok hm hls hbad hin htE
    have hge := sum_ge hm hbad hls htop t3 (Nat.le_refl _)
    rw [List.take_length] at hge
    generalize maxW ws = top at *
    have hxl := mvs_len (m := m) (l := l) (top := top) (n := top.length)
    have hxi : ∀ i : Nat, i < top.length → ix (m.mvs l top top.length) (i : Int) = m.mv l top i := fun i h => mvs_ix h
    generalize m.mvs l top top.length = xs at *
    simp [hg, hg2, hC, hmx, hv, hls, hxl]
    refine W_iter (fun i : Nat => [(9, .int i), (11, .int (m.mvt l top i)), (12, .int (m.bef top i))]) (fun _ => []) (fun i => i ≤ top.length) (fun i => top.length - i) 0 (by simp [sets, Mly.bef, Mly.mvt]) (by omega) ?_
    intro i i0
    have hmt := mvt_bd hm hbad hls htop i0
    by_cases hi : i < top.length
    · have hix : i < xs.length := by omega
      have hmt2 := mvt_bd hm hbad hls htop (n := i + 1) hi
      obtain ⟨w1, w2⟩ := htop _ (ix_get hi)
      have hsb := steps_all hbad (w := ix top (i : Int)) (fun x hx => by rw [hls]; exact w2 x hx)
      have hbef : m.bef top (i + 1) = m.run m.start (ix top (i : Int)) := by
        unfold Mly.bef
        rw [if_neg (by omega), show ((i + 1 : Nat) : Int) - 1 = (i : Int) by omega]
      have hmt1 : m.mvt l top (i + 1) = m.mvt l top i + (m.mv l top i).cost l := rfl
      have hxe := hxi i hi
      have hdef : m.mv l top i = if i ≠ 0 ∧ (m.way (m.run m.start (ix top ((i : Int) - 1))) m.start).2.1 = true ∧ l.steps (m.way (m.run m.start (ix top ((i : Int) - 1))) m.start).1 < l.rst then ⟨false, (m.way (m.run m.start (ix top ((i : Int) - 1))) m.start).1, ix top (i : Int)⟩ else ⟨true, [], ix top (i : Int)⟩ := rfl
      rw [← hxe] at hmt1 hdef
      generalize hxx : ix xs (i : Int) = x at hmt1 hdef
      have hsm := rsame_s (ix top (i : Int)) (ix top (i : Int)) (by omega) (by omega)
      simp at hsm
      by_cases hcs : i ≠ 0 ∧ (m.way (m.run m.start (ix top ((i : Int) - 1))) m.start).2.1 = true ∧ l.steps (m.way (m.run m.start (ix top ((i : Int) - 1))) m.start).1 < l.rst
      · rw [if_pos hcs] at hdef
        obtain ⟨hz, hc2, hc3⟩ := hcs
        have hS0 : 0 ≤ m.run m.start (ix top ((i : Int) - 1)) ∧ m.run m.start (ix top ((i : Int) - 1)) < (m.next.length : Int) := run_rng hm hm.start (htop _ (ix_mem (by omega) (by omega))).2
        have hwo := way_ok hm (t := m.start) hS0
        have hb : m.bef top i = m.run m.start (ix top ((i : Int) - 1)) := by unfold Mly.bef; rw [if_neg hz]
        rw [hb]
        generalize m.run m.start (ix top ((i : Int) - 1)) = S at *
        generalize m.way S m.start = p at *
        obtain ⟨hp1, hp2, hp3, hp4⟩ := hwo
        have hrun := hp3 hc2
        have hrs : x.rst = false := by rw [hdef]
        have hxw : x.word = ix top (i : Int) := by rw [hdef]
        have hxp : x.path = p.1 := by rw [hdef]
        rw [← hxp] at hp1 hp2 hrun hc3
        have hcost : x.cost l = l.steps x.path + l.steps (ix top (i : Int)) := by unfold Mv.cost; rw [hrs, hxw]; simp
        have hpE : wordE x.path m.inputs = 0 := by
          unfold wordE
          rw [if_neg (by omega), if_neg (by omega), bad_f.2 hp2]; rfl
        have hck := rCheck_s x.path m.inputs (by omega)
        rw [hpE] at hck
        have hsp := steps_all hbad (w := x.path) (fun y hy => by rw [hls]; exact hp2 y hy)
        simp [-More_nor, hi, hix, hxx, hrs, hS0.1, hck, hxw, hsm]
        (repeat' apply And.intro) <;> try omega
        refine W_iter (fun k : Nat => [(11, .int (m.mvt l top i + l.steps (x.path.take k))), (12, .int (m.run (S) (x.path.take k))), (13, .int k)]) (fun _ => []) (fun k => k ≤ x.path.length) (fun k => x.path.length - k) 0 (by simp [sets, Lat.steps, Mly.run]) (by omega) ?_
        intro k k0
        have b1 := steps_bd hbad (w := x.path) (fun y hy => by rw [hls]; exact hp2 y hy) k k0
        by_cases hk : k < x.path.length
        · have tk := take_snoc hk
          have hxs : ∀ y ∈ x.path.take k, 0 ≤ y ∧ y < m.inputs := fun y hy => hp2 y (List.mem_of_mem_take hy)
          have hr := run_rng hm hS0 hxs
          have ha := hp2 _ (ix_get hk)
          have b2 := steps_bd hbad (w := x.path) (fun y hy => by rw [hls]; exact hp2 y hy) (k + 1) hk
          have q1 := steps_take (l := l) hk
          have q2 : m.run (S) (x.path.take (k + 1)) = ix (ix m.next (m.run (S) (x.path.take k))) (ix x.path (k : Int)) := by rw [tk, run_app]; rfl
          generalize m.run (S) (x.path.take k) = R at *
          have hrow := hm.row R hr.1 hr.2
          simp [-More_nor, hk, hr.1, hr.2, ha.1, ha.2, hrow.1, hls]
          (repeat' apply And.intro) <;> try omega
          exact More_of (k + 1) (by simp [q1, q2]; omega) rfl (by omega) (by omega)
        · have ek : k = x.path.length := by omega
          subst ek
          rw [List.take_length] at b1 ⊢
          simp [-More_nor, hrun]
          (repeat' apply And.intro) <;> try omega
          refine W_iter (fun k : Nat => [(11, .int (m.mvt l top i + l.steps x.path + l.steps ((ix top (i : Int)).take k))), (12, .int (m.run m.start ((ix top (i : Int)).take k))), (14, .int k)]) (fun _ => []) (fun k => k ≤ (ix top (i : Int)).length) (fun k => (ix top (i : Int)).length - k) 0 (by simp [sets, Lat.steps, Mly.run]) (by omega) ?_
          intro k k0
          have c1 := steps_bd hbad (w := ix top (i : Int)) (fun y hy => by rw [hls]; exact w2 y hy) k k0
          by_cases hk : k < (ix top (i : Int)).length
          · have tk := take_snoc hk
            have hxs : ∀ y ∈ (ix top (i : Int)).take k, 0 ≤ y ∧ y < m.inputs := fun y hy => w2 y (List.mem_of_mem_take hy)
            have hr := run_rng hm hm.start hxs
            have ha := w2 _ (ix_get hk)
            have c2 := steps_bd hbad (w := ix top (i : Int)) (fun y hy => by rw [hls]; exact w2 y hy) (k + 1) hk
            have q1 := steps_take (l := l) hk
            have q2 : m.run m.start ((ix top (i : Int)).take (k + 1)) = ix (ix m.next (m.run m.start ((ix top (i : Int)).take k))) (ix (ix top (i : Int)) (k : Int)) := by rw [tk, run_app]; rfl
            generalize m.run m.start ((ix top (i : Int)).take k) = R at *
            have hrow := hm.row R hr.1 hr.2
            simp [-More_nor, hxw, hk, hr.1, hr.2, ha.1, ha.2, hrow.1, hls]
            (repeat' apply And.intro) <;> try omega
            exact More_of (k + 1) (by simp [q1, q2]; omega) rfl (by omega) (by omega)
          · have ek : k = (ix top (i : Int)).length := by omega
            subst ek
            rw [List.take_length] at c1 ⊢
            simp [-More_nor, hxw]
            (repeat' apply And.intro) <;> try omega
            exact More_of (i + 1) (by simp [hbef, hmt1, hcost, hrs]; omega) rfl hi (by omega)
      · rw [if_neg hcs] at hdef
        have hS0 := hm.start
        have hrs : x.rst = true := by rw [hdef]
        have hxw : x.word = ix top (i : Int) := by rw [hdef]
        have hxp : x.path = [] := by rw [hdef]
        have hp2 : ∀ y ∈ x.path, 0 ≤ y ∧ y < m.inputs := by rw [hxp]; simp
        have hp1 : (x.path.length : Int) ≤ 128 := by rw [hxp]; simp
        have hrun : m.run m.start x.path = m.start := by rw [hxp]; rfl
        have hcost : x.cost l = l.rst + l.steps (ix top (i : Int)) := by unfold Mv.cost; rw [hrs, hxw]; simp
        have hs0 : l.steps x.path = 0 := by rw [hxp]; rfl
        have hpE : wordE x.path m.inputs = 0 := by
          unfold wordE
          rw [if_neg (by omega), if_neg (by omega), bad_f.2 hp2]; rfl
        have hck := rCheck_s x.path m.inputs (by omega)
        rw [hpE] at hck
        have hpl : (x.path.length : Int) = 0 := by rw [hxp]; rfl
        simp [-More_nor, hi, hix, hxx, hrs, hS0.1, hpl, hck, hxw, hsm]
        (repeat' apply And.intro) <;> try omega
        refine W_iter (fun k : Nat => [(11, .int (m.mvt l top i + l.rst + l.steps (x.path.take k))), (12, .int (m.run (m.start) (x.path.take k))), (13, .int k)]) (fun _ => []) (fun k => k ≤ x.path.length) (fun k => x.path.length - k) 0 (by simp [sets, Lat.steps, Mly.run]) (by omega) ?_
        intro k k0
        have b1 := steps_bd hbad (w := x.path) (fun y hy => by rw [hls]; exact hp2 y hy) k k0
        by_cases hk : k < x.path.length
        · have tk := take_snoc hk
          have hxs : ∀ y ∈ x.path.take k, 0 ≤ y ∧ y < m.inputs := fun y hy => hp2 y (List.mem_of_mem_take hy)
          have hr := run_rng hm hS0 hxs
          have ha := hp2 _ (ix_get hk)
          have b2 := steps_bd hbad (w := x.path) (fun y hy => by rw [hls]; exact hp2 y hy) (k + 1) hk
          have q1 := steps_take (l := l) hk
          have q2 : m.run (m.start) (x.path.take (k + 1)) = ix (ix m.next (m.run (m.start) (x.path.take k))) (ix x.path (k : Int)) := by rw [tk, run_app]; rfl
          generalize m.run (m.start) (x.path.take k) = R at *
          have hrow := hm.row R hr.1 hr.2
          simp [-More_nor, hk, hr.1, hr.2, ha.1, ha.2, hrow.1, hls]
          (repeat' apply And.intro) <;> try omega
          all_goals exact More_of (k + 1) (by simp [q1, q2]; omega) rfl (by omega) (by omega)
        · have ek : k = x.path.length := by omega
          subst ek
          rw [List.take_length] at b1 ⊢
          simp [-More_nor, hrun]
          (repeat' apply And.intro) <;> try omega
          refine W_iter (fun k : Nat => [(11, .int (m.mvt l top i + l.rst + l.steps x.path + l.steps ((ix top (i : Int)).take k))), (12, .int (m.run m.start ((ix top (i : Int)).take k))), (14, .int k)]) (fun _ => []) (fun k => k ≤ (ix top (i : Int)).length) (fun k => (ix top (i : Int)).length - k) 0 (by simp [sets, Lat.steps, Mly.run]) (by omega) ?_
          intro k k0
          have c1 := steps_bd hbad (w := ix top (i : Int)) (fun y hy => by rw [hls]; exact w2 y hy) k k0
          by_cases hk : k < (ix top (i : Int)).length
          · have tk := take_snoc hk
            have hxs : ∀ y ∈ (ix top (i : Int)).take k, 0 ≤ y ∧ y < m.inputs := fun y hy => w2 y (List.mem_of_mem_take hy)
            have hr := run_rng hm hm.start hxs
            have ha := w2 _ (ix_get hk)
            have c2 := steps_bd hbad (w := ix top (i : Int)) (fun y hy => by rw [hls]; exact w2 y hy) (k + 1) hk
            have q1 := steps_take (l := l) hk
            have q2 : m.run m.start ((ix top (i : Int)).take (k + 1)) = ix (ix m.next (m.run m.start ((ix top (i : Int)).take k))) (ix (ix top (i : Int)) (k : Int)) := by rw [tk, run_app]; rfl
            generalize m.run m.start ((ix top (i : Int)).take k) = R at *
            have hrow := hm.row R hr.1 hr.2
            simp [-More_nor, hxw, hk, hr.1, hr.2, ha.1, ha.2, hrow.1, hls]
            (repeat' apply And.intro) <;> try omega
            exact More_of (k + 1) (by simp [q1, q2]; omega) rfl (by omega) (by omega)
          · have ek : k = (ix top (i : Int)).length := by omega
            subst ek
            rw [List.take_length] at c1 ⊢
            simp [-More_nor, hxw]
            (repeat' apply And.intro) <;> try omega
            exact More_of (i + 1) (by simp [hbef, hmt1, hcost, hrs]; omega) rfl hi (by omega)
    · have ei : i = top.length := by omega
      subst ei
      simp [hxl, hCo, t1, t2, hge, aw]
  · have h0 : (m.chain l ws).1 = [] ∧ (m.chain l ws).2.1 = 0 := by
      unfold Mly.chain at hE ⊢
      split
      · exact ⟨rfl, rfl⟩
      · split
        · exact ⟨rfl, rfl⟩
        · split
          · exact ⟨rfl, rfl⟩
          · rename_i a b c
            rw [if_neg a, if_neg b, if_neg c] at hE
            exact absurd rfl hE
    simp [hg, hg2, hC, hE, h0.1, h0.2, aw]
end Ab
