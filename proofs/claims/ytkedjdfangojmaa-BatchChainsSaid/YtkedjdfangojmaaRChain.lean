/- Schedules: the document's. Condition: none. -/
import Derived.Test.YtkedjdfangojmaaChain
set_option linter.all false
set_option maxRecDepth 100000
set_option maxHeartbeats 4000000
namespace Ab
def Mly.befR (m : Mly) (top : List (List Int)) (i : Nat) : Int := if i = 0 then m.start else m.run m.start (ix top ((i : Int) - 1))
theorem RChain_s (m : Mly) (h : m.fits) (l : Lat) (hl : l.fits) (ws : List (List Int)) (hn : (ws.length : Int) ≤ 1000000) (hw : fitW ws) : PC F_ref20_Chain [m.av, l.av, iLL ws] = some (chainA (m.chain l ws)) := by
  refine PCx_of (go_ref20_Chain rfl ?_)
  have hv := rmValid_s m h
  have hf := rfits_s l hl m.inputs
  have hck := check_s ws m.inputs hn (fun w h => by have := hw w h; omega)
  unfold Mly.chain
  by_cases e1 : m.validE = 0
  · rw [e1] at hv
    have hm := mvalidE_ok e1
    by_cases e2 : l.fitE m.inputs = 0
    · rw [e2] at hf
      obtain ⟨hls, hbad⟩ := fitE_ok e2
      have hr0 := (lbad_f.1 hbad).1
      by_cases e4 : wordsE ws m.inputs = 0
      · rw [e4] at hck
        have hmx := RMaximal_s ws hn hw
        have hok := wordsE_ok (ws := ws) (k := m.inputs) e4
        have htop : ∀ w ∈ maxW ws, (w.length : Int) ≤ 1024 ∧ ∀ x ∈ w, 0 ≤ x ∧ x < m.inputs := fun w hm => hok w (maxW_mem.1 hm).1
        have htl := maxW_len (ws := ws)
        generalize maxW ws = top at *
        simp [e1, e2, e4, hv, hf, hck, hmx]
        refine W_iter (fun p : Nat × List Blk => [(6, .int p.1), (8, .int (m.befR top p.1)), (12, .int (m.mvt l top p.1)), (13, .sl 0 (3 * p.1) 0 p.1)]) (fun p => ⟨some 3, mcs (m.mvs l top p.1), if m.mvs l top p.1 = [] then .nul else .live⟩ :: p.2) (fun p => p.1 ≤ top.length) (fun p => top.length - p.1) (0, []) (by simp [sets, Mly.befR, Mly.mvt, Mly.mvs, mcs]) (by simp) ?_
        rintro ⟨i, r⟩ i0
        dsimp only at i0 ⊢
        have hmt := mvt_bd hm hbad hls htop i0
        by_cases hi : i < top.length
        · have hmt2 := mvt_bd hm hbad hls htop (n := i + 1) hi
          have hmc := mv_cost hm hbad hls htop hi
          obtain ⟨w1, w2⟩ := htop _ (ix_get hi)
          have hst := rsteps_s l hbad (ix top (i : Int)) (fun x hx => by rw [hls]; exact w2 x hx) (by omega)
          have hsb := steps_all hbad (w := ix top (i : Int)) (fun x hx => by rw [hls]; exact w2 x hx)
          have hou := ROuts_s m hm m.start hm.start (ix top (i : Int)) (by omega) w2
          have hmL : (mcs (m.mvs l top i)).length = 3 * i := by rw [mcs_len, mvs_len]
          have hk3 : (3 * i = i * kst (some 3)) = True := eq_true (by simp [kst]; omega)
          have hbef : m.befR top (i + 1) = m.run m.start (ix top (i : Int)) := by
            unfold Mly.befR
            rw [if_neg (by omega), show ((i + 1 : Nat) : Int) - 1 = (i : Int) by omega]
          have hmt1 : m.mvt l top (i + 1) = m.mvt l top i + (m.mv l top i).cost l := rfl
          have hmv1 : m.mvs l top (i + 1) = m.mvs l top i ++ [m.mv l top i] := rfl
          have hmc0 := hmc
          have hrr : 0 ≤ m.befR top i ∧ m.befR top i < (m.next.length : Int) := by
            unfold Mly.befR
            split
            · exact hm.start
            · exact run_rng hm hm.start (htop _ (ix_mem (by omega) (by omega))).2
          have hP := RPath_s m h (m.befR top i) m.start
          rw [path_in e1 ⟨hrr.1, hrr.2, hm.start.1, hm.start.2⟩] at hP
          have hmv : m.mv l top i = if i ≠ 0 ∧ (m.way (m.befR top i) m.start).2.1 = true ∧ l.steps (m.way (m.befR top i) m.start).1 < l.rst then ⟨false, (m.way (m.befR top i) m.start).1, ix top (i : Int)⟩ else ⟨true, [], ix top (i : Int)⟩ := by
            by_cases hz : i = 0
            · unfold Mly.mv; rw [if_neg (by simp [hz]), if_neg (by simp [hz])]
            · unfold Mly.mv Mly.befR; rw [if_neg hz]
          have hwo := way_ok hm (t := m.start) hrr
          generalize m.befR top i = S at *
          generalize m.way S m.start = p at *
          obtain ⟨p, ok, e⟩ := p
          dsimp only at hwo hP hmv
          obtain ⟨o1, o2, o3, rfl⟩ := hwo
          have hsp := rsteps_s l hbad p (fun x hx => by rw [hls]; exact o2 x hx) (by omega)
          have hsq := steps_all hbad (w := p) (fun x hx => by rw [hls]; exact o2 x hx)
          by_cases hz : 0 < i
          · by_cases hlt : l.steps p < l.rst
            · cases ok with
              | true =>
                rw [if_pos ⟨by omega, rfl, hlt⟩] at hmv
                have e3 := hmv
                rw [e3] at hmc0
                simp only [Mv.cost, Bool.false_eq_true, if_false] at hmc0
                simp [-More_nor, hi, hP, hsp, hst, hou, rg_blk_one, rg_setB_new, hk3, hmL, hz, hlt]
                (repeat' apply And.intro) <;> first | omega | (split <;> simp; done) | skip
                exact More_of (i + 1, r ++ [⟨some 3, [.bool false, iL p, iL (ix top (i : Int))], .live⟩]) (by simp [hbef, hmt1, e3, Mv.cost, hmL]; omega) (by simp [hmv1, mcs_app, mcs_one, e3, mc]) hi (by dsimp only; omega)
              | false =>
                rw [if_neg (by simp)] at hmv
                have e3 := hmv
                rw [e3] at hmc0
                simp only [Mv.cost, if_true] at hmc0
                simp [-More_nor, hi, hP, hsp, hst, hou, rg_blk_one, rg_setB_new, hk3, hmL, hz, hlt]
                (repeat' apply And.intro) <;> first | omega | (split <;> simp; done) | skip
                exact More_of (i + 1, r ++ [⟨some 3, [.bool true, .snil, iL (ix top (i : Int))], .live⟩]) (by simp [hbef, hmt1, e3, Mv.cost, hmL]; omega) (by simp [hmv1, mcs_app, mcs_one, e3, mc]) hi (by dsimp only; omega)
            · rw [if_neg (by rintro ⟨_, _, h⟩; exact hlt h)] at hmv
              have e3 := hmv
              rw [e3] at hmc0
              simp only [Mv.cost, if_true] at hmc0
              cases ok with
              | true =>
                simp [-More_nor, hi, hP, hsp, hst, hou, rg_blk_one, rg_setB_new, hk3, hmL, hz, hlt]
                (repeat' apply And.intro) <;> first | omega | (split <;> simp; done) | skip
                exact More_of (i + 1, r ++ [⟨some 3, [.bool true, .snil, iL (ix top (i : Int))], .live⟩]) (by simp [hbef, hmt1, e3, Mv.cost, hmL]; omega) (by simp [hmv1, mcs_app, mcs_one, e3, mc]) hi (by dsimp only; omega)
              | false =>
                simp [-More_nor, hi, hP, hsp, hst, hou, rg_blk_one, rg_setB_new, hk3, hmL, hz, hlt]
                (repeat' apply And.intro) <;> first | omega | (split <;> simp; done) | skip
                exact More_of (i + 1, r ++ [⟨some 3, [.bool true, .snil, iL (ix top (i : Int))], .live⟩]) (by simp [hbef, hmt1, e3, Mv.cost, hmL]; omega) (by simp [hmv1, mcs_app, mcs_one, e3, mc]) hi (by dsimp only; omega)
          · rw [if_neg (by rintro ⟨h, _⟩; omega)] at hmv
            have e3 := hmv
            rw [e3] at hmc0
            simp only [Mv.cost, if_true] at hmc0
            simp [-More_nor, hi, hP, hsp, hst, hou, rg_blk_one, rg_setB_new, hk3, hmL, hz]
            (repeat' apply And.intro) <;> first | omega | (split <;> simp; done) | skip
            exact More_of (i + 1, r ++ [⟨some 3, [.bool true, .snil, iL (ix top (i : Int))], .live⟩]) (by simp [hbef, hmt1, e3, Mv.cost, hmL]; omega) (by simp [hmv1, mcs_app, mcs_one, e3, mc]) hi (by dsimp only; omega)
        · have ei : i = top.length := by omega
          subst ei
          have hvw := view_mv (σ := ⟨some 3, mcs (m.mvs l top top.length), if m.mvs l top top.length = [] then .nul else .live⟩ :: r) (b := 0) (xs := m.mvs l top top.length) rfl mvs_len.symm rfl mvs_rst
          simp [hvw]
      · simp [e1, e2, e4, hv, hf, hck]
    · simp [e1, e2, hv, hf]
  · simp [e1, hv]
end Ab
