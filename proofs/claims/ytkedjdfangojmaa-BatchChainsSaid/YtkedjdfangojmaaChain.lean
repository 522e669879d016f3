/- Schedules: the program's. Condition: none. -/
import Derived.Test.YtkedjdfangojmaaChainP
set_option linter.all false
set_option maxRecDepth 100000
set_option maxHeartbeats 4000000
namespace Ab
theorem rg_setB_new {r : List Blk} {B C : Blk} : setB (r ++ [B]) r.length C = r ++ [C] := by
  induction r with
  | nil => rfl
  | cons x r ih => simp only [List.cons_append, List.length_cons, setB, ih]
theorem rg_blk_one {r : List Blk} {B : Blk} : blk (r ++ [B]) r.length = some B := rg_blk_new
def Mly.chain (m : Mly) (l : Lat) (ws : List (List Int)) : List Mv × Int × Int :=
  if m.validE ≠ 0 then ([], 0, m.validE) else if l.fitE m.inputs ≠ 0 then ([], 0, l.fitE m.inputs) else if wordsE ws m.inputs ≠ 0 then ([], 0, wordsE ws m.inputs)
  else (m.mvs l (maxW ws) (maxW ws).length, m.mvt l (maxW ws) (maxW ws).length, 0)
abbrev chainA (r : List Mv × Int × Int) : AV := .tup [mvL r.1, .int r.2.1, .int r.2.2]
/-- Where the word before left the machine. -/
def Mly.bef (m : Mly) (top : List (List Int)) (i : Nat) : Int := if i = 0 then -1 else m.run m.start (ix top ((i : Int) - 1))
theorem maxW_len {ws : List (List Int)} : (maxW ws).length ≤ ws.length := by
  have h2 : (maxW ws).length ≤ (sortU ws).length := List.length_filter_le _ _
  have h3 := compW_len (sortG slxC ws)
  rw [sortG_len] at h3
  have h4 : (sortU ws).length ≤ ws.length := h3
  omega
theorem fitE_ok {l : Lat} {k : Int} (h : l.fitE k = 0) : (l.step.length : Int) = k ∧ l.bad = false := by
  unfold Lat.fitE at h
  split at h
  · omega
  · rename_i h1
    split at h
    · omega
    · rename_i h2; exact ⟨by omega, by simpa using h2⟩
theorem steps_all {l : Lat} (hb : l.bad = false) {w : List Int} (hw : okW l w) : 0 ≤ l.steps w ∧ l.steps w ≤ 1048576 * (w.length : Int) := by
  have := steps_bd hb hw w.length (Nat.le_refl _)
  rwa [List.take_length] at this
theorem mv_cost {m : Mly} (hm : m.Ok) {l : Lat} (hb : l.bad = false) (hl : (l.step.length : Int) = m.inputs) {top : List (List Int)} (ht : ∀ w ∈ top, (w.length : Int) ≤ 1024 ∧ ∀ x ∈ w, 0 ≤ x ∧ x < m.inputs) {i : Nat} (hi : i < top.length) : 0 ≤ (m.mv l top i).cost l ∧ (m.mv l top i).cost l ≤ l.rst + l.steps (ix top (i : Int)) ∧ (m.mv l top i).cost l ≤ 1074790400 := by
  have hr := (lbad_f.1 hb).1
  obtain ⟨h1, h2⟩ := ht _ (ix_get hi)
  have hs := steps_all hb (w := ix top (i : Int)) (fun x hx => by rw [hl]; exact h2 x hx)
  unfold Mly.mv Mv.cost
  split
  · rename_i hc
    obtain ⟨c1, c2, c3⟩ := hc
    have hrr : 0 ≤ m.run m.start (ix top ((i : Int) - 1)) ∧ m.run m.start (ix top ((i : Int) - 1)) < (m.next.length : Int) := by
      refine run_rng hm hm.start (ht _ (ix_mem (by omega) (by omega))).2
    have hw := way_ok hm (t := m.start) hrr
    have hs2 := steps_all hb (w := (m.way (m.run m.start (ix top ((i : Int) - 1))) m.start).1) (fun x hx => by rw [hl]; exact hw.2.1 x hx)
    simp only [Bool.false_eq_true, if_false]
    omega
  · simp only [if_true]
    omega
theorem mvt_bd {m : Mly} (hm : m.Ok) {l : Lat} (hb : l.bad = false) (hl : (l.step.length : Int) = m.inputs) {top : List (List Int)} (ht : ∀ w ∈ top, (w.length : Int) ≤ 1024 ∧ ∀ x ∈ w, 0 ≤ x ∧ x < m.inputs) : ∀ {n : Nat}, n ≤ top.length → 0 ≤ m.mvt l top n ∧ m.mvt l top n ≤ 1074790400 * (n : Int)
  | 0, _ => by simp [Mly.mvt]
  | n + 1, h => by
    have h1 := mvt_bd hm hb hl ht (n := n) (by omega)
    have h2 := mv_cost hm hb hl ht (i := n) (by omega)
    simp only [Mly.mvt]
    omega
theorem wordsE_ok {ws : List (List Int)} {k : Int} (h : wordsE ws k = 0) : ∀ w ∈ ws, (w.length : Int) ≤ 1024 ∧ ∀ x ∈ w, 0 ≤ x ∧ x < k := fun w hw => by
  obtain ⟨j, hj, e⟩ := List.mem_iff_getElem.1 hw
  have := firstN_eq.1 h j (by omega) (by omega)
  rw [ix_nat hj, e] at this
  exact wordE_ok this
theorem Chain_s (m : Mly) (h : m.fits) (l : Lat) (hl : l.fits) (ws : List (List Int)) (hn : (ws.length : Int) ≤ 1000000) (hw : fitW ws) : PC F_batch_Chain [m.av, l.av, iLL ws] = some (chainA (m.chain l ws)) := by
  refine PCx_of (go_batch_Chain rfl ?_)
  have hv := mValid_s m h
  have hf := fits_s m l hl
  unfold Mly.chain
  by_cases e1 : m.validE = 0
  · rw [e1] at hv
    have hm := mvalidE_ok e1
    by_cases e2 : l.fitE m.inputs = 0
    · rw [e2] at hf
      obtain ⟨hls, hbad⟩ := fitE_ok e2
      have hr0 := (lbad_f.1 hbad).1
      unfold wordsE
      simp [e1, e2, hv, hf]
      refine W_iter (fun i : Nat => [(7, .int i)]) (fun _ => []) (fun i => i ≤ ws.length ∧ ∀ j : Int, 0 ≤ j → j < i → wordE (ix ws j) m.inputs = 0) (fun i => ws.length - i) 0 (by simp [sets]) ⟨by omega, fun j h1 h2 => by omega⟩ ?_
      intro i ⟨i0, i1⟩
      by_cases hi : i < ws.length
      · have hc := wCheck_s (ix ws (i : Int)) m.inputs (by have := hw _ (ix_get hi); omega)
        by_cases he : wordE (ix ws (i : Int)) m.inputs = 0
        · simp [-More_nor, hi, hc, he]
          (repeat' apply And.intro) <;> try omega
          exact More_of (i + 1) (by simp) rfl ⟨by omega, by
            have := upto_succ (P := fun j => wordE (ix ws j) m.inputs = 0) (i := (i : Int)) he i1
            simpa using this⟩ (by omega)
        · have hf := firstN_some (f := fun i => wordE (ix ws i) m.inputs) (n := ws.length) (i := (i : Int)) (by omega) (by omega) he i1
          simp [hi, hc, he, hf]
      · have ei : i = ws.length := by omega
        subst ei
        have hf0 : firstN (fun i => wordE (ix ws i) m.inputs) ws.length = 0 := firstN_none i1
        have hmx := Maximal_s ws hn hw
        have hok := wordsE_ok (ws := ws) (k := m.inputs) hf0
        have htop : ∀ w ∈ maxW ws, (w.length : Int) ≤ 1024 ∧ ∀ x ∈ w, 0 ≤ x ∧ x < m.inputs := fun w hm => hok w (maxW_mem.1 hm).1
        have htE : ∀ w ∈ maxW ws, wordE w m.inputs = 0 := fun w hm => by
          obtain ⟨j, hj, e⟩ := List.mem_iff_getElem.1 (maxW_mem.1 hm).1
          have := i1 j (by omega) (by omega)
          rwa [ix_nat hj, e] at this
        have htl := maxW_len (ws := ws)
        generalize maxW ws = top at *
        simp [hf0, hmx]
        refine W_iter (fun p : Nat × List Blk => [(12, .int p.1), (16, .int (m.bef top p.1)), (24, .int (m.mvt l top p.1)), (26, .sl 0 (3 * p.1) 0 p.1)]) (fun p => ⟨some 3, mcs (m.mvs l top p.1), if m.mvs l top p.1 = [] then .nul else .live⟩ :: p.2) (fun p => p.1 ≤ top.length) (fun p => top.length - p.1) (0, []) (by simp [sets, Mly.bef, Mly.mvt, Mly.mvs, mcs]) (by simp) ?_
        rintro ⟨i, r⟩ i0
        dsimp only at i0 ⊢
        have hmt := mvt_bd hm hbad hls htop i0
        by_cases hi : i < top.length
        · have hmt2 := mvt_bd hm hbad hls htop (n := i + 1) hi
          have hmc := mv_cost hm hbad hls htop hi
          obtain ⟨w1, w2⟩ := htop _ (ix_get hi)
          have hst := steps_s l hbad (ix top (i : Int)) (fun x hx => by rw [hls]; exact w2 x hx) (by omega)
          have hsb := steps_all hbad (w := ix top (i : Int)) (fun x hx => by rw [hls]; exact w2 x hx)
          have hfr := From_s m h m.start (ix top (i : Int)) (by omega)
          rw [From_e e1 hm.start, if_neg (by rw [htE _ (ix_get hi)]; simp)] at hfr
          have hmL : (mcs (m.mvs l top i)).length = 3 * i := by rw [mcs_len, mvs_len]
          have hk3 : (3 * i = i * kst (some 3)) = True := eq_true (by simp [kst]; omega)
          have hbef : m.bef top (i + 1) = m.run m.start (ix top (i : Int)) := by
            unfold Mly.bef
            rw [if_neg (by omega), show ((i + 1 : Nat) : Int) - 1 = (i : Int) by omega]
          have hmt1 : m.mvt l top (i + 1) = m.mvt l top i + (m.mv l top i).cost l := rfl
          have hmv1 : m.mvs l top (i + 1) = m.mvs l top i ++ [m.mv l top i] := rfl
          have hmc0 := hmc
          by_cases hz : i = 0
          · have e3 : m.mv l top i = ⟨true, [], ix top (i : Int)⟩ := by unfold Mly.mv; rw [if_neg (by simp [hz])]
            have hb : m.bef top i = -1 := by unfold Mly.bef; rw [if_pos hz]
            rw [hb]
            rw [e3] at hmc0
            simp only [Mv.cost, if_true] at hmc0
            simp [-More_nor, hi, hst, hfr, rg_blk_one, rg_setB_new, hk3, hmL]
            (repeat' apply And.intro) <;> first | omega | (split <;> simp; done) | skip
            exact More_of (i + 1, r ++ [⟨some 3, [.bool true, .snil, iL (ix top (i : Int))], .live⟩]) (by simp [hbef, hmt1, e3, Mv.cost, hmL]; omega) (by simp [hmv1, mcs_app, mcs_one, e3, mc]) hi (by dsimp only; omega)
          · have hb : m.bef top i = m.run m.start (ix top ((i : Int) - 1)) := by unfold Mly.bef; rw [if_neg hz]
            have hrr : 0 ≤ m.run m.start (ix top ((i : Int) - 1)) ∧ m.run m.start (ix top ((i : Int) - 1)) < (m.next.length : Int) := run_rng hm hm.start (htop _ (ix_mem (by omega) (by omega))).2
            have hP := Path_s m h (m.run m.start (ix top ((i : Int) - 1))) m.start
            rw [path_in e1 ⟨hrr.1, hrr.2, hm.start.1, hm.start.2⟩] at hP
            have hmv : m.mv l top i = if i ≠ 0 ∧ (m.way (m.run m.start (ix top ((i : Int) - 1))) m.start).2.1 = true ∧ l.steps (m.way (m.run m.start (ix top ((i : Int) - 1))) m.start).1 < l.rst then ⟨false, (m.way (m.run m.start (ix top ((i : Int) - 1))) m.start).1, ix top (i : Int)⟩ else ⟨true, [], ix top (i : Int)⟩ := rfl
            have hwo := way_ok hm (t := m.start) hrr
            rw [hb]
            generalize m.run m.start (ix top ((i : Int) - 1)) = S at *
            generalize m.way S m.start = p at *
            obtain ⟨p, ok, e⟩ := p
            dsimp only at hwo hP hmv
            obtain ⟨o1, o2, o3, rfl⟩ := hwo
            have hsp := steps_s l hbad p (fun x hx => by rw [hls]; exact o2 x hx) (by omega)
            by_cases hlt : l.steps p < l.rst
            · cases ok with
              | true =>
                rw [if_pos ⟨hz, rfl, hlt⟩] at hmv
                have e3 := hmv
                rw [e3] at hmc0
                simp only [Mv.cost, Bool.false_eq_true, if_false] at hmc0
                simp [-More_nor, hi, hrr.1, hP, hsp, hst, hfr, rg_blk_one, rg_setB_new, hlt, hk3, hmL]
                (repeat' apply And.intro) <;> first | omega | (split <;> simp; done) | skip
                exact More_of (i + 1, r ++ [⟨some 3, [.bool false, iL p, iL (ix top (i : Int))], .live⟩]) (by simp [hbef, hmt1, e3, Mv.cost, hmL]; omega) (by simp [hmv1, mcs_app, mcs_one, e3, mc]) hi (by dsimp only; omega)
              | false =>
                rw [if_neg (by simp)] at hmv
                have e3 := hmv
                rw [e3] at hmc0
                simp only [Mv.cost, if_true] at hmc0
                simp [-More_nor, hi, hrr.1, hP, hsp, hst, hfr, rg_blk_one, rg_setB_new, hlt, hk3, hmL]
                (repeat' apply And.intro) <;> first | omega | (split <;> simp; done) | skip
                exact More_of (i + 1, r ++ [⟨some 3, [.bool true, .snil, iL (ix top (i : Int))], .live⟩]) (by simp [hbef, hmt1, e3, Mv.cost, hmL]; omega) (by simp [hmv1, mcs_app, mcs_one, e3, mc]) hi (by dsimp only; omega)
            · rw [if_neg (by rintro ⟨_, _, h⟩; exact hlt h)] at hmv
              have e3 := hmv
              rw [e3] at hmc0
              simp only [Mv.cost, if_true] at hmc0
              cases ok with
              | true =>
                simp [-More_nor, hi, hrr.1, hP, hsp, hst, hfr, rg_blk_one, rg_setB_new, hlt, hk3, hmL]
                (repeat' apply And.intro) <;> first | omega | (split <;> simp; done) | skip
                exact More_of (i + 1, r ++ [⟨some 3, [.bool true, .snil, iL (ix top (i : Int))], .live⟩]) (by simp [hbef, hmt1, e3, Mv.cost, hmL]; omega) (by simp [hmv1, mcs_app, mcs_one, e3, mc]) hi (by dsimp only; omega)
              | false =>
                simp [-More_nor, hi, hrr.1, hP, hsp, hst, hfr, rg_blk_one, rg_setB_new, hlt, hk3, hmL]
                (repeat' apply And.intro) <;> first | omega | (split <;> simp; done) | skip
                exact More_of (i + 1, r ++ [⟨some 3, [.bool true, .snil, iL (ix top (i : Int))], .live⟩]) (by simp [hbef, hmt1, e3, Mv.cost, hmL]; omega) (by simp [hmv1, mcs_app, mcs_one, e3, mc]) hi (by dsimp only; omega)
        · have ei : i = top.length := by omega
          subst ei
          have hvw := view_mv (σ := ⟨some 3, mcs (m.mvs l top top.length), if m.mvs l top top.length = [] then .nul else .live⟩ :: r) (b := 0) (xs := m.mvs l top top.length) rfl mvs_len.symm rfl mvs_rst
          simp [hvw]
    · simp [e1, e2, hv, hf]
  · simp [e1, hv]
end Ab
