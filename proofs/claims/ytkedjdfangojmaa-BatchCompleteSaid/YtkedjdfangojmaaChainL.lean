/- Schedules: their parts. Schedules: the program's. Schedules: the document's. The law on schedules. Condition: none. -/
import Derived.Test.YtkedjdfangojmaaPlan
import Derived.Test.YtkedjdfangojmaaFrom
set_option linter.all false
set_option maxRecDepth 100000
set_option maxHeartbeats 4000000
namespace Ab
/-- A word that leads from a state to another. -/
theorem way_ok {m : Mly} (hm : m.Ok) {s t : Int} (hs : 0 ≤ s ∧ s < (m.next.length : Int)) : ((m.way s t).1.length : Int) ≤ 128 ∧ (∀ x ∈ (m.way s t).1, 0 ≤ x ∧ x < m.inputs) ∧ ((m.way s t).2.1 = true → m.run s (m.way s t).1 = t) ∧ (m.way s t).2.2 = 0 := by
  have hb := places_bf m hm s hs
  have hst := hm.states
  have hle := hb.bq.le
  unfold Mly.way
  split
  · rename_i p hp
    have h1 := List.find?_some hp
    have h2 := List.mem_of_find?_eq_some hp
    obtain ⟨j, hj, e⟩ := List.mem_iff_getElem.1 h2
    have e' : ix (m.places s) (j : Int) = p := by rw [ix_nat hj, e]
    have h3 := hb.run j (by omega) (by omega)
    have h4 := hb.bq.len j (by omega) (by omega)
    rw [e'] at h3 h4
    refine ⟨by dsimp only; omega, h3.2, fun _ => ?_, rfl⟩
    rw [h3.1]; simpa using h1
  · simp
/-- The error of a latency for a machine. -/
def Lat.fitE (l : Lat) (k : Int) : Int := if (l.step.length : Int) ≠ k then 1 else if l.bad = true then 2 else 0
theorem fits1_s (x : Int) : PC F_batch_fits_1 [.int x] = some (.bool (outC x)) := by
  refine PCx_of (go_batch_fits_1 rfl ?_)
  simp [outC]
  exact ⟨fun h => .inl h, fun h1 h2 => by omega⟩
theorem fits_s (m : Mly) (l : Lat) (h : l.fits) : PC F_batch_fits [m.av, l.av] = some (.int (l.fitE m.inputs)) := by
  refine PCx_of (go_batch_fits rfl ?_)
  have hc := ContainsFunc_s l.step F_batch_fits_1 [] outC h.len rfl rfl fun x _ => fits1_s x
  have h1 := fits1_s l.rst
  unfold Lat.fitE
  by_cases h0 : (l.step.length : Int) = m.inputs
  · unfold Lat.bad
    cases e1 : outC l.rst <;> cases e2 : l.step.any outC <;> rw [e1] at h1 <;> rw [e2] at hc <;> simp [hc, h1, h0]
  · simp [h0]
theorem rfits_s (l : Lat) (h : l.fits) (k : Int) : PC F_ref19_Fits [l.av, .int k] = some (.int (l.fitE k)) := by
  refine PCx_of (go_ref19_Fits rfl ?_)
  have hc := rcosts_s l h
  unfold Lat.fitE
  by_cases h0 : (l.step.length : Int) = k
  · cases hb : l.bad <;> rw [hb] at hc <;> simp at hc <;> simp [h0, hc]
  · simp [h0]
theorem steps_s (l : Lat) (hb : l.bad = false) (w : List Int) (hw : okW l w) (hl : (w.length : Int) ≤ 1000000) : PC F_batch_steps [l.av, iL w] = some (.int (l.steps w)) := by
  refine PCx_of (go_batch_steps rfl ?_)
  have hbd := steps_bd hb (w := w) hw
  simp
  refine W_iter (fun i : Nat => [(2, .int i), (5, .int (l.steps (w.take i)))]) (fun _ => []) (fun i => i ≤ w.length) (fun i => w.length - i) 0 (by simp [sets, Lat.steps]) (by omega) ?_
  intro i i0
  have b1 := hbd i i0
  by_cases hi : i < w.length
  · have hx := hw _ (ix_get (l := w) (i := i) hi)
    have hx1 := hx.1
    have hx2 := hx.2
    have b2 := hbd (i + 1) hi
    have e1 := steps_take (l := l) hi
    simp [-More_nor, hi, hx1, hx2]
    (repeat' apply And.intro) <;> try omega
    exact More_of (i + 1) (by simp [e1]) rfl (by omega) (by omega)
  · have ei : i = w.length := by omega
    subst ei
    simp
theorem rsteps_s (l : Lat) (hb : l.bad = false) (w : List Int) (hw : okW l w) (hl : (w.length : Int) ≤ 1000000) : PC F_ref20_steps [l.av, iL w] = some (.int (l.steps w)) := by
  refine PCx_of (go_ref20_steps rfl ?_)
  have hbd := steps_bd hb (w := w) hw
  simp
  refine W_iter (fun i : Nat => [(2, .int i), (3, .int (l.steps (w.take i)))]) (fun _ => []) (fun i => i ≤ w.length) (fun i => w.length - i) 0 (by simp [sets, Lat.steps]) (by omega) ?_
  intro i i0
  have b1 := hbd i i0
  by_cases hi : i < w.length
  · have hx := hw _ (ix_get (l := w) (i := i) hi)
    have hx1 := hx.1
    have hx2 := hx.2
    have b2 := hbd (i + 1) hi
    have e1 := steps_take (l := l) hi
    simp [-More_nor, hi, hx1, hx2]
    (repeat' apply And.intro) <;> try omega
    exact More_of (i + 1) (by simp [e1]) rfl (by omega) (by omega)
  · have ei : i = w.length := by omega
    subst ei
    simp
/-- The outputs and the last state of a run. -/
theorem ROuts_s (m : Mly) (hm : m.Ok) (s : Int) (hs : 0 ≤ s ∧ s < (m.next.length : Int)) (w : List Int) (hl : (w.length : Int) ≤ 1000000) (hw : ∀ x ∈ w, 0 ≤ x ∧ x < m.inputs) : PC F_ref06_Outs [m.av, .int s, iL w] = some (.tup [iL (m.outs s w), .int (m.run s w)]) := by
  refine PCx_of (go_ref06_Outs rfl ?_)
  have hml := hm.len
  simp
  refine W_iter (fun i : Nat => [(1, .int (m.run s (w.take i))), (3, .int i), (4, .sl 0 i 0 i)]) (fun i => [louI (m.outs s (w.take i))]) (fun i => i ≤ w.length) (fun i => w.length - i) 0 (by simp [sets, Mly.run, Mly.outs]) (by omega) ?_
  intro i hi1
  by_cases hi : i < w.length
  · have tk := take_snoc hi
    have hxs : ∀ x ∈ w.take i, 0 ≤ x ∧ x < m.inputs := fun x hx => hw x (List.mem_of_mem_take hx)
    have hr := run_rng hm hs hxs
    have ha := hw _ (ix_mem (l := w) (n := (i : Int)) (by omega) (by omega))
    have ho : (m.outs s (w.take i)).length = i := by rw [outs_len, List.length_take, Nat.min_eq_left (by omega)]
    have e1 : m.run s (w.take (i + 1)) = ix (ix m.next (m.run s (w.take i))) (ix w (i : Int)) := by rw [tk, run_app]; rfl
    have e2 : m.outs s (w.take (i + 1)) = m.outs s (w.take i) ++ [ix (ix m.out (m.run s (w.take i))) (ix w (i : Int))] := by rw [tk, outs_app]; rfl
    generalize m.outs s (w.take i) = O at *
    generalize m.run s (w.take i) = R at *
    have hrow := hm.row R hr.1 hr.2
    simp [-More_nor, hi, ho, hr.1, hr.2, ha.1, ha.2, hrow.1, hrow.2, show R < (m.out.length : Int) by omega]
    refine ⟨by split <;> simp, by omega, by omega, More_of (i + 1) (by simp [e1]) (by rw [e2]; simp) (by omega) (by omega)⟩
  · have ei : i = w.length := by omega
    subst ei
    have hv := vd_louI (σ := [louI (m.outs s w)]) (b := 0) rfl
    rw [outs_len] at hv
    simp [hv]
/-- A move of a schedule. -/
structure Mv where
  rst : Bool
  path : List Int
  word : List Int
  deriving Inhabited
abbrev Mv.av (x : Mv) : AV := .agg [.bool x.rst, iL x.path, iL x.word]
def mc (x : Mv) : List AV := [.bool x.rst, if x.rst = true then .snil else iL x.path, iL x.word]
def mcs (xs : List Mv) : List AV := xs.flatMap mc
theorem mcs_len : ∀ {xs : List Mv}, (mcs xs).length = 3 * xs.length
  | [] => rfl
  | x :: xs => by
    have := mcs_len (xs := xs)
    show (mc x ++ mcs xs).length = _
    rw [List.length_append, this]
    show 3 + _ = _
    simp; omega
theorem mcs_app {xs ys : List Mv} : mcs (xs ++ ys) = mcs xs ++ mcs ys := by simp [mcs]
theorem mcs_one {x : Mv} : mcs [x] = mc x := by simp [mcs]
theorem chunk_mc : ∀ {xs : List Mv}, chunk (some 3) xs.length (mcs xs) = xs.map fun x => .agg (mc x)
  | [] => rfl
  | x :: xs => by
    have e := chunk_mc (xs := xs)
    rw [List.map_cons, ← e]; rfl
def mvB (xs : List Mv) : Blk := ⟨some 3, mcs xs, if xs = [] then .nul else .live⟩
abbrev mvL (xs : List Mv) : AV := .imm false (xs.map Mv.av)
theorem view_mv {σ : List Blk} {b u n : Nat} {xs : List Mv} (h : blk σ b = some (mvB xs)) (hn : n = xs.length) (hu : u = 3 * n) (hr : ∀ x ∈ xs, x.rst = true → x.path = []) : view σ false vd (.sl b u 0 n) = some (mvL xs) := by
  subst hu hn
  have hu : upto σ b (3 * xs.length) = some (mvB xs) := by
    unfold upto
    rw [h]
    by_cases hx : xs = []
    · subst hx; rfl
    · simp [mvB, hx, mcs_len]
  show view σ false (11 + 1) _ = _
  unfold view
  simp only [hu, mvB, kst, mcs_len, List.drop_zero]
  rw [if_pos (by omega), chunk_mc, mapO_mp (g := Mv.av)]
  intro x hx
  have := hr x hx
  unfold mc
  cases e : x.rst with
  | true => simp [this e, e]
  | false => simp [e]
/-- The move for the word after another one. -/
def Mly.mv (m : Mly) (l : Lat) (top : List (List Int)) (i : Nat) : Mv :=
  if i ≠ 0 ∧ (m.way (m.run m.start (ix top ((i : Int) - 1))) m.start).2.1 = true ∧ l.steps (m.way (m.run m.start (ix top ((i : Int) - 1))) m.start).1 < l.rst then ⟨false, (m.way (m.run m.start (ix top ((i : Int) - 1))) m.start).1, ix top (i : Int)⟩ else ⟨true, [], ix top (i : Int)⟩
def Mv.cost (l : Lat) (x : Mv) : Int := (if x.rst = true then l.rst else l.steps x.path) + l.steps x.word
def Mly.mvs (m : Mly) (l : Lat) (top : List (List Int)) : Nat → List Mv
  | 0 => []
  | n + 1 => m.mvs l top n ++ [m.mv l top n]
def Mly.mvt (m : Mly) (l : Lat) (top : List (List Int)) : Nat → Int
  | 0 => 0
  | n + 1 => m.mvt l top n + (m.mv l top n).cost l
theorem mvs_len {m : Mly} {l : Lat} {top : List (List Int)} : ∀ {n : Nat}, (m.mvs l top n).length = n
  | 0 => rfl
  | n + 1 => by simp [Mly.mvs, mvs_len (n := n)]
theorem mv_rst {m : Mly} {l : Lat} {top : List (List Int)} {i : Nat} : (m.mv l top i).rst = true → (m.mv l top i).path = [] := by
  unfold Mly.mv
  split <;> simp
theorem mvs_rst {m : Mly} {l : Lat} {top : List (List Int)} : ∀ {n : Nat}, ∀ x ∈ m.mvs l top n, x.rst = true → x.path = []
  | 0, x, h => by simp [Mly.mvs] at h
  | n + 1, x, h => by
    rcases List.mem_append.1 h with h | h
    · exact mvs_rst x h
    · simp at h; subst h; exact mv_rst
end Ab
namespace Ab
theorem rg_setB_new {r : List Blk} {B C : Blk} : setB (r ++ [B]) r.length C = r ++ [C] := by
  induction r with
  | nil => rfl
  | cons x r ih => simp only [List.cons_append, List.length_cons, setB, ih]
theorem rg_blk_one {r : List Blk} {B : Blk} : blk (r ++ [B]) r.length = some B := rg_blk_new
def Mly.chain (m : Mly) (l : Lat) (ws : List (List Int)) : List Mv × Int × Int :=
  if m.validE ≠ 0 then ([], 0, m.validE) else if l.fitE m.inputs ≠ 0 then ([], 0, l.fitE m.inputs) else if wordsE ws m.inputs ≠ 0 then ([], 0, wordsE ws m.inputs)
  else (m.mvs l (maxW ws) (maxW ws).length, m.mvt l (maxW ws) (maxW ws).length, 0)
abbrev chainA (r : List Mv × Int × Int) : AV := .tup [mvL r.1, .int r.2.1, .int r.2.2]
/-- Where the word before left the machine. -/
def Mly.bef (m : Mly) (top : List (List Int)) (i : Nat) : Int := if i = 0 then -1 else m.run m.start (ix top ((i : Int) - 1))
theorem maxW_len {ws : List (List Int)} : (maxW ws).length ≤ ws.length := by
  have h2 : (maxW ws).length ≤ (sortU ws).length := List.length_filter_le _ _
  have h3 := compW_len (sortG slxC ws)
  rw [sortG_len] at h3
  have h4 : (sortU ws).length ≤ ws.length := h3
  omega
theorem fitE_ok {l : Lat} {k : Int} (h : l.fitE k = 0) : (l.step.length : Int) = k ∧ l.bad = false := by
  unfold Lat.fitE at h
  split at h
  · omega
  · rename_i h1
    split at h
    · omega
    · rename_i h2; exact ⟨by omega, by simpa using h2⟩
theorem steps_all {l : Lat} (hb : l.bad = false) {w : List Int} (hw : okW l w) : 0 ≤ l.steps w ∧ l.steps w ≤ 1048576 * (w.length : Int) := by
  have := steps_bd hb hw w.length (Nat.le_refl _)
  rwa [List.take_length] at this
theorem mv_cost {m : Mly} (hm : m.Ok) {l : Lat} (hb : l.bad = false) (hl : (l.step.length : Int) = m.inputs) {top : List (List Int)} (ht : ∀ w ∈ top, (w.length : Int) ≤ 1024 ∧ ∀ x ∈ w, 0 ≤ x ∧ x < m.inputs) {i : Nat} (hi : i < top.length) : 0 ≤ (m.mv l top i).cost l ∧ (m.mv l top i).cost l ≤ l.rst + l.steps (ix top (i : Int)) ∧ (m.mv l top i).cost l ≤ 1074790400 := by
  have hr := (lbad_f.1 hb).1
  obtain ⟨h1, h2⟩ := ht _ (ix_get hi)
  have hs := steps_all hb (w := ix top (i : Int)) (fun x hx => by rw [hl]; exact h2 x hx)
  unfold Mly.mv Mv.cost
  split
  · rename_i hc
    obtain ⟨c1, c2, c3⟩ := hc
    have hrr : 0 ≤ m.run m.start (ix top ((i : Int) - 1)) ∧ m.run m.start (ix top ((i : Int) - 1)) < (m.next.length : Int) := by
      refine run_rng hm hm.start (ht _ (ix_mem (by omega) (by omega))).2
    have hw := way_ok hm (t := m.start) hrr
    have hs2 := steps_all hb (w := (m.way (m.run m.start (ix top ((i : Int) - 1))) m.start).1) (fun x hx => by rw [hl]; exact hw.2.1 x hx)
    simp only [Bool.false_eq_true, if_false]
    omega
  · simp only [if_true]
    omega
theorem mvt_bd {m : Mly} (hm : m.Ok) {l : Lat} (hb : l.bad = false) (hl : (l.step.length : Int) = m.inputs) {top : List (List Int)} (ht : ∀ w ∈ top, (w.length : Int) ≤ 1024 ∧ ∀ x ∈ w, 0 ≤ x ∧ x < m.inputs) : ∀ {n : Nat}, n ≤ top.length → 0 ≤ m.mvt l top n ∧ m.mvt l top n ≤ 1074790400 * (n : Int)
  | 0, _ => by simp [Mly.mvt]
  | n + 1, h => by
    have h1 := mvt_bd hm hb hl ht (n := n) (by omega)
    have h2 := mv_cost hm hb hl ht (i := n) (by omega)
    simp only [Mly.mvt]
    omega
theorem wordsE_ok {ws : List (List Int)} {k : Int} (h : wordsE ws k = 0) : ∀ w ∈ ws, (w.length : Int) ≤ 1024 ∧ ∀ x ∈ w, 0 ≤ x ∧ x < k := fun w hw => by
  obtain ⟨j, hj, e⟩ := List.mem_iff_getElem.1 hw
  have := firstN_eq.1 h j (by omega) (by omega)
  rw [ix_nat hj, e] at this
  exact wordE_ok this
theorem Chain_s (m : Mly) (h : m.fits) (l : Lat) (hl : l.fits) (ws : List (List Int)) (hn : (ws.length : Int) ≤ 1000000) (hw : fitW ws) : PC F_batch_Chain [m.av, l.av, iLL ws] = some (chainA (m.chain l ws)) := by
  refine PCx_of (go_batch_Chain rfl ?_)
  have hv := mValid_s m h
  have hf := fits_s m l hl
  unfold Mly.chain
  by_cases e1 : m.validE = 0
  · rw [e1] at hv
    have hm := mvalidE_ok e1
    by_cases e2 : l.fitE m.inputs = 0
    · rw [e2] at hf
      obtain ⟨hls, hbad⟩ := fitE_ok e2
      have hr0 := (lbad_f.1 hbad).1
      unfold wordsE
      simp [e1, e2, hv, hf]
      refine W_iter (fun i : Nat => [(7, .int i)]) (fun _ => []) (fun i => i ≤ ws.length ∧ ∀ j : Int, 0 ≤ j → j < i → wordE (ix ws j) m.inputs = 0) (fun i => ws.length - i) 0 (by simp [sets]) ⟨by omega, fun j h1 h2 => by omega⟩ ?_
      intro i ⟨i0, i1⟩
      by_cases hi : i < ws.length
      · have hc := wCheck_s (ix ws (i : Int)) m.inputs (by have := hw _ (ix_get hi); omega)
        by_cases he : wordE (ix ws (i : Int)) m.inputs = 0
        · simp [-More_nor, hi, hc, he]
          (repeat' apply And.intro) <;> try omega
          exact More_of (i + 1) (by simp) rfl ⟨by omega, by
            have := upto_succ (P := fun j => wordE (ix ws j) m.inputs = 0) (i := (i : Int)) he i1
            simpa using this⟩ (by omega)
        · have hf := firstN_some (f := fun i => wordE (ix ws i) m.inputs) (n := ws.length) (i := (i : Int)) (by omega) (by omega) he i1
          simp [hi, hc, he, hf]
      · have ei : i = ws.length := by omega
        subst ei
        have hf0 : firstN (fun i => wordE (ix ws i) m.inputs) ws.length = 0 := firstN_none i1
        have hmx := Maximal_s ws hn hw
        have hok := wordsE_ok (ws := ws) (k := m.inputs) hf0
        have htop : ∀ w ∈ maxW ws, (w.length : Int) ≤ 1024 ∧ ∀ x ∈ w, 0 ≤ x ∧ x < m.inputs := fun w hm => hok w (maxW_mem.1 hm).1
        have htE : ∀ w ∈ maxW ws, wordE w m.inputs = 0 := fun w hm => by
          obtain ⟨j, hj, e⟩ := List.mem_iff_getElem.1 (maxW_mem.1 hm).1
          have := i1 j (by omega) (by omega)
          rwa [ix_nat hj, e] at this
        have htl := maxW_len (ws := ws)
        generalize maxW ws = top at *
        simp [hf0, hmx]
        refine W_iter (fun p : Nat × List Blk => [(12, .int p.1), (16, .int (m.bef top p.1)), (24, .int (m.mvt l top p.1)), (26, .sl 0 (3 * p.1) 0 p.1)]) (fun p => ⟨some 3, mcs (m.mvs l top p.1), if m.mvs l top p.1 = [] then .nul else .live⟩ :: p.2) (fun p => p.1 ≤ top.length) (fun p => top.length - p.1) (0, []) (by simp [sets, Mly.bef, Mly.mvt, Mly.mvs, mcs]) (by simp) ?_
        rintro ⟨i, r⟩ i0
        dsimp only at i0 ⊢
        have hmt := mvt_bd hm hbad hls htop i0
        by_cases hi : i < top.length
        · have hmt2 := mvt_bd hm hbad hls htop (n := i + 1) hi
          have hmc := mv_cost hm hbad hls htop hi
          obtain ⟨w1, w2⟩ := htop _ (ix_get hi)
          have hst := steps_s l hbad (ix top (i : Int)) (fun x hx => by rw [hls]; exact w2 x hx) (by omega)
          have hsb := steps_all hbad (w := ix top (i : Int)) (fun x hx => by rw [hls]; exact w2 x hx)
          have hfr := From_s m h m.start (ix top (i : Int)) (by omega)
          rw [From_e e1 hm.start, if_neg (by rw [htE _ (ix_get hi)]; simp)] at hfr
          have hmL : (mcs (m.mvs l top i)).length = 3 * i := by rw [mcs_len, mvs_len]
          have hk3 : (3 * i = i * kst (some 3)) = True := eq_true (by simp [kst]; omega)
          have hbef : m.bef top (i + 1) = m.run m.start (ix top (i : Int)) := by
            unfold Mly.bef
            rw [if_neg (by omega), show ((i + 1 : Nat) : Int) - 1 = (i : Int) by omega]
          have hmt1 : m.mvt l top (i + 1) = m.mvt l top i + (m.mv l top i).cost l := rfl
          have hmv1 : m.mvs l top (i + 1) = m.mvs l top i ++ [m.mv l top i] := rfl
          have hmc0 := hmc
          by_cases hz : i = 0
          · have e3 : m.mv l top i = ⟨true, [], ix top (i : Int)⟩ := by unfold Mly.mv; rw [if_neg (by simp [hz])]
            have hb : m.bef top i = -1 := by unfold Mly.bef; rw [if_pos hz]
            rw [hb]
            rw [e3] at hmc0
            simp only [Mv.cost, if_true] at hmc0
            simp [-More_nor, hi, hst, hfr, rg_blk_one, rg_setB_new, hk3, hmL]
            (repeat' apply And.intro) <;> first | omega | (split <;> simp; done) | skip
            exact More_of (i + 1, r ++ [⟨some 3, [.bool true, .snil, iL (ix top (i : Int))], .live⟩]) (by simp [hbef, hmt1, e3, Mv.cost, hmL]; omega) (by simp [hmv1, mcs_app, mcs_one, e3, mc]) hi (by dsimp only; omega)
          · have hb : m.bef top i = m.run m.start (ix top ((i : Int) - 1)) := by unfold Mly.bef; rw [if_neg hz]
            have hrr : 0 ≤ m.run m.start (ix top ((i : Int) - 1)) ∧ m.run m.start (ix top ((i : Int) - 1)) < (m.next.length : Int) := run_rng hm hm.start (htop _ (ix_mem (by omega) (by omega))).2
            have hP := Path_s m h (m.run m.start (ix top ((i : Int) - 1))) m.start
            rw [path_in e1 ⟨hrr.1, hrr.2, hm.start.1, hm.start.2⟩] at hP
            have hmv : m.mv l top i = if i ≠ 0 ∧ (m.way (m.run m.start (ix top ((i : Int) - 1))) m.start).2.1 = true ∧ l.steps (m.way (m.run m.start (ix top ((i : Int) - 1))) m.start).1 < l.rst then ⟨false, (m.way (m.run m.start (ix top ((i : Int) - 1))) m.start).1, ix top (i : Int)⟩ else ⟨true, [], ix top (i : Int)⟩ := rfl
            have hwo := way_ok hm (t := m.start) hrr
            rw [hb]
            generalize m.run m.start (ix top ((i : Int) - 1)) = S at *
            generalize m.way S m.start = p at *
            obtain ⟨p, ok, e⟩ := p
            dsimp only at hwo hP hmv
            obtain ⟨o1, o2, o3, rfl⟩ := hwo
            have hsp := steps_s l hbad p (fun x hx => by rw [hls]; exact o2 x hx) (by omega)
            by_cases hlt : l.steps p < l.rst
            · cases ok with
              | true =>
                rw [if_pos ⟨hz, rfl, hlt⟩] at hmv
                have e3 := hmv
                rw [e3] at hmc0
                simp only [Mv.cost, Bool.false_eq_true, if_false] at hmc0
                simp [-More_nor, hi, hrr.1, hP, hsp, hst, hfr, rg_blk_one, rg_setB_new, hlt, hk3, hmL]
                (repeat' apply And.intro) <;> first | omega | (split <;> simp; done) | skip
                exact More_of (i + 1, r ++ [⟨some 3, [.bool false, iL p, iL (ix top (i : Int))], .live⟩]) (by simp [hbef, hmt1, e3, Mv.cost, hmL]; omega) (by simp [hmv1, mcs_app, mcs_one, e3, mc]) hi (by dsimp only; omega)
              | false =>
                rw [if_neg (by simp)] at hmv
                have e3 := hmv
                rw [e3] at hmc0
                simp only [Mv.cost, if_true] at hmc0
                simp [-More_nor, hi, hrr.1, hP, hsp, hst, hfr, rg_blk_one, rg_setB_new, hlt, hk3, hmL]
                (repeat' apply And.intro) <;> first | omega | (split <;> simp; done) | skip
                exact More_of (i + 1, r ++ [⟨some 3, [.bool true, .snil, iL (ix top (i : Int))], .live⟩]) (by simp [hbef, hmt1, e3, Mv.cost, hmL]; omega) (by simp [hmv1, mcs_app, mcs_one, e3, mc]) hi (by dsimp only; omega)
            · rw [if_neg (by rintro ⟨_, _, h⟩; exact hlt h)] at hmv
              have e3 := hmv
              rw [e3] at hmc0
              simp only [Mv.cost, if_true] at hmc0
              cases ok with
              | true =>
                simp [-More_nor, hi, hrr.1, hP, hsp, hst, hfr, rg_blk_one, rg_setB_new, hlt, hk3, hmL]
                (repeat' apply And.intro) <;> first | omega | (split <;> simp; done) | skip
                exact More_of (i + 1, r ++ [⟨some 3, [.bool true, .snil, iL (ix top (i : Int))], .live⟩]) (by simp [hbef, hmt1, e3, Mv.cost, hmL]; omega) (by simp [hmv1, mcs_app, mcs_one, e3, mc]) hi (by dsimp only; omega)
              | false =>
                simp [-More_nor, hi, hrr.1, hP, hsp, hst, hfr, rg_blk_one, rg_setB_new, hlt, hk3, hmL]
                (repeat' apply And.intro) <;> first | omega | (split <;> simp; done) | skip
                exact More_of (i + 1, r ++ [⟨some 3, [.bool true, .snil, iL (ix top (i : Int))], .live⟩]) (by simp [hbef, hmt1, e3, Mv.cost, hmL]; omega) (by simp [hmv1, mcs_app, mcs_one, e3, mc]) hi (by dsimp only; omega)
        · have ei : i = top.length := by omega
          subst ei
          have hvw := view_mv (σ := ⟨some 3, mcs (m.mvs l top top.length), if m.mvs l top top.length = [] then .nul else .live⟩ :: r) (b := 0) (xs := m.mvs l top top.length) rfl mvs_len.symm rfl mvs_rst
          simp [hvw]
    · simp [e1, e2, hv, hf]
  · simp [e1, hv]
end Ab
namespace Ab
def Mly.befR (m : Mly) (top : List (List Int)) (i : Nat) : Int := if i = 0 then m.start else m.run m.start (ix top ((i : Int) - 1))
theorem RChain_s (m : Mly) (h : m.fits) (l : Lat) (hl : l.fits) (ws : List (List Int)) (hn : (ws.length : Int) ≤ 1000000) (hw : fitW ws) : PC F_ref20_Chain [m.av, l.av, iLL ws] = some (chainA (m.chain l ws)) := by
  refine PCx_of (go_ref20_Chain rfl ?_)
  have hv := rmValid_s m h
  have hf := rfits_s l hl m.inputs
  have hck := check_s ws m.inputs hn (fun w h => by have := hw w h; omega)
  unfold Mly.chain
  by_cases e1 : m.validE = 0
  · rw [e1] at hv
    have hm := mvalidE_ok e1
    by_cases e2 : l.fitE m.inputs = 0
    · rw [e2] at hf
      obtain ⟨hls, hbad⟩ := fitE_ok e2
      have hr0 := (lbad_f.1 hbad).1
      by_cases e4 : wordsE ws m.inputs = 0
      · rw [e4] at hck
        have hmx := RMaximal_s ws hn hw
        have hok := wordsE_ok (ws := ws) (k := m.inputs) e4
        have htop : ∀ w ∈ maxW ws, (w.length : Int) ≤ 1024 ∧ ∀ x ∈ w, 0 ≤ x ∧ x < m.inputs := fun w hm => hok w (maxW_mem.1 hm).1
        have htl := maxW_len (ws := ws)
        generalize maxW ws = top at *
        simp [e1, e2, e4, hv, hf, hck, hmx]
        refine W_iter (fun p : Nat × List Blk => [(6, .int p.1), (8, .int (m.befR top p.1)), (12, .int (m.mvt l top p.1)), (13, .sl 0 (3 * p.1) 0 p.1)]) (fun p => ⟨some 3, mcs (m.mvs l top p.1), if m.mvs l top p.1 = [] then .nul else .live⟩ :: p.2) (fun p => p.1 ≤ top.length) (fun p => top.length - p.1) (0, []) (by simp [sets, Mly.befR, Mly.mvt, Mly.mvs, mcs]) (by simp) ?_
        rintro ⟨i, r⟩ i0
        dsimp only at i0 ⊢
        have hmt := mvt_bd hm hbad hls htop i0
        by_cases hi : i < top.length
        · have hmt2 := mvt_bd hm hbad hls htop (n := i + 1) hi
          have hmc := mv_cost hm hbad hls htop hi
          obtain ⟨w1, w2⟩ := htop _ (ix_get hi)
          have hst := rsteps_s l hbad (ix top (i : Int)) (fun x hx => by rw [hls]; exact w2 x hx) (by omega)
          have hsb := steps_all hbad (w := ix top (i : Int)) (fun x hx => by rw [hls]; exact w2 x hx)
          have hou := ROuts_s m hm m.start hm.start (ix top (i : Int)) (by omega) w2
          have hmL : (mcs (m.mvs l top i)).length = 3 * i := by rw [mcs_len, mvs_len]
          have hk3 : (3 * i = i * kst (some 3)) = True := eq_true (by simp [kst]; omega)
          have hbef : m.befR top (i + 1) = m.run m.start (ix top (i : Int)) := by
            unfold Mly.befR
            rw [if_neg (by omega), show ((i + 1 : Nat) : Int) - 1 = (i : Int) by omega]
          have hmt1 : m.mvt l top (i + 1) = m.mvt l top i + (m.mv l top i).cost l := rfl
          have hmv1 : m.mvs l top (i + 1) = m.mvs l top i ++ [m.mv l top i] := rfl
          have hmc0 := hmc
          have hrr : 0 ≤ m.befR top i ∧ m.befR top i < (m.next.length : Int) := by
            unfold Mly.befR
            split
            · exact hm.start
            · exact run_rng hm hm.start (htop _ (ix_mem (by omega) (by omega))).2
          have hP := RPath_s m h (m.befR top i) m.start
          rw [path_in e1 ⟨hrr.1, hrr.2, hm.start.1, hm.start.2⟩] at hP
          have hmv : m.mv l top i = if i ≠ 0 ∧ (m.way (m.befR top i) m.start).2.1 = true ∧ l.steps (m.way (m.befR top i) m.start).1 < l.rst then ⟨false, (m.way (m.befR top i) m.start).1, ix top (i : Int)⟩ else ⟨true, [], ix top (i : Int)⟩ := by
            by_cases hz : i = 0
            · unfold Mly.mv; rw [if_neg (by simp [hz]), if_neg (by simp [hz])]
            · unfold Mly.mv Mly.befR; rw [if_neg hz]
          have hwo := way_ok hm (t := m.start) hrr
          generalize m.befR top i = S at *
          generalize m.way S m.start = p at *
          obtain ⟨p, ok, e⟩ := p
          dsimp only at hwo hP hmv
          obtain ⟨o1, o2, o3, rfl⟩ := hwo
          have hsp := rsteps_s l hbad p (fun x hx => by rw [hls]; exact o2 x hx) (by omega)
          have hsq := steps_all hbad (w := p) (fun x hx => by rw [hls]; exact o2 x hx)
          by_cases hz : 0 < i
          · by_cases hlt : l.steps p < l.rst
            · cases ok with
              | true =>
                rw [if_pos ⟨by omega, rfl, hlt⟩] at hmv
                have e3 := hmv
                rw [e3] at hmc0
                simp only [Mv.cost, Bool.false_eq_true, if_false] at hmc0
                simp [-More_nor, hi, hP, hsp, hst, hou, rg_blk_one, rg_setB_new, hk3, hmL, hz, hlt]
                (repeat' apply And.intro) <;> first | omega | (split <;> simp; done) | skip
                exact More_of (i + 1, r ++ [⟨some 3, [.bool false, iL p, iL (ix top (i : Int))], .live⟩]) (by simp [hbef, hmt1, e3, Mv.cost, hmL]; omega) (by simp [hmv1, mcs_app, mcs_one, e3, mc]) hi (by dsimp only; omega)
              | false =>
                rw [if_neg (by simp)] at hmv
                have e3 := hmv
                rw [e3] at hmc0
                simp only [Mv.cost, if_true] at hmc0
                simp [-More_nor, hi, hP, hsp, hst, hou, rg_blk_one, rg_setB_new, hk3, hmL, hz, hlt]
                (repeat' apply And.intro) <;> first | omega | (split <;> simp; done) | skip
                exact More_of (i + 1, r ++ [⟨some 3, [.bool true, .snil, iL (ix top (i : Int))], .live⟩]) (by simp [hbef, hmt1, e3, Mv.cost, hmL]; omega) (by simp [hmv1, mcs_app, mcs_one, e3, mc]) hi (by dsimp only; omega)
            · rw [if_neg (by rintro ⟨_, _, h⟩; exact hlt h)] at hmv
              have e3 := hmv
              rw [e3] at hmc0
              simp only [Mv.cost, if_true] at hmc0
              cases ok with
              | true =>
                simp [-More_nor, hi, hP, hsp, hst, hou, rg_blk_one, rg_setB_new, hk3, hmL, hz, hlt]
                (repeat' apply And.intro) <;> first | omega | (split <;> simp; done) | skip
                exact More_of (i + 1, r ++ [⟨some 3, [.bool true, .snil, iL (ix top (i : Int))], .live⟩]) (by simp [hbef, hmt1, e3, Mv.cost, hmL]; omega) (by simp [hmv1, mcs_app, mcs_one, e3, mc]) hi (by dsimp only; omega)
              | false =>
                simp [-More_nor, hi, hP, hsp, hst, hou, rg_blk_one, rg_setB_new, hk3, hmL, hz, hlt]
                (repeat' apply And.intro) <;> first | omega | (split <;> simp; done) | skip
                exact More_of (i + 1, r ++ [⟨some 3, [.bool true, .snil, iL (ix top (i : Int))], .live⟩]) (by simp [hbef, hmt1, e3, Mv.cost, hmL]; omega) (by simp [hmv1, mcs_app, mcs_one, e3, mc]) hi (by dsimp only; omega)
          · rw [if_neg (by rintro ⟨h, _⟩; omega)] at hmv
            have e3 := hmv
            rw [e3] at hmc0
            simp only [Mv.cost, if_true] at hmc0
            simp [-More_nor, hi, hP, hsp, hst, hou, rg_blk_one, rg_setB_new, hk3, hmL, hz]
            (repeat' apply And.intro) <;> first | omega | (split <;> simp; done) | skip
            exact More_of (i + 1, r ++ [⟨some 3, [.bool true, .snil, iL (ix top (i : Int))], .live⟩]) (by simp [hbef, hmt1, e3, Mv.cost, hmL]; omega) (by simp [hmv1, mcs_app, mcs_one, e3, mc]) hi (by dsimp only; omega)
        · have ei : i = top.length := by omega
          subst ei
          have hvw := view_mv (σ := ⟨some 3, mcs (m.mvs l top top.length), if m.mvs l top top.length = [] then .nul else .live⟩ :: r) (b := 0) (xs := m.mvs l top top.length) rfl mvs_len.symm rfl mvs_rst
          simp [hvw]
      · simp [e1, e2, e4, hv, hf, hck]
    · simp [e1, e2, hv, hf]
  · simp [e1, hv]
end Ab
namespace Ab
theorem mgreat_x (m : Mly) (h : m.fits) (l : Lat) (hl : l.fits) : LX L F_ref19_Great [m.av, l.av] [] (fun v _ => ∃ b, v = .bool b) := by
  refine go_ref19_Great rfl ?_
  have hn := h.next.1
  have ho := h.out.1
  have hll := hl.len
  simp
  refine W_iter (fun i : Nat => [(2, .int i)]) (fun _ => []) (fun i => i ≤ m.next.length) (fun i => m.next.length - i) 0 (by simp [sets]) (by omega) ?_
  intro i i0
  have key : ∀ j : Nat, j ≤ m.out.length → (i : Int) ≤ 9223372036854775807 := fun _ _ => by omega
  by_cases hi : i < m.next.length ∧ i < 13
  · by_cases hc : 6 < ((ix m.next (i : Int)).length : Int)
    · simp [hi.1, show (i : Int) < 13 by omega, hc]
    · simp [-More_nor, hi.1, show (i : Int) < 13 by omega, hc]
      (repeat' apply And.intro) <;> try omega
      exact More_of (i + 1) (by simp) rfl (by omega) (by omega)
  · have hcond : ¬ (i : Int) < m.next.length ∨ ((i : Int) < m.next.length ∧ ¬ (i : Int) < 13) := by omega
    rcases hcond with hc | ⟨hc1, hc2⟩
    · simp [-More_nor, show ¬ i < m.next.length by omega]
      refine W_iter (fun k : Nat => [(4, .int k)]) (fun _ => []) (fun k => k ≤ m.out.length) (fun k => m.out.length - k) 0 (by simp [sets]) (by omega) ?_
      intro k k0
      by_cases hk : k < m.out.length ∧ k < 21
      · by_cases hc : 6 < ((ix m.out (k : Int)).length : Int)
        · simp [hk.1, show (k : Int) < 21 by omega, hc]
        · simp [-More_nor, hk.1, show (k : Int) < 21 by omega, hc]
          (repeat' apply And.intro) <;> try omega
          exact More_of (k + 1) (by simp) rfl (by omega) (by omega)
      · have hcond : ¬ (k : Int) < m.out.length ∨ ((k : Int) < m.out.length ∧ ¬ (k : Int) < 21) := by omega
        rcases hcond with hd | ⟨hd1, hd2⟩
        · by_cases q1 : 12 < (m.next.length : Int) <;> by_cases q2 : 20 < (m.out.length : Int) <;> simp [show ¬ k < m.out.length by omega, q1, q2] <;> omega
        · by_cases q1 : 12 < (m.next.length : Int) <;> by_cases q2 : 20 < (m.out.length : Int) <;> simp [show k < m.out.length by omega, hd2, q1, q2] <;> omega
    · simp [-More_nor, show i < m.next.length by omega, hc2]
      refine W_iter (fun k : Nat => [(4, .int k)]) (fun _ => []) (fun k => k ≤ m.out.length) (fun k => m.out.length - k) 0 (by simp [sets]) (by omega) ?_
      intro k k0
      by_cases hk : k < m.out.length ∧ k < 21
      · by_cases hc : 6 < ((ix m.out (k : Int)).length : Int)
        · simp [hk.1, show (k : Int) < 21 by omega, hc]
        · simp [-More_nor, hk.1, show (k : Int) < 21 by omega, hc]
          (repeat' apply And.intro) <;> try omega
          exact More_of (k + 1) (by simp) rfl (by omega) (by omega)
      · have hcond : ¬ (k : Int) < m.out.length ∨ ((k : Int) < m.out.length ∧ ¬ (k : Int) < 21) := by omega
        rcases hcond with hd | ⟨hd1, hd2⟩
        · by_cases q1 : 12 < (m.next.length : Int) <;> by_cases q2 : 20 < (m.out.length : Int) <;> simp [show ¬ k < m.out.length by omega, q1, q2] <;> omega
        · by_cases q1 : 12 < (m.next.length : Int) <;> by_cases q2 : 20 < (m.out.length : Int) <;> simp [show k < m.out.length by omega, hd2, q1, q2] <;> omega
theorem mgreat_s (m : Mly) (h : m.fits) (l : Lat) (hl : l.fits) : ∃ b, PC F_ref19_Great [m.av, l.av] = some (.bool b) := by
  obtain ⟨v, σ', h, e, rfl⟩ := LX_s (mgreat_x m h l hl)
  exact ⟨e, by simp only [PC, PCx, h]; rfl⟩
theorem sameM_s (xs : List Mv) (hl : (xs.length : Int) ≤ 1000000) (hx : ∀ x ∈ xs, (x.path.length : Int) ≤ 1000000 ∧ (x.word.length : Int) ≤ 1000000) : PC F_ref20_SameMoves [mvL xs, mvL xs] = some (.bool true) := by
  refine PCx_of (go_ref20_SameMoves rfl ?_)
  simp
  refine W_iter (fun i : Nat => [(2, .int i)]) (fun _ => []) (fun i => i ≤ xs.length) (fun i => xs.length - i) 0 (by simp [sets]) (by omega) ?_
  intro i i0
  by_cases hi : i < xs.length
  · obtain ⟨h1, h2⟩ := hx _ (ix_get (l := xs) (i := i) hi)
    have hs1 := rsame_s (ix xs (i : Int)).path (ix xs (i : Int)).path (by omega) (by omega)
    have hs2 := rsame_s (ix xs (i : Int)).word (ix xs (i : Int)).word (by omega) (by omega)
    simp at hs1 hs2
    simp [-More_nor, hi, hs1, hs2]
    (repeat' apply And.intro) <;> try omega
    exact More_of (i + 1) (by simp) rfl (by omega) (by omega)
  · simp [hi]
theorem mvs_bd {m : Mly} (hm : m.Ok) {l : Lat} {top : List (List Int)} (ht : ∀ w ∈ top, (w.length : Int) ≤ 1024 ∧ ∀ x ∈ w, 0 ≤ x ∧ x < m.inputs) : ∀ {n : Nat}, n ≤ top.length → ∀ x ∈ m.mvs l top n, (x.path.length : Int) ≤ 1000000 ∧ (x.word.length : Int) ≤ 1000000
  | 0, _, x, h => by simp [Mly.mvs] at h
  | n + 1, hn, x, h => by
    rcases List.mem_append.1 h with h | h
    · exact mvs_bd hm ht (n := n) (by omega) x h
    · simp at h; subst h
      have h1 := (ht _ (ix_get (l := top) (i := n) (by omega))).1
      unfold Mly.mv
      split
      · rename_i hc
        have hrr : 0 ≤ m.run m.start (ix top ((n : Int) - 1)) ∧ m.run m.start (ix top ((n : Int) - 1)) < (m.next.length : Int) := run_rng hm hm.start (ht _ (ix_mem (by omega) (by omega))).2
        have hw := way_ok hm (t := m.start) hrr
        dsimp only
        omega
      · dsimp only
        simp
        omega
theorem BatchChains_l (aw : PC F_law20_awake [] = some (.bool true)) (m : Mly) (h : m.fits) (l : Lat) (hl : l.fits) (ws : List (List Int)) (hw : okII ws) : PC F_law20_BatchChains [m.av, l.av, iLL ws] = some (.bool true) := by
  refine PCx_of (go_law20_BatchChains rfl ?_)
  obtain ⟨b, hg⟩ := mgreat_s m h l hl
  cases b with
  | true => simp [hg, aw]
  | false =>
    obtain ⟨c, hg2, hc⟩ := rgreat_s ws 20 40 (by omega) (by omega) hw.1 (fun w hm => (hw.2 w hm).1)
    cases c with
    | true => simp [hg, hg2, aw]
    | false =>
      obtain ⟨hc1, hc2⟩ := hc rfl
      have hfw : fitW ws := fun w hm => by have := hc2 w hm; omega
      have hC := Chain_s m h l hl ws (by omega) hfw
      have hR := RChain_s m h l hl ws (by omega) hfw
      have hS : PC F_ref20_SameMoves [mvL (m.chain l ws).1, mvL (m.chain l ws).1] = some (.bool true) := by
        unfold Mly.chain
        split
        · exact sameM_s [] (by simp) (by simp)
        · split
          · exact sameM_s [] (by simp) (by simp)
          · split
            · exact sameM_s [] (by simp) (by simp)
            · rename_i e1 e2 e3
              have hm := mvalidE_ok (show m.validE = 0 by simpa using e1)
              have hok := wordsE_ok (ws := ws) (k := m.inputs) (by simpa using e3)
              have htl := maxW_len (ws := ws)
              exact sameM_s _ (by rw [mvs_len]; omega) (mvs_bd hm (fun w hm => hok w (maxW_mem.1 hm).1) (Nat.le_refl _))
      simp [hg, hg2, hC, hR, hS, aw]
end Ab
