/- Which words are asked. Condition: none. -/
import Derived.Test.YtkedjdfangojmaaObsV
set_option linter.all false
set_option maxRecDepth 100000
set_option maxHeartbeats 4000000
namespace Ab
theorem chunk_front : ∀ {ws : List AV} {rest : List AV}, chunk none ws.length (ws ++ rest) = ws
  | [], rest => rfl
  | w :: ws, rest => by
    show chunk none (ws.length + 1) (w :: (ws ++ rest)) = _
    simp [chunk, chunk_front]
theorem reach_snil {σ : List Blk} : ∀ (m : Nat) (acc : List Nat), (List.replicate m AV.snil).foldl (fun acc y => reach σ 11 y acc) acc = acc
  | 0, _ => rfl
  | m + 1, acc => by simp only [List.replicate_succ, List.foldl_cons]; exact reach_snil m acc
/-- A list of words with room left is given away. -/
theorem W_frzR {vars : List AV} {fl : Option (Nat × AV)} {ws : List (List Int)} {m n k : Nat} {Q : Ex → St → Prop} (hm : n = ws.length + m) (hn : nth vars k = .sl 0 n 0 ws.length) (h : Q .nor ⟨setN vars k (.imm true (ws.map iL)), fl, [⟨none, ws.map iL ++ List.replicate m .snil, .dead⟩]⟩) : W L (.frz k) ⟨vars, fl, [⟨none, ws.map iL ++ List.replicate m .snil, .live⟩]⟩ Q := by
  subst hm
  have hu : upto [⟨none, ws.map iL ++ List.replicate m .snil, .live⟩] 0 (ws.length + m) = some (⟨none, ws.map iL ++ List.replicate m .snil, .live⟩) := by
    unfold upto
    simp [blk]
  have hr : reach [⟨none, ws.map iL ++ List.replicate m .snil, .live⟩] vd (.sl 0 (ws.length + m) 0 ws.length) [] = [0] := by
    show reach [⟨none, ws.map iL ++ List.replicate m .snil, .live⟩] (11 + 1) (.sl 0 (ws.length + m) 0 ws.length) [] = [0]
    unfold reach
    simp only [List.contains_nil, Bool.false_eq_true, if_false, blk, List.foldl_append]
    rw [reach_ws ws [0], reach_snil]
  have hv : view [⟨none, ws.map iL ++ List.replicate m .snil, .live⟩] false vd (.sl 0 (ws.length + m) 0 ws.length) = some (iLL ws) := by
    show view _ false (11 + 1) _ = _
    unfold view
    simp only [hu, kst, List.drop_zero, Nat.zero_add, Nat.mul_one]
    rw [if_pos (by simp)]
    have h1 := chunk_front (ws := ws.map iL) (rest := List.replicate m .snil)
    rw [List.length_map] at h1
    rw [h1, mapO_mp (f := iL) (g := iL) (v := view _ false 11) (xs := ws) fun _ _ => rfl]
  have hs : surely [⟨none, ws.map iL ++ List.replicate m .snil, .live⟩] (.sl 0 (ws.length + m) 0 ws.length) = true := by
    simp only [surely, hu]
  refine ⟨0, .nor, _, ?_, h⟩
  simp only [exec, hn, hr]
  have hd : dieIf (fun b => !([0] : List Nat).contains b) 0 [⟨none, ws.map iL ++ List.replicate m .snil, .live⟩] = [⟨none, ws.map iL ++ List.replicate m .snil, .live⟩] := by simp [dieIf]
  rw [hd, hv]
  simp only [hs]
  simp [dieIf]
def Obs.open (o : Obs) (qs : List (List Int)) : List (List Int) := qs.filter fun w => !(o.ans w).2
theorem open_take {o : Obs} {qs : List (List Int)} {i : Nat} (h : i < qs.length) : o.open (qs.take (i + 1)) = o.open (qs.take i) ++ (if (o.ans (ix qs (i : Int))).2 = true then [] else [ix qs (i : Int)]) := by
  unfold Obs.open
  rw [List.take_add_one, List.getElem?_eq_getElem h, ix_nat h, List.filter_append]
  cases e : (o.ans qs[i]).2 <;> simp [List.filter_cons, e]
/-- The error of words. -/
def wordsE (qs : List (List Int)) (k : Int) : Int := firstN (fun i => wordE (ix qs i) k) qs.length
theorem check_s (qs : List (List Int)) (k : Int) (hl : (qs.length : Int) ≤ 1000000) (hw : ∀ w ∈ qs, (w.length : Int) ≤ 9223372036854775807) : PC F_ref20_check [iLL qs, .int k] = some (.int (wordsE qs k)) := by
  refine PCx_of (go_ref20_check rfl ?_)
  unfold wordsE
  simp
  refine W_iter (fun i : Nat => [(2, .int i)]) (fun _ => []) (fun i => i ≤ qs.length ∧ ∀ j : Int, 0 ≤ j → j < i → wordE (ix qs j) k = 0) (fun i => qs.length - i) 0 (by simp [sets]) ⟨by omega, fun j h1 h2 => by omega⟩ ?_
  intro i ⟨i0, i1⟩
  by_cases hi : i < qs.length
  · have hc := rCheck_s (ix qs (i : Int)) k (hw _ (ix_get hi))
    by_cases he : wordE (ix qs (i : Int)) k = 0
    · simp [-More_nor, hi, hc, he]
      (repeat' apply And.intro) <;> try omega
      exact More_of (i + 1) (by simp) rfl ⟨by omega, by
        have := upto_succ (P := fun j => wordE (ix qs j) k = 0) (i := (i : Int)) he i1
        simpa using this⟩ (by omega)
    · have hf := firstN_some (f := fun i => wordE (ix qs i) k) (n := qs.length) (i := (i : Int)) (by omega) (by omega) he i1
      simp [hi, hc, he, hf]
  · have ei : i = qs.length := by omega
    subst ei
    have hf := firstN_none (f := fun i => wordE (ix qs i) k) (n := qs.length) i1
    simp [hf]
abbrev planA (r : List (List Int) × Int) : AV := .tup [iLL r.1, .int r.2]
def Obs.plan (o : Obs) (qs : List (List Int)) : List (List Int) × Int := if wordsE qs o.inputs ≠ 0 then ([], wordsE qs o.inputs) else (maxW (o.open qs), 0)
theorem Plan_s (o : Obs) (ho : o.Ok) (qs : List (List Int)) (hl : (qs.length : Int) ≤ 1000000) (hw : fitW qs) : PC F_batch_Plan [o.av, iLL qs] = some (planA (o.plan qs)) := by
  refine PCx_of (go_batch_Plan rfl ?_)
  unfold Obs.plan wordsE
  simp
  refine W_iter (fun i : Nat => [(2, .int i)]) (fun _ => []) (fun i => i ≤ qs.length ∧ ∀ j : Int, 0 ≤ j → j < i → wordE (ix qs j) o.inputs = 0) (fun i => qs.length - i) 0 (by simp [sets]) ⟨by omega, fun j h1 h2 => by omega⟩ ?_
  intro i ⟨i0, i1⟩
  by_cases hi : i < qs.length
  · have hc := wCheck_s (ix qs (i : Int)) o.inputs (by have := hw _ (ix_get hi); omega)
    by_cases he : wordE (ix qs (i : Int)) o.inputs = 0
    · simp [-More_nor, hi, hc, he]
      (repeat' apply And.intro) <;> try omega
      exact More_of (i + 1) (by simp) rfl ⟨by omega, by
        have := upto_succ (P := fun j => wordE (ix qs j) o.inputs = 0) (i := (i : Int)) he i1
        simpa using this⟩ (by omega)
    · have hf := firstN_some (f := fun i => wordE (ix qs i) o.inputs) (n := qs.length) (i := (i : Int)) (by omega) (by omega) he i1
      simp [hi, hc, he, hf]
  · have ei : i = qs.length := by omega
    subst ei
    have hf := firstN_none (f := fun i => wordE (ix qs i) o.inputs) (n := qs.length) i1
    simp [hf]
    refine ⟨by omega, ?_⟩
    refine W_iter (fun i : Nat => [(8, .int i), (13, .sl 0 qs.length 0 (o.open (qs.take i)).length)]) (fun i => [⟨none, (o.open (qs.take i)).map iL ++ List.replicate (qs.length - (o.open (qs.take i)).length) .snil, .live⟩]) (fun i => i ≤ qs.length) (fun i => qs.length - i) 0 (by simp [sets, Obs.open]) (by omega) ?_
    intro i i0
    have hF2 : (o.open (qs.take i)).length ≤ i := by
      have := List.length_filter_le (fun w => !(o.ans w).2) (qs.take i)
      unfold Obs.open
      simp at this; omega
    by_cases hi : i < qs.length
    · have ha := Answer_s o ho (ix qs (i : Int)) (hw _ (ix_get hi))
      have t1 := open_take (o := o) hi
      generalize o.open (qs.take i) = F at *
      cases ek : (o.ans (ix qs (i : Int))).2 with
      | true =>
        rw [ek] at ha t1
        simp at t1
        simp [-More_nor, -List.map_replicate, hi, ha]
        exact ⟨by omega, More_of (i + 1) (by rw [t1]; simp) (by rw [t1]) (by omega) (by omega)⟩
      | false =>
        rw [ek] at ha t1
        simp at t1
        simp [-More_nor, -List.map_replicate, hi, ha]
        (repeat' apply And.intro) <;> try omega
        refine fun _ => ⟨by omega, by omega, More_of (i + 1) (by rw [t1]; simp) ?_ (by omega) (by omega)⟩
        have hp := putAt_room (a := F.map iL) (n := qs.length - (F.length + 1)) (z := .snil) (x := iL (ix qs (i : Int)))
        rw [List.length_map, show qs.length - (F.length + 1) + 1 = qs.length - F.length by omega] at hp
        rw [hp, t1, List.map_append, List.length_append]; rfl
    · have ei : i = qs.length := by omega
      subst ei
      have t2 : qs.take qs.length = qs := List.take_of_length_le (by simp)
      rw [t2] at hF2 ⊢
      have hmx := Maximal_s (o.open qs) (by omega) (fun w h => hw w (List.mem_filter.1 h).1)
      generalize o.open qs = F at *
      simp [-List.map_replicate]
      refine W_frzR (by omega) rfl ?_
      simp [hmx]
theorem RPlan_s (o : Obs) (ho : o.Ok) (qs : List (List Int)) (hl : (qs.length : Int) ≤ 1000000) (hw : fitW qs) : PC F_ref20_Plan [o.av, iLL qs] = some (planA (o.plan qs)) := by
  refine PCx_of (go_ref20_Plan rfl ?_)
  have hc := check_s qs o.inputs hl (fun w h => by have := hw w h; omega)
  unfold Obs.plan
  by_cases he : wordsE qs o.inputs = 0
  · rw [he] at hc
    simp [hc, he]
    refine W_iter (fun i : Nat => [(4, .int i), (6, .sl 0 (o.open (qs.take i)).length 0 (o.open (qs.take i)).length)]) (fun i => [loutL (o.open (qs.take i))]) (fun i => i ≤ qs.length) (fun i => qs.length - i) 0 (by simp [sets, Obs.open]) (by omega) ?_
    intro i i0
    have hF2 : (o.open (qs.take i)).length ≤ i := by
      have := List.length_filter_le (fun w => !(o.ans w).2) (qs.take i)
      unfold Obs.open
      simp at this; omega
    by_cases hi : i < qs.length
    · have ha := RAnswer_s o ho (ix qs (i : Int)) (hw _ (ix_get hi))
      have t1 := open_take (o := o) hi
      generalize o.open (qs.take i) = F at *
      cases ek : (o.ans (ix qs (i : Int))).2 with
      | true =>
        rw [ek] at ha t1
        simp at t1
        simp [-More_nor, hi, ha]
        exact ⟨by omega, More_of (i + 1) (by rw [t1]; simp) (by rw [t1]) (by omega) (by omega)⟩
      | false =>
        rw [ek] at ha t1
        simp at t1
        simp [-More_nor, hi, ha]
        refine ⟨by split <;> simp, by omega, by omega, More_of (i + 1) (by rw [t1]; simp) (by rw [t1]; simp) (by omega) (by omega)⟩
    · have ei : i = qs.length := by omega
      subst ei
      have t2 : qs.take qs.length = qs := List.take_of_length_le (by simp)
      rw [t2] at hF2 ⊢
      have hmx := RMaximal_s (o.open qs) (by omega) (fun w h => hw w (List.mem_filter.1 h).1)
      generalize o.open qs = F at *
      simp
      refine W_frzL rfl ?_
      simp [hmx]
  · simp [hc, he]
theorem plan_ok {o : Obs} {qs : List (List Int)} (hw : fitW qs) : ((o.plan qs).1.length ≤ qs.length) ∧ ∀ w ∈ (o.plan qs).1, w ∈ qs := by
  unfold Obs.plan
  split
  · simp
  · refine ⟨?_, fun w h => ?_⟩
    · have h1 : (maxW (o.open qs)).length ≤ (o.open qs).length := by
        have h2 : (maxW (o.open qs)).length ≤ (sortU (o.open qs)).length := List.length_filter_le _ _
        have h3 := compW_len (sortG slxC (o.open qs))
        rw [sortG_len] at h3
        have h4 : (sortU (o.open qs)).length ≤ (o.open qs).length := h3
        omega
      have := List.length_filter_le (fun w => !(o.ans w).2) qs
      unfold Obs.open at *
      dsimp only
      omega
    · exact (List.mem_filter.1 (maxW_mem.1 h).1).1
theorem BatchPlans_l (aw : PC F_law20_awake [] = some (.bool true)) (o : Obs) (h : o.fits) (qs : List (List Int)) (hq : okII qs) : PC F_law20_BatchPlans [o.av, iLL qs] = some (.bool true) := by
  refine PCx_of (go_law20_BatchPlans rfl ?_)
  obtain ⟨b, hg, hb⟩ := greatT_s o.traces h.len (fun t ht => ⟨(h.tr t ht).1.1, (h.tr t ht).2.1⟩)
  cases b with
  | true => simp [hg, aw]
  | false =>
    obtain ⟨c, hg2, hc⟩ := rgreat_s qs 30 40 (by omega) (by omega) hq.1 (fun w hm => (hq.2 w hm).1)
    cases c with
    | true => simp [hg, hg2, aw]
    | false =>
      obtain ⟨hb1, hb2⟩ := hb rfl
      obtain ⟨hc1, hc2⟩ := hc rfl
      obtain ⟨e, hv, ho⟩ := Valid_s o h (by omega) (fun t ht => by have := hb2 t ht; omega)
      by_cases he : e = 0
      · subst he
        have hfw : fitW qs := fun w hm => by have := hc2 w hm; omega
        have hP := Plan_s o (ho rfl) qs (by omega) hfw
        have hR := RPlan_s o (ho rfl) qs (by omega) hfw
        obtain ⟨k1, k2⟩ := plan_ok (o := o) hfw
        have hS := rsameW_s (o.plan qs).1 (o.plan qs).1 (by omega) (by omega) (fun w hm => by have := hc2 w (k2 w hm); omega) (fun w hm => by have := hc2 w (k2 w hm); omega)
        simp at hS
        simp [hg, hg2, hv, hP, hR, hS, aw]
      · simp [hg, hg2, hv, he, aw]
end Ab
