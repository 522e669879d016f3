/- The states that are matched. Condition: none. -/
import Derived.Test.YtmmkhoncblnicaaDifF
import Derived.Test.YtmmkhoncblnicaaDifR
import Derived.Test.YtmmkhoncblnicaaCovF
set_option linter.all false
set_option maxRecDepth 100000
set_option maxHeartbeats 4000000
namespace Ab
/-- Some states are matched. -/
def mset (b : Mly) (o : List Int) (ps : List Pl) : List Int := ps.foldl (fun o p => o.set p.1.toNat (b.run b.start p.2)) o
theorem mset_len {b : Mly} : ∀ {ps : List Pl} {o : List Int}, (mset b o ps).length = o.length
  | [], _ => rfl
  | p :: ps, o => by
    show (mset b (o.set p.1.toNat (b.run b.start p.2)) ps).length = _
    rw [mset_len, List.length_set]
theorem mset_snoc {b : Mly} {o : List Int} {ps : List Pl} {p : Pl} : mset b o (ps ++ [p]) = (mset b o ps).set p.1.toNat (b.run b.start p.2) := by simp [mset]
/-- Which states are matched. -/
def mt (a b : Mly) : List Int := mset b (List.replicate a.next.length (-1)) (a.places a.start)
def mtA (a b : Mly) : List Int × Int := if chkE a b ≠ 0 then ([], chkE a b) else (mt a b, 0)
theorem mt_len {a b : Mly} : (mt a b).length = a.next.length := by simp [mt, mset_len]
theorem Match_s (a b : Mly) (ha : a.fits) (hb : b.fits) : PC F_diff_Match [a.av, b.av] = some (.tup [iL (mtA a b).1, .int (mtA a b).2]) := by
  refine PCx_of (go_diff_Match rfl ?_)
  have hc := dcheck_s a b ha hb
  by_cases h0 : chkE a b = 0
  case neg =>
    have e : mtA a b = ([], chkE a b) := by unfold mtA; rw [if_pos h0]
    rw [e]
    simp [hc, h0]
  rw [h0] at hc
  obtain ⟨va, vb, hi⟩ := chkE_ok h0
  have hoa := mvalidE_ok va
  have hob := mvalidE_ok vb
  have hsa := hoa.states
  have hA := Acc_s a ha
  rw [acc_ok va] at hA
  have hf := places_bf a hoa a.start hoa.start
  have hle := hf.bq.le
  have hMt : mt a b = mset b (List.replicate a.next.length (-1)) (a.places a.start) := rfl
  have e : mtA a b = (mt a b, 0) := by unfold mtA; rw [if_neg (by omega)]
  rw [e]
  have hR := Repeat_l (-1) a.next.length (by omega)
  generalize mt a b = M at *
  generalize a.places a.start = ps at *
  simp [-List.map_map, -More_nor, hc, hA, hR, shV, shL, shB]
  have hsh : shL 0 (List.replicate a.next.length (AV.int (-1))) = (List.replicate a.next.length (-1 : Int)).map .int := by rw [shL_map]; simp [shV]
  rw [hsh]
  generalize hO : List.replicate a.next.length (-1 : Int) = O at *
  have hOl : O.length = a.next.length := by rw [← hO]; simp
  refine W_iter (fun i : Nat => [(7, .int i)]) (fun i => [⟨none, (mset b O (ps.take i)).map .int, .live⟩]) (fun i => i ≤ ps.length) (fun i => ps.length - i) 0 (by simp [sets, mset]) (by omega) ?_
  intro i i1
  by_cases hi' : i < ps.length
  · have i0' : (0 : Int) ≤ i := by omega
    have i1' : (i : Int) < ps.length := by omega
    have g1 : ix (ps.map (·.1)) (i : Int) = (ix ps (i : Int)).1 := ix_map i0' i1'
    have g2 : ix (ps.map (·.2)) (i : Int) = (ix ps (i : Int)).2 := ix_map i0' i1'
    have hrg := hf.bq.rng _ (ix_mem i0' i1')
    have hrun := hf.run i i0' i1'
    have hln := hf.bq.len i i0' i1'
    have hub : ∀ y ∈ (ix ps (i : Int)).2, 0 ≤ y ∧ y < b.inputs := by rw [← hi]; exact hrun.2
    have f2 := From_s b hb b.start (ix ps (i : Int)).2 (by omega)
    rw [from_ok vb hub (by omega)] at f2
    have hml : (mset b O (ps.take i)).length = a.next.length := by rw [mset_len, hOl]
    have hnx : mset b O (ps.take (i + 1)) = (mset b O (ps.take i)).set (ix ps (i : Int)).1.toNat (b.run b.start (ix ps (i : Int)).2) := by
      rw [← mset_snoc]
      congr 1
      rw [List.take_succ, List.getElem?_eq_getElem hi', ix_nat hi']; rfl
    generalize mset b O (ps.take i) = N at *
    simp [-List.map_map, -List.map_set, -More_nor, hi', g1, g2, f2, hrg.1, hrg.2, hml]
    refine ⟨by omega, More_of (i + 1) (by simp) (by rw [hnx]) (by omega) (by omega)⟩
  · have : i = ps.length := by omega
    subst this
    rw [List.take_length, ← hMt]
    have hv := vd_iL (σ := [⟨none, M.map .int, .live⟩]) (fr := false) (b := 0) (xs := M) (n := a.next.length) (st := .live) rfl (by simp) (by rw [hMt, mset_len, hOl])
    simp [hv]
theorem RAfter_s (m : Mly) (hm : m.Ok) (w : List Int) (hl : (w.length : Int) ≤ 1000000) (hw : ∀ x ∈ w, 0 ≤ x ∧ x < m.inputs) : PC F_ref49_after [m.av, iL w] = some (.int (m.run m.start w)) := by
  refine PCx_of (go_ref49_after rfl ?_)
  simp
  refine W_iter (fun i : Nat => [(3, .int i), (4, .int (m.run m.start (w.take i)))]) (fun _ => []) (fun i => i ≤ w.length) (fun i => w.length - i) 0 (by simp [sets, Mly.run]) (by omega) ?_
  intro i hi1
  by_cases hi : i < w.length
  · have tk := take_snoc hi
    have hxs : ∀ x ∈ w.take i, 0 ≤ x ∧ x < m.inputs := fun x hx => hw x (List.mem_of_mem_take hx)
    have hr := run_rng hm hm.start hxs
    have ha := hw _ (ix_mem (l := w) (n := (i : Int)) (by omega) (by omega))
    have e1 : m.run m.start (w.take (i + 1)) = ix (ix m.next (m.run m.start (w.take i))) (ix w (i : Int)) := by rw [tk, run_app]; rfl
    generalize m.run m.start (w.take i) = R at *
    have hrow := hm.row R hr.1 hr.2
    simp [-More_nor, hi, hr.1, hr.2, ha.1, ha.2, hrow.1]
    refine ⟨by omega, More_of (i + 1) (by simp [e1]) rfl (by omega) (by omega)⟩
  · have ei : i = w.length := by omega
    subst ei
    simp
/-- The state that is matched with this one. -/
def mtS (b : Mly) (ps : List Pl) (s : Int) (t : Int) : Int := ps.foldl (fun t p => if p.1 = s then b.run b.start p.2 else t) t
theorem mtS_snoc {b : Mly} {ps : List Pl} {p : Pl} {s t : Int} : mtS b (ps ++ [p]) s t = if p.1 = s then b.run b.start p.2 else mtS b ps s t := by simp [mtS]
theorem mset_ix {b : Mly} {s : Int} (s0 : 0 ≤ s) : ∀ {ps : List Pl} {O : List Int}, s < (O.length : Int) → (∀ p ∈ ps, 0 ≤ p.1) → ix (mset b O ps) s = mtS b ps s (ix O s)
  | [], O, _, _ => rfl
  | p :: ps, O, hs, hp => by
    show ix (mset b (O.set p.1.toNat (b.run b.start p.2)) ps) s = mtS b ps s (if p.1 = s then b.run b.start p.2 else ix O s)
    rw [mset_ix s0 (by simpa using hs) (fun q hq => hp q (by simp [hq]))]
    congr 1
    have h0 := hp p (by simp)
    by_cases e : p.1 = s
    · rw [if_pos e, e]
      simp [ix, List.getD_eq_getElem?_getD, List.getElem?_set, show s.toNat < O.length by omega]
    · rw [if_neg e]
      have : ¬ p.1.toNat = s.toNat := by omega
      simp [ix, List.getD_eq_getElem?_getD, List.getElem?_set, this]
theorem mt_range {a b : Mly} (ha : a.Ok) : mt a b = (List.range a.next.length).map fun (s : Nat) => mtS b (a.places a.start) (s : Int) (-1) := by
  have hf := places_bf a ha a.start ha.start
  apply List.ext_getElem
  · simp [mt_len]
  · intro i h1 h2
    rw [mt_len] at h1
    have hm := mset_ix (b := b) (s := (i : Int)) (ps := a.places a.start) (O := List.replicate a.next.length (-1)) (by omega) (by simpa using h1) (fun p hp => (hf.bq.rng p hp).1)
    have e1 : ix (List.replicate a.next.length (-1 : Int)) (i : Int) = -1 := by rw [ix_nat (by simpa using h1)]; simp
    rw [e1] at hm
    have e2 : ix (mt a b) (i : Int) = (mt a b)[i] := ix_nat (by rw [mt_len]; exact h1)
    rw [← e2]
    simp only [List.getElem_map, List.getElem_range]
    exact hm
theorem RMatch_s (a b : Mly) (ha : a.fits) (hb : b.fits) : PC F_ref49_Match [a.av, b.av] = some (.tup [iL (mtA a b).1, .int (mtA a b).2]) := by
  refine PCx_of (go_ref49_Match rfl ?_)
  have hc := rChk_s a b ha hb
  by_cases h0 : chkE a b = 0
  case neg =>
    have e : mtA a b = ([], chkE a b) := by unfold mtA; rw [if_pos h0]
    rw [e]
    simp [hc, h0]
  rw [h0] at hc
  obtain ⟨va, vb, hi⟩ := chkE_ok h0
  have hoa := mvalidE_ok va
  have hob := mvalidE_ok vb
  have hsa := hoa.states
  have hA := RAcc_s a ha
  rw [acc_ok va] at hA
  have hf := places_bf a hoa a.start hoa.start
  have hle := hf.bq.le
  have hMt := mt_range (b := b) hoa
  have e : mtA a b = (mt a b, 0) := by unfold mtA; rw [if_neg (by omega)]
  rw [e]
  generalize mt a b = M at *
  generalize a.places a.start = ps at *
  simp [-List.map_map, -More_nor, hc, hA]
  refine W_iter (fun k : Nat => [(5, .int k), (9, .sl 0 k 0 k)]) (fun k => [⟨none, ((List.range k).map fun (s : Nat) => mtS b ps (s : Int) (-1)).map .int, stOf (List.range k)⟩]) (fun k => k ≤ a.next.length) (fun k => a.next.length - k) 0 (by simp [sets]) (by omega) ?_
  intro k k1
  by_cases hk : k < a.next.length
  · simp [-List.map_map, -More_nor, hk]
    refine W_iter (fun i : Nat => [(6, .int i), (10, .int (mtS b (ps.take i) (k : Int) (-1)))]) (fun _ => [⟨none, ((List.range k).map fun (s : Nat) => mtS b ps (s : Int) (-1)).map .int, stOf (List.range k)⟩]) (fun i => i ≤ ps.length) (fun i => ps.length - i) 0 (by simp [sets, mtS]) (by omega) ?_
    intro i i1
    by_cases hi' : i < ps.length
    · have i0' : (0 : Int) ≤ i := by omega
      have i1' : (i : Int) < ps.length := by omega
      have g1 : ix (ps.map (·.1)) (i : Int) = (ix ps (i : Int)).1 := ix_map i0' i1'
      have g2 : ix (ps.map (·.2)) (i : Int) = (ix ps (i : Int)).2 := ix_map i0' i1'
      have hrg := hf.bq.rng _ (ix_mem i0' i1')
      have hrun := hf.run i i0' i1'
      have hln := hf.bq.len i i0' i1'
      have hub : ∀ y ∈ (ix ps (i : Int)).2, 0 ≤ y ∧ y < b.inputs := by rw [← hi]; exact hrun.2
      have f2 := RAfter_s b hob (ix ps (i : Int)).2 (by omega) hub
      have hnx : mtS b (ps.take (i + 1)) (k : Int) (-1) = if (ix ps (i : Int)).1 = (k : Int) then b.run b.start (ix ps (i : Int)).2 else mtS b (ps.take i) (k : Int) (-1) := by
        rw [← mtS_snoc]
        congr 1
        rw [List.take_succ, List.getElem?_eq_getElem hi', ix_nat hi']; rfl
      generalize mtS b (ps.take i) (k : Int) (-1) = N at *
      by_cases hek : (ix ps (i : Int)).1 = (k : Int)
      · rw [if_pos hek] at hnx
        have hek' := eq_true hek
        simp [-List.map_map, -More_nor, hi', g1, g2, f2, hek']
        refine ⟨by omega, More_of (i + 1) (by simp [hnx]) rfl (by omega) (by omega)⟩
      · rw [if_neg hek] at hnx
        have hek' := eq_false hek
        simp [-List.map_map, -More_nor, hi', g1, g2, f2, hek']
        refine ⟨by omega, More_of (i + 1) (by simp [hnx]) rfl (by omega) (by omega)⟩
    · have : i = ps.length := by omega
      subst this
      rw [List.take_length]
      simp [-List.map_map, -More_nor]
      refine ⟨by omega, by omega, More_of (k + 1) (by simp) (by simp [List.range_succ]) (by omega) (by omega)⟩
  · have : k = a.next.length := by omega
    subst this
    rw [← hMt]
    have hv := vd_iL (σ := [⟨none, M.map .int, stOf (List.range a.next.length)⟩]) (fr := false) (b := 0) (xs := M) (n := a.next.length) (st := stOf (List.range a.next.length)) rfl (by simp) (by rw [hMt]; simp)
    simp [hv]
end Ab
