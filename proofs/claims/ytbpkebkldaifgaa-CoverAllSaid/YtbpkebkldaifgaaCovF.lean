/- Access words and transition covers. Condition: none. -/
import Derived.Test.YtbpkebkldaifgaaCovB
import Derived.Test.YtbpkebkldaifgaaSorted
set_option linter.all false
set_option maxRecDepth 100000
set_option maxHeartbeats 4000000
namespace Ab
/-- A list of words that grows from nil. -/
abbrev loutL (out : List (List Int)) : Blk := ⟨none, out.map iL, if out = [] then .nul else .live⟩
theorem vd_loutL {σ : List Blk} {b : Nat} {out : List (List Int)} (h : blk σ b = some (loutL out)) : view σ false vd (.sl b out.length 0 out.length) = some (iLL out) := vd_LL (fr := false) h (by split <;> simp) rfl
abbrev louI (out : List Int) : Blk := ⟨none, out.map .int, if out = [] then .nul else .live⟩
theorem vd_louI {σ : List Blk} {b : Nat} {out : List Int} (h : blk σ b = some (louI out)) : view σ false vd (.sl b out.length 0 out.length) = some (iL out) := vd_iL h (by split <;> simp) rfl
theorem reach_ws {σ : List Blk} : ∀ (ws : List (List Int)) (acc : List Nat), (ws.map iL).foldl (fun acc y => reach σ 11 y acc) acc = acc
  | [], _ => rfl
  | w :: ws, acc => by simp only [List.map_cons, List.foldl_cons]; exact reach_ws ws acc
/-- A list of words is given away. -/
theorem W_frzL {vars : List AV} {fl : Option (Nat × AV)} {ws : List (List Int)} {k : Nat} {Q : Ex → St → Prop} (hn : nth vars k = .sl 0 ws.length 0 ws.length) (h : Q .nor ⟨setN vars k (.imm (decide (ws ≠ [])) (ws.map iL)), fl, [⟨none, ws.map iL, .dead⟩]⟩) : W L (.frz k) ⟨vars, fl, [loutL ws]⟩ Q := by
  have hr : reach [loutL ws] vd (.sl 0 ws.length 0 ws.length) [] = [0] := by
    show reach [loutL ws] (11 + 1) (.sl 0 ws.length 0 ws.length) [] = [0]
    unfold reach
    simp only [List.contains_nil, Bool.false_eq_true, if_false, blk]
    exact reach_ws ws [0]
  have hv := vd_loutL (σ := [loutL ws]) (b := 0) (out := ws) rfl
  have hs : surely [loutL ws] (.sl 0 ws.length 0 ws.length) = decide (ws ≠ []) := by
    have : upto [loutL ws] 0 ws.length = some (loutL ws) := by
      unfold upto
      by_cases h : ws = [] <;> simp [blk, h]
    simp only [surely, this]
    by_cases h : ws = [] <;> simp [h]
  refine ⟨0, .nor, _, ?_, h⟩
  simp only [exec, hn, hr]
  have hd : dieIf (fun b => !([0] : List Nat).contains b) 0 [loutL ws] = [loutL ws] := by simp [dieIf]
  rw [hd, hv]
  simp only [hs]
  by_cases h : ws = []
  · simp [h, dieIf]; rfl
  · simp [h, dieIf]
/-- Access. -/
def Mly.acc (m : Mly) : List Int × List (List Int) × Int := if m.validE ≠ 0 then ([], [], m.validE) else ((m.places m.start).map (·.1), (m.places m.start).map (·.2), 0)
abbrev accA (r : List Int × List (List Int) × Int) : AV := .tup [iL r.1, iLL r.2.1, .int r.2.2]
theorem acc_ok {m : Mly} (hv : m.validE = 0) : m.acc = ((m.places m.start).map (·.1), (m.places m.start).map (·.2), 0) := by unfold Mly.acc; rw [if_neg (by simpa using hv)]
theorem acc_no {m : Mly} (hv : ¬ m.validE = 0) : m.acc = ([], [], m.validE) := by unfold Mly.acc; rw [if_pos hv]
theorem RAcc_s (m : Mly) (h : m.fits) : PC F_ref10_Access [m.av] = some (accA m.acc) := by
  by_cases hv : m.validE = 0
  · rw [acc_ok hv]; exact RAccess_s m h hv
  · rw [acc_no hv]; exact RAccess_e m h hv
theorem Acc_s (m : Mly) (h : m.fits) : PC F_cover_Access [m.av] = some (accA m.acc) := by
  refine PCx_of (go_cover_Access rfl ?_)
  by_cases hv : m.validE = 0
  · rw [acc_ok hv]
    have hm := mvalidE_ok hv
    obtain ⟨hs1, hs2⟩ := hm.states
    have hp := places_s m hm m.start hm.start
    have hqn := (places_ok m hm m.start hm.start).le
    simp [-List.map_map, mValid_s m h, hv, hp]
    generalize m.places m.start = q at *
    (repeat' apply And.intro) <;> try omega
    refine W_iter (fun i : Nat => [(3, .int i), (6, .sl 0 i 0 i), (8, .sl 1 i 0 i)]) (fun i => [louI ((q.map (·.1)).take i), loutL ((q.map (·.2)).take i)]) (fun i => i ≤ q.length) (fun i => q.length - i) 0 (by simp [sets]) (by omega) ?_
    intro i hi1
    by_cases hi : i < q.length
    · have t1 : (q.map (·.1)).take (i + 1) = (q.map (·.1)).take i ++ [(ix q (i : Int)).1] := by
        rw [List.take_add_one, List.getElem?_map, List.getElem?_eq_getElem hi, ix_nat hi]; rfl
      have t2 : (q.map (·.2)).take (i + 1) = (q.map (·.2)).take i ++ [(ix q (i : Int)).2] := by
        rw [List.take_add_one, List.getElem?_map, List.getElem?_eq_getElem hi, ix_nat hi]; rfl
      have hmin : min i q.length = i := Nat.min_eq_left (by omega)
      simp [-More_nor, -List.map_map, -List.map_take, hi, hmin]
      refine ⟨by split <;> simp, by omega, by split <;> simp, by omega, by omega, More_of (i + 1) (by simp) (by rw [t1, t2]; simp [-List.map_map, -List.map_take]) (by omega) (by omega)⟩
    · have ei : i = q.length := by omega
      subst ei
      have t1 : (q.map (·.1)).take q.length = q.map (·.1) := List.take_of_length_le (by simp)
      have t2 : (q.map (·.2)).take q.length = q.map (·.2) := List.take_of_length_le (by simp)
      rw [t1, t2]
      have v1 := vd_louI (σ := [louI (q.map (·.1)), loutL (q.map (·.2))]) (b := 0) (out := q.map (·.1)) rfl
      have v2 := vd_loutL (σ := [louI (q.map (·.1)), loutL (q.map (·.2))]) (b := 1) (out := q.map (·.2)) rfl
      rw [List.length_map] at v1 v2
      simp [-List.map_map, -List.map_take, v1, v2]
  · rw [acc_no hv]
    simp [mValid_s m h, hv]
theorem RCover_s (m : Mly) (h : m.fits) : PC F_ref10_StateCover [m.av] = some (.tup [iLL m.acc.2.1, .int m.acc.2.2]) := by
  refine PCx_of (go_ref10_StateCover rfl ?_)
  simp [RAcc_s m h]
theorem Cover_s (m : Mly) (h : m.fits) : PC F_cover_StateCover [m.av] = some (.tup [iLL m.acc.2.1, .int m.acc.2.2]) := by
  refine PCx_of (go_cover_StateCover rfl ?_)
  simp [Acc_s m h]
/-- The words of the transitions. -/
def Mly.exts (m : Mly) (ws : List (List Int)) : List (List Int) := ws.flatMap fun w => (List.range m.inputs.toNat).map fun (a : Nat) => w ++ [(a : Int)]
theorem exts_app {m : Mly} {u v : List (List Int)} : m.exts (u ++ v) = m.exts u ++ m.exts v := by simp [Mly.exts]
theorem exts_one {m : Mly} {w : List Int} : m.exts [w] = (List.range m.inputs.toNat).map fun (a : Nat) => w ++ [(a : Int)] := by simp [Mly.exts]
theorem exts_len {m : Mly} : ∀ {ws : List (List Int)}, (m.exts ws).length = ws.length * m.inputs.toNat
  | [] => by simp [Mly.exts]
  | w :: ws => by
    have : m.exts (w :: ws) = m.exts [w] ++ m.exts ws := exts_app (u := [w])
    rw [this, List.length_append, exts_len (ws := ws), exts_one, List.length_map, List.length_range, List.length_cons, Nat.succ_mul, Nat.add_comm]
def Mly.tra (m : Mly) : List (List Int) := m.exts ((m.places m.start).map (·.2))
theorem RTra_s (m : Mly) (h : m.fits) : PC F_ref10_Transitions [m.av] = some (.tup [iLL (if m.validE = 0 then m.tra else []), .int m.validE]) := by
  refine PCx_of (go_ref10_Transitions rfl ?_)
  by_cases hv : m.validE = 0
  · have hm := mvalidE_ok hv
    obtain ⟨hs1, hs2⟩ := hm.states
    obtain ⟨hi1, hi2⟩ := hm.inputs
    have hq := places_ok m hm m.start hm.start
    have hqn := hq.le
    have hA := RAcc_s m h
    rw [acc_ok hv] at hA
    rw [if_pos hv]
    simp [-List.map_map, hA, hv]
    have hwl : ∀ w ∈ (m.places m.start).map (·.2), (w.length : Int) ≤ 1000 := fun w hw => by
      obtain ⟨p, hp, rfl⟩ := List.mem_map.1 hw
      obtain ⟨i, hi, rfl⟩ := List.mem_iff_getElem.1 hp
      have := hq.len i (by omega) (by omega)
      rw [ix_nat hi] at this; omega
    have htr : m.tra = m.exts ((m.places m.start).map (·.2)) := rfl
    rw [htr]
    have hwn : (((m.places m.start).map (·.2)).length : Int) ≤ 128 := by simp; omega
    generalize (m.places m.start).map (·.2) = ws at *
    refine W_iter (fun i : Nat => [(3, .int i), (6, .sl 0 (m.exts (ws.take i)).length 0 (m.exts (ws.take i)).length)]) (fun i => [loutL (m.exts (ws.take i))]) (fun i => i ≤ ws.length) (fun i => ws.length - i) 0 (by simp [sets, Mly.exts]) (by omega) ?_
    intro i hi1
    by_cases hi : i < ws.length
    · have hwi := hwl _ (ix_mem (l := ws) (n := (i : Int)) (by omega) (by omega))
      have tk : ws.take (i + 1) = ws.take i ++ [ix ws (i : Int)] := by rw [List.take_add_one, List.getElem?_eq_getElem hi, ix_nat hi]; rfl
      have hml := mul_small (P := i) (c := m.inputs) (by omega) hi2 (by omega)
      have hel : (m.exts (ws.take i)).length ≤ 8192 := by rw [exts_len, List.length_take, Nat.min_eq_left (by omega)]; exact hml
      simp [-More_nor, hi]
      generalize hL : m.exts (ws.take i) = L0 at *
      refine W_iter (fun a : Nat => [(5, .int a), (6, .sl 0 (L0.length + a) 0 (L0.length + a))]) (fun a => [loutL (L0 ++ (List.range a).map fun (b : Nat) => ix ws (i : Int) ++ [(b : Int)])]) (fun a => a ≤ m.inputs.toNat) (fun a => m.inputs.toNat - a) 0 (by simp [sets]) (by omega) ?_
      intro a ha1
      by_cases ha : a < m.inputs.toNat
      · have hx := Ext_s (ix ws (i : Int)) (a : Int) (by omega)
        simp [-More_nor, show (a : Int) < m.inputs by omega, hi, hx]
        refine ⟨by split <;> simp, by omega, by omega, More_of (a + 1) (by simp [Nat.add_assoc]) (by simp [List.range_succ, loutL]) (by omega) (by omega)⟩
      · simp [-More_nor, show ¬ (a : Int) < m.inputs by omega]
        have hE : m.exts (ws.take (i + 1)) = L0 ++ (List.range a).map fun (b : Nat) => ix ws (i : Int) ++ [(b : Int)] := by rw [tk, exts_app, exts_one, hL, show a = m.inputs.toNat by omega]
        refine ⟨by omega, More_of (i + 1) (by simp [hE]) (by rw [hE]) (by omega) (by omega)⟩
    · have ei : i = ws.length := by omega
      subst ei
      rw [List.take_length]
      have v2 := vd_loutL (σ := [loutL (m.exts ws)]) (b := 0) (out := m.exts ws) rfl
      simp [v2]
  · rw [if_neg hv]
    have hA := RAcc_s m h
    rw [acc_no hv] at hA
    simp [hA, hv]
theorem tra_asc (m : Mly) (hm : m.Ok) : asc m.tra := by
  have hb := places_bf m hm m.start hm.start
  unfold Mly.tra Mly.exts asc
  rw [List.pairwise_flatMap]
  refine ⟨fun w _ => ?_, ?_⟩
  · rw [List.pairwise_map]
    exact (List.pairwise_lt_range).imp fun h => slx_same (by omega)
  · rw [List.pairwise_map, List.pairwise_iff_getElem]
    intro i j hi hj hij x hx y hy
    obtain ⟨a, _, rfl⟩ := List.mem_map.1 hx
    obtain ⟨b, _, rfl⟩ := List.mem_map.1 hy
    have := hb.asc i j (by omega) (by omega) (by omega)
    rw [ix_nat hi, ix_nat hj] at this
    exact slx_app this
theorem tra_sort (m : Mly) (hm : m.Ok) : sortU m.tra = m.tra := sortU_eq (tra_asc m hm) fun _ => Iff.rfl
theorem tra_fit (m : Mly) (hm : m.Ok) : (m.tra.length : Int) ≤ 8192 ∧ ∀ w ∈ m.tra, (w.length : Int) ≤ 1000 := by
  have hst := hm.states; have hin := hm.inputs
  have hq := places_ok m hm m.start hm.start
  have hqn := hq.le
  constructor
  · unfold Mly.tra
    rw [exts_len, List.length_map]
    have := mul_small (P := (m.places m.start).length) (c := m.inputs) (by omega) hin.2 (by omega)
    omega
  · intro w hw
    unfold Mly.tra Mly.exts at hw
    obtain ⟨v, hv, hw⟩ := List.mem_flatMap.1 hw
    obtain ⟨a, _, rfl⟩ := List.mem_map.1 hw
    obtain ⟨p, hp, rfl⟩ := List.mem_map.1 hv
    obtain ⟨i, hi, rfl⟩ := List.mem_iff_getElem.1 hp
    have := hq.len i (by omega) (by omega)
    rw [ix_nat hi] at this
    simp; omega
theorem Tra_s (m : Mly) (h : m.fits) : PC F_cover_Transitions [m.av] = some (.tup [iLL (if m.validE = 0 then m.tra else []), .int m.validE]) := by
  refine PCx_of (go_cover_Transitions rfl ?_)
  by_cases hv : m.validE = 0
  · have hm := mvalidE_ok hv
    obtain ⟨hs1, hs2⟩ := hm.states
    obtain ⟨hi1, hi2⟩ := hm.inputs
    have hq := places_ok m hm m.start hm.start
    have hqn := hq.le
    have hA := Acc_s m h
    rw [acc_ok hv] at hA
    rw [if_pos hv]
    simp [-List.map_map, hA, hv]
    have hwl : ∀ w ∈ (m.places m.start).map (·.2), (w.length : Int) ≤ 1000 := fun w hw => by
      obtain ⟨p, hp, rfl⟩ := List.mem_map.1 hw
      obtain ⟨i, hi, rfl⟩ := List.mem_iff_getElem.1 hp
      have := hq.len i (by omega) (by omega)
      rw [ix_nat hi] at this; omega
    have htr : m.tra = m.exts ((m.places m.start).map (·.2)) := rfl
    rw [htr]
    have hwn : (((m.places m.start).map (·.2)).length : Int) ≤ 128 := by simp; omega
    have hpl : (m.places m.start).length = ((m.places m.start).map (·.2)).length := by simp
    have hsrt := Sorted_s m.tra (by have := (tra_fit m hm).1; omega) fun w hw => by have := (tra_fit m hm).2 w hw; omega
    rw [tra_sort m hm, htr] at hsrt
    rw [hpl]
    generalize (m.places m.start).map (·.2) = ws at *
    refine W_iter (fun i : Nat => [(4, .int i), (9, .sl 0 (m.exts (ws.take i)).length 0 (m.exts (ws.take i)).length)]) (fun i => [loutL (m.exts (ws.take i))]) (fun i => i ≤ ws.length) (fun i => ws.length - i) 0 (by simp [sets, Mly.exts]) (by omega) ?_
    intro i hi1
    by_cases hi : i < ws.length
    · have hwi := hwl _ (ix_mem (l := ws) (n := (i : Int)) (by omega) (by omega))
      have tk : ws.take (i + 1) = ws.take i ++ [ix ws (i : Int)] := by rw [List.take_add_one, List.getElem?_eq_getElem hi, ix_nat hi]; rfl
      have hml := mul_small (P := i) (c := m.inputs) (by omega) hi2 (by omega)
      have hel : (m.exts (ws.take i)).length ≤ 8192 := by rw [exts_len, List.length_take, Nat.min_eq_left (by omega)]; exact hml
      simp [-More_nor, hi]
      generalize hL : m.exts (ws.take i) = L0 at *
      (repeat' apply And.intro) <;> try omega
      refine W_iter (fun a : Nat => [(7, .int a), (9, .sl 0 (L0.length + a) 0 (L0.length + a))]) (fun a => [loutL (L0 ++ (List.range a).map fun (b : Nat) => ix ws (i : Int) ++ [(b : Int)])]) (fun a => a ≤ m.inputs.toNat) (fun a => m.inputs.toNat - a) 0 (by simp [sets]) (by omega) ?_
      intro a ha1
      by_cases ha : a < m.inputs.toNat
      · have hx := join_l (ix ws (i : Int)) (a : Int) (by omega)
        simp [-More_nor, show (a : Int) < m.inputs by omega, hi, hx]
        refine ⟨by split <;> simp, by omega, by omega, More_of (a + 1) (by simp [Nat.add_assoc]) (by simp [List.range_succ, loutL]) (by omega) (by omega)⟩
      · simp [-More_nor, show ¬ (a : Int) < m.inputs by omega]
        have hE : m.exts (ws.take (i + 1)) = L0 ++ (List.range a).map fun (b : Nat) => ix ws (i : Int) ++ [(b : Int)] := by rw [tk, exts_app, exts_one, hL, show a = m.inputs.toNat by omega]
        refine ⟨by omega, More_of (i + 1) (by simp [hE]) (by rw [hE]) (by omega) (by omega)⟩
    · have ei : i = ws.length := by omega
      subst ei
      rw [List.take_length]
      have v2 := vd_loutL (σ := [loutL (m.exts ws)]) (b := 0) (out := m.exts ws) rfl
      simp
      refine W_frzL rfl ?_
      simp [hsrt]
  · rw [if_neg hv]
    have hA := Acc_s m h
    rw [acc_no hv] at hA
    simp [hA, hv]
end Ab
