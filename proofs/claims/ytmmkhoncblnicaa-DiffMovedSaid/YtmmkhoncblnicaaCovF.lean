/- Access words and transition covers. Condition: none. -/
import Derived.Test.YtmmkhoncblnicaaCovB
import Derived.Test.YtmmkhoncblnicaaSorted
import Derived.Test.YtmmkhoncblnicaaFrz
set_option linter.all false
set_option maxRecDepth 100000
set_option maxHeartbeats 4000000
namespace Ab
/-- Access. -/
def Mly.acc (m : Mly) : List Int × List (List Int) × Int := if m.validE ≠ 0 then ([], [], m.validE) else ((m.places m.start).map (·.1), (m.places m.start).map (·.2), 0)
abbrev accA (r : List Int × List (List Int) × Int) : AV := .tup [iL r.1, iLL r.2.1, .int r.2.2]
theorem acc_ok {m : Mly} (hv : m.validE = 0) : m.acc = ((m.places m.start).map (·.1), (m.places m.start).map (·.2), 0) := by unfold Mly.acc; rw [if_neg (by simpa using hv)]
theorem acc_no {m : Mly} (hv : ¬ m.validE = 0) : m.acc = ([], [], m.validE) := by unfold Mly.acc; rw [if_pos hv]
theorem RAcc_s (m : Mly) (h : m.fits) : PC F_ref10_Access [m.av] = some (accA m.acc) := by
  by_cases hv : m.validE = 0
  · rw [acc_ok hv]; exact RAccess_s m h hv
  · rw [acc_no hv]; exact RAccess_e m h hv
theorem Acc_s (m : Mly) (h : m.fits) : PC F_cover_Access [m.av] = some (accA m.acc) := by
  refine PCx_of (go_cover_Access rfl ?_)
  by_cases hv : m.validE = 0
  · rw [acc_ok hv]
    have hm := mvalidE_ok hv
    obtain ⟨hs1, hs2⟩ := hm.states
    have hp := places_s m hm m.start hm.start
    have hqn := (places_ok m hm m.start hm.start).le
    simp [-List.map_map, mValid_s m h, hv, hp]
    generalize m.places m.start = q at *
    (repeat' apply And.intro) <;> try omega
    refine W_iter (fun i : Nat => [(3, .int i), (6, .sl 0 i 0 i), (8, .sl 1 i 0 i)]) (fun i => [louI ((q.map (·.1)).take i), loutL ((q.map (·.2)).take i)]) (fun i => i ≤ q.length) (fun i => q.length - i) 0 (by simp [sets]) (by omega) ?_
    intro i hi1
    by_cases hi : i < q.length
    · have t1 : (q.map (·.1)).take (i + 1) = (q.map (·.1)).take i ++ [(ix q (i : Int)).1] := by
        rw [List.take_add_one, List.getElem?_map, List.getElem?_eq_getElem hi, ix_nat hi]; rfl
      have t2 : (q.map (·.2)).take (i + 1) = (q.map (·.2)).take i ++ [(ix q (i : Int)).2] := by
        rw [List.take_add_one, List.getElem?_map, List.getElem?_eq_getElem hi, ix_nat hi]; rfl
      have hmin : min i q.length = i := Nat.min_eq_left (by omega)
      simp [-More_nor, -List.map_map, -List.map_take, hi, hmin]
      refine ⟨by split <;> simp, by omega, by split <;> simp, by omega, by omega, More_of (i + 1) (by simp) (by rw [t1, t2]; simp [-List.map_map, -List.map_take]) (by omega) (by omega)⟩
    · have ei : i = q.length := by omega
      subst ei
      have t1 : (q.map (·.1)).take q.length = q.map (·.1) := List.take_of_length_le (by simp)
      have t2 : (q.map (·.2)).take q.length = q.map (·.2) := List.take_of_length_le (by simp)
      rw [t1, t2]
      have v1 := vd_louI (σ := [louI (q.map (·.1)), loutL (q.map (·.2))]) (b := 0) (out := q.map (·.1)) rfl
      have v2 := vd_loutL (σ := [louI (q.map (·.1)), loutL (q.map (·.2))]) (b := 1) (out := q.map (·.2)) rfl
      rw [List.length_map] at v1 v2
      simp [-List.map_map, -List.map_take, v1, v2]
  · rw [acc_no hv]
    simp [mValid_s m h, hv]
/-- The words of the transitions. -/
def Mly.exts (m : Mly) (ws : List (List Int)) : List (List Int) := ws.flatMap fun w => (List.range m.inputs.toNat).map fun (a : Nat) => w ++ [(a : Int)]
theorem exts_app {m : Mly} {u v : List (List Int)} : m.exts (u ++ v) = m.exts u ++ m.exts v := by simp [Mly.exts]
theorem exts_one {m : Mly} {w : List Int} : m.exts [w] = (List.range m.inputs.toNat).map fun (a : Nat) => w ++ [(a : Int)] := by simp [Mly.exts]
theorem exts_len {m : Mly} : ∀ {ws : List (List Int)}, (m.exts ws).length = ws.length * m.inputs.toNat
  | [] => by simp [Mly.exts]
  | w :: ws => by
    have : m.exts (w :: ws) = m.exts [w] ++ m.exts ws := exts_app (u := [w])
    rw [this, List.length_append, exts_len (ws := ws), exts_one, List.length_map, List.length_range, List.length_cons, Nat.succ_mul, Nat.add_comm]
def Mly.tra (m : Mly) : List (List Int) := m.exts ((m.places m.start).map (·.2))
theorem tra_asc (m : Mly) (hm : m.Ok) : asc m.tra := by
  have hb := places_bf m hm m.start hm.start
  unfold Mly.tra Mly.exts asc ascG
  rw [List.pairwise_flatMap]
  refine ⟨fun w _ => ?_, ?_⟩
  · rw [List.pairwise_map]
    exact (List.pairwise_lt_range).imp fun h => slx_same (by omega)
  · rw [List.pairwise_map, List.pairwise_iff_getElem]
    intro i j hi hj hij x hx y hy
    obtain ⟨a, _, rfl⟩ := List.mem_map.1 hx
    obtain ⟨b, _, rfl⟩ := List.mem_map.1 hy
    have := hb.asc i j (by omega) (by omega) (by omega)
    rw [ix_nat hi, ix_nat hj] at this
    exact slx_app this
theorem tra_sort (m : Mly) (hm : m.Ok) : sortU m.tra = m.tra := sortU_eq (tra_asc m hm) fun _ => Iff.rfl
theorem tra_fit (m : Mly) (hm : m.Ok) : (m.tra.length : Int) ≤ 8192 ∧ ∀ w ∈ m.tra, (w.length : Int) ≤ 1000 := by
  have hst := hm.states; have hin := hm.inputs
  have hq := places_ok m hm m.start hm.start
  have hqn := hq.le
  constructor
  · unfold Mly.tra
    rw [exts_len, List.length_map]
    have := mul_small (P := (m.places m.start).length) (c := m.inputs) (by omega) hin.2 (by omega)
    omega
  · intro w hw
    unfold Mly.tra Mly.exts at hw
    obtain ⟨v, hv, hw⟩ := List.mem_flatMap.1 hw
    obtain ⟨a, _, rfl⟩ := List.mem_map.1 hw
    obtain ⟨p, hp, rfl⟩ := List.mem_map.1 hv
    obtain ⟨i, hi, rfl⟩ := List.mem_iff_getElem.1 hp
    have := hq.len i (by omega) (by omega)
    rw [ix_nat hi] at this
    simp; omega
end Ab
