/- Runs of a Mealy machine. Condition: none. -/
import Derived.Test.YtmmkhoncblnicaaBfsOrd
import Derived.Test.YtmmkhoncblnicaaFrz
set_option linter.all false
set_option maxRecDepth 100000
set_option maxHeartbeats 4000000
namespace Ab
theorem move_s (m : Mly) (hm : m.Ok) (x s a : Int) (hs : 0 ≤ s ∧ s < (m.next.length : Int)) (ha : 0 ≤ a ∧ a < m.inputs) : PC F_mealy_machine_move [.agg [.int m.inputs, .int x, iLL m.next, iLL m.out], .int s, .int a] = some (.tup [.int (ix (ix m.next s) a), .int (ix (ix m.out s) a)]) := by
  have hr := hm.row s hs.1 hs.2
  have hl := hm.len
  refine PCx_of (go_mealy_machine_move rfl ?_)
  simp [hs.1, hs.2, ha.1, ha.2, hr.1, hr.2, show s < (m.out.length : Int) by omega]
/-- The outputs. -/
def Mly.outs (m : Mly) : Int → List Int → List Int
  | _, [] => []
  | s, a :: w => ix (ix m.out s) a :: m.outs (ix (ix m.next s) a) w
theorem outs_app {m : Mly} : ∀ {u v : List Int} {s : Int}, m.outs s (u ++ v) = m.outs s u ++ m.outs (m.run s u) v
  | [], _, _ => rfl
  | a :: u, v, s => by simp only [List.cons_append, Mly.outs, Mly.run, outs_app (u := u)]
theorem take_snoc {w : List Int} {k : Nat} (h : k < w.length) : w.take (k + 1) = w.take k ++ [ix w (k : Int)] := by
  rw [List.take_add_one, List.getElem?_eq_getElem h, ix_nat h]; rfl
theorem run_rng {m : Mly} (hm : m.Ok) : ∀ {w : List Int} {s : Int}, (0 ≤ s ∧ s < (m.next.length : Int)) → (∀ x ∈ w, 0 ≤ x ∧ x < m.inputs) → 0 ≤ m.run s w ∧ m.run s w < (m.next.length : Int)
  | [], _, h, _ => h
  | a :: w, s, h, hw => run_rng hm (w := w) (hm.nx s a h.1 h.2 (hw a (by simp)).1 (hw a (by simp)).2) fun x hx => hw x (by simp [hx])
abbrev Mly.rbox (m : Mly) (x s : Int) : Blk := ⟨some 5, [.int m.inputs, .int x, iLL m.next, iLL m.out, .int s], .live⟩
theorem outs_len {m : Mly} : ∀ {w : List Int} {s : Int}, (m.outs s w).length = w.length
  | [], _ => rfl
  | a :: w, s => by simp only [Mly.outs, List.length_cons, outs_len (w := w)]
theorem run_l (m : Mly) (hm : m.Ok) (x s : Int) (hs : 0 ≤ s ∧ s < (m.next.length : Int)) (w : List Int) (hl : (w.length : Int) ≤ 1000000) (hw : ∀ x ∈ w, 0 ≤ x ∧ x < m.inputs) :
    LX L F_mealy_runner_run [.ptr 0 5 0, iL w] [m.rbox x s] (fun v τ => v = .sl 1 w.length 0 w.length ∧ τ = [m.rbox x (m.run s w), louI (m.outs s w)]) := by
  refine go_mealy_runner_run rfl ?_
  simp
  refine W_iter (fun i : Nat => [(2, .int i), (7, .sl 1 i 0 i)]) (fun i => [m.rbox x (m.run s (w.take i)), louI (m.outs s (w.take i))]) (fun i => i ≤ w.length) (fun i => w.length - i) 0 (by simp [sets, Mly.run, Mly.outs]) (by omega) ?_
  intro i hi1
  by_cases hi : i < w.length
  · have tk := take_snoc hi
    have hxs : ∀ x ∈ w.take i, 0 ≤ x ∧ x < m.inputs := fun x hx => hw x (List.mem_of_mem_take hx)
    have hr := run_rng hm hs hxs
    have ha := hw _ (ix_mem (l := w) (n := (i : Int)) (by omega) (by omega))
    have hmv := move_s m hm x (m.run s (w.take i)) (ix w (i : Int)) hr ha
    have ho : (m.outs s (w.take i)).length = i := by rw [outs_len, List.length_take, Nat.min_eq_left (by omega)]
    have e1 : m.run s (w.take (i + 1)) = ix (ix m.next (m.run s (w.take i))) (ix w (i : Int)) := by rw [tk, run_app]; rfl
    have e2 : m.outs s (w.take (i + 1)) = m.outs s (w.take i) ++ [ix (ix m.out (m.run s (w.take i))) (ix w (i : Int))] := by rw [tk, outs_app]; rfl
    generalize m.outs s (w.take i) = O at *
    generalize m.run s (w.take i) = R at *
    simp [-More_nor, hi, hmv, ho]
    refine ⟨by split <;> simp, by omega, by omega, More_of (i + 1) (by simp) (by rw [e1, e2]; simp) (by omega) (by omega)⟩
  · have ei : i = w.length := by omega
    subst ei
    simp
def Mly.from (m : Mly) (s : Int) (w : List Int) : List Int × Int × Int :=
  if m.validE ≠ 0 then ([], 0, m.validE) else if s < 0 ∨ (m.next.length : Int) ≤ s then ([], 0, 2) else if wordE w m.inputs ≠ 0 then ([], 0, wordE w m.inputs) else (m.outs s w, m.run s w, 0)
abbrev fromA (r : List Int × Int × Int) : AV := .tup [iL r.1, .int r.2.1, .int r.2.2]
theorem mstate_s (m : Mly) (h : m.fits) (s : Int) : PC F_mealy_state [m.av, .int s] = some (.int (if m.validE ≠ 0 then m.validE else if s < 0 ∨ (m.next.length : Int) ≤ s then 2 else 0)) := by
  refine PCx_of (go_mealy_state rfl ?_)
  by_cases hv : m.validE = 0
  · by_cases hs : s < 0
    · simp [mValid_s m h, hv, hs]
    · by_cases hs2 : (m.next.length : Int) ≤ s
      · simp [mValid_s m h, hv, hs, hs2]
      · simp [mValid_s m h, hv, hs, hs2]
  · simp [mValid_s m h, hv]
theorem wordE_ok {w : List Int} {k : Int} (h : wordE w k = 0) : (w.length : Int) ≤ 1024 ∧ ∀ x ∈ w, 0 ≤ x ∧ x < k := by
  unfold wordE at h
  split at h
  · simp at h
  split at h
  · simp at h
  split at h
  · simp at h
  rename_i a b c
  exact ⟨by omega, bad_f.1 (by simpa using c)⟩
theorem From_s (m : Mly) (h : m.fits) (s : Int) (w : List Int) (hl : (w.length : Int) ≤ 9223372036854775807) : PC F_mealy_From [m.av, .int s, iL w] = some (fromA (m.from s w)) := by
  refine PCx_of (go_mealy_From rfl ?_)
  have e1 := mstate_s m h s
  have e2 := wCheck_s w m.inputs hl
  by_cases hv : m.validE = 0
  · have hm := mvalidE_ok hv
    by_cases hs : s < 0 ∨ (m.next.length : Int) ≤ s
    · rw [if_neg (by simpa using hv), if_pos hs] at e1
      have hf : m.from s w = ([], 0, 2) := by unfold Mly.from; rw [if_neg (by simpa using hv), if_pos hs]
      rw [hf]
      simp [e1]
    · rw [if_neg (by simpa using hv), if_neg hs] at e1
      by_cases hw : wordE w m.inputs = 0
      · have hf : m.from s w = (m.outs s w, m.run s w, 0) := by unfold Mly.from; rw [if_neg (by simpa using hv), if_neg hs, if_neg (by simpa using hw)]
        rw [hf]
        have hw2 := wordE_ok hw
        obtain ⟨_, _, e3, rfl, rfl⟩ := LX_s (run_l m hm m.start s (by omega) w (by omega) hw2.2)
        have hv7 := vd_louI (σ := [m.rbox m.start (m.run s w), louI (m.outs s w)]) (b := 1) (out := m.outs s w) rfl
        rw [outs_len] at hv7
        simp [e1, e2, hw, e3, hv7]
      · have hf : m.from s w = ([], 0, wordE w m.inputs) := by unfold Mly.from; rw [if_neg (by simpa using hv), if_neg hs, if_pos hw]
        rw [hf]
        simp [e1, e2, hw]
  · rw [if_pos hv] at e1
    have hf : m.from s w = ([], 0, m.validE) := by unfold Mly.from; rw [if_pos hv]
    rw [hf]
    simp [e1, hv]
theorem From_e {m : Mly} (hv : m.validE = 0) {s : Int} (hs : 0 ≤ s ∧ s < (m.next.length : Int)) {w : List Int} : m.from s w = if wordE w m.inputs ≠ 0 then ([], 0, wordE w m.inputs) else (m.outs s w, m.run s w, 0) := by
  unfold Mly.from; rw [if_neg (by simpa using hv), if_neg (by omega)]
end Ab
