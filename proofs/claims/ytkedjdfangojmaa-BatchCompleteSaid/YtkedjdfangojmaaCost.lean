/- The time of words. Condition: none. -/
import Derived.Test.YtkedjdfangojmaaGrpC
set_option linter.all false
set_option maxRecDepth 100000
set_option maxHeartbeats 4000000
namespace Ab
/-- The cost of a step, and of a reset. -/
structure Lat where
  step : List Int
  rst : Int
  deriving Inhabited
abbrev Lat.av (l : Lat) : AV := .agg [iL l.step, .int l.rst]
structure Lat.fits (l : Lat) : Prop where
  len : (l.step.length : Int) ≤ 9223372036854775807
  st : ∀ x ∈ l.step, -9223372036854775808 ≤ x ∧ x ≤ 9223372036854775807
  rs : -9223372036854775808 ≤ l.rst ∧ l.rst ≤ 9223372036854775807
abbrev tyLat : Ty := .st [.sl .int, .int]
theorem has_Lat {x : AV} (h : tyLat.has x) : ∃ l : Lat, x = l.av ∧ l.fits := by
  obtain ⟨xs, rfl, h⟩ := h
  simp only [Ty.hasL] at h
  obtain ⟨x0, s0, rfl, h0, x1, s1, rfl, h1, rfl⟩ := h
  obtain ⟨a0, rfl, k0⟩ := has_I h0
  obtain ⟨a1, rfl, k1⟩ := has_int h1
  exact ⟨⟨a0, a1⟩, rfl, ⟨k0.1, fun x hx => inR_iff.1 (k0.2 x hx), inR_iff.1 k1⟩⟩
def outC (x : Int) : Bool := decide (x < 0) || decide (1048576 < x)
theorem outC_f {x : Int} : outC x = false ↔ 0 ≤ x ∧ x ≤ 1048576 := by simp [outC]
def Lat.bad (l : Lat) : Bool := outC l.rst || l.step.any outC
theorem lbad_f {l : Lat} : l.bad = false ↔ (0 ≤ l.rst ∧ l.rst ≤ 1048576) ∧ ∀ x ∈ l.step, 0 ≤ x ∧ x ≤ 1048576 := by
  unfold Lat.bad
  rw [Bool.or_eq_false_iff, outC_f, List.any_eq_false]
  constructor
  · rintro ⟨h1, h2⟩; exact ⟨h1, fun x hx => outC_f.1 (by simpa using h2 x hx)⟩
  · rintro ⟨h1, h2⟩; exact ⟨h1, fun x hx => by simpa using outC_f.2 (h2 x hx)⟩
/-- The time of the steps of a word. -/
def Lat.steps (l : Lat) (w : List Int) : Int := w.foldl (fun n a => n + ix l.step a) 0
theorem steps_take {l : Lat} {w : List Int} {i : Nat} (h : i < w.length) : l.steps (w.take (i + 1)) = l.steps (w.take i) + ix l.step (ix w (i : Int)) := by
  unfold Lat.steps
  rw [List.take_add_one, List.getElem?_eq_getElem h, ix_nat h, List.foldl_append]; rfl
def okW (l : Lat) (w : List Int) : Prop := ∀ x ∈ w, 0 ≤ x ∧ x < l.step.length
theorem steps_bd {l : Lat} (hb : l.bad = false) {w : List Int} (hw : okW l w) : ∀ i : Nat, i ≤ w.length → 0 ≤ l.steps (w.take i) ∧ l.steps (w.take i) ≤ 1048576 * (i : Int) := by
  intro i
  induction i with
  | zero => intro _; simp [Lat.steps]
  | succ i ih =>
    intro h
    obtain ⟨h1, h2⟩ := ih (by omega)
    rw [steps_take (by omega)]
    have hx := hw _ (ix_get (l := w) (i := i) (by omega))
    have hy := (lbad_f.1 hb).2 _ (ix_mem (l := l.step) (n := ix w (i : Int)) hx.1 hx.2)
    omega
theorem outside_s (x k : Int) : PC F_device_outside [.int x, .int k] = some (.bool (decide (x < 0) || decide (k < x))) := by
  refine PCx_of (go_device_outside rfl ?_)
  simp
  exact ⟨fun h => .inl h, fun h1 h2 => by omega⟩
theorem costs1_s (x : Int) : PC F_device_costs_1 [.int x] = some (.bool (outC x)) := by
  refine PCx_of (go_device_costs_1 rfl ?_)
  simp [outside_s, outC]
theorem costs_s (l : Lat) (h : l.fits) : PC F_device_costs [l.av] = some (.int (if l.bad = true then 2 else 0)) := by
  refine PCx_of (go_device_costs rfl ?_)
  have hc := ContainsFunc_s l.step F_device_costs_1 [] outC h.len rfl rfl fun x _ => costs1_s x
  have h1 := costs1_s l.rst
  unfold Lat.bad
  cases e1 : outC l.rst <;> cases e2 : l.step.any outC <;> rw [e1] at h1 <;> rw [e2] at hc <;> simp [hc, h1]
theorem rcosts_s (l : Lat) (h : l.fits) : PC F_ref19_costs [l.av] = some (.bool (!l.bad)) := by
  refine PCx_of (go_ref19_costs rfl ?_)
  have hl := h.len
  simp
  refine W_iter (fun i : Nat => [(1, .int i)]) (fun _ => []) (fun i => i ≤ l.step.length ∧ ∀ j : Nat, j < i → outC (ix l.step (j : Int)) = false) (fun i => l.step.length - i) 0 (by simp [sets]) ⟨by omega, fun j h => by omega⟩ ?_
  intro i ⟨i0, i1⟩
  by_cases hi : i < l.step.length
  · cases ho : outC (ix l.step (i : Int)) with
    | true =>
      have hb : l.bad = true := by
        unfold Lat.bad
        rw [List.any_eq_true.2 ⟨_, ix_get hi, ho⟩]; simp
      unfold outC at ho
      simp at ho
      by_cases hn : ix l.step (i : Int) < 0
      · simp [hi, hn, hb]
      · simp [hi, hn, hb, show 1048576 < ix l.step (i : Int) by omega]
    | false =>
      have ho' := outC_f.1 ho
      simp [-More_nor, hi, show ¬ ix l.step (i : Int) < 0 by omega, show ¬ 1048576 < ix l.step (i : Int) by omega]
      (repeat' apply And.intro) <;> try omega
      exact More_of (i + 1) (by simp) rfl ⟨by omega, fun j hj => by
        by_cases e : j = i
        · subst e; exact ho
        · exact i1 j (by omega)⟩ (by omega)
  · have ha : l.step.any outC = false := by
      rw [List.any_eq_false]
      intro x hx
      obtain ⟨j, hj, e⟩ := List.mem_iff_getElem.1 hx
      have := i1 j (by omega)
      rw [ix_nat hj, e] at this
      simp [this]
    have hb : (!l.bad) = (decide (0 ≤ l.rst) && decide (l.rst ≤ 1048576)) := by
      unfold Lat.bad outC
      rw [show (l.step.any fun x => decide (x < 0) || decide (1048576 < x)) = false from ha]
      rw [Bool.eq_iff_iff]; simp
    rw [hb]
    by_cases hn : 0 ≤ l.rst
    · simp [hi, hn]
    · simp [hi, hn]
/-- The time of a word, or the error. -/
def Lat.cost (l : Lat) (w : List Int) : Int × Int := if (l.step.length : Int) < 1 ∨ 64 < (l.step.length : Int) ∨ l.bad = true then (0, 2) else if wordE w l.step.length ≠ 0 then (0, wordE w l.step.length) else (l.rst + l.steps w, 0)
abbrev costA (r : Int × Int) : AV := .tup [.int r.1, .int r.2]
theorem wordE_okC {w : List Int} {k : Int} (h : wordE w k = 0) : (w.length : Int) ≤ 1024 ∧ ∀ x ∈ w, 0 ≤ x ∧ x < k := by
  unfold wordE at h
  split at h
  · omega
  · split at h
    · omega
    · split at h
      · omega
      · rename_i h1 h2 h3
        exact ⟨by omega, bad_f.1 (by simpa using h3)⟩
theorem cost_s (l : Lat) (h : l.fits) (w : List Int) (hw : (w.length : Int) ≤ 9223372036854775807) : PC F_device_Cost [l.av, iL w] = some (costA (l.cost w)) := by
  refine PCx_of (go_device_Cost rfl ?_)
  have hl := h.len
  have hc := costs_s l h
  have hk := wCheck_s w l.step.length hw
  unfold Lat.cost
  by_cases h1 : (l.step.length : Int) < 1
  · simp [h1]
  by_cases h2 : 64 < (l.step.length : Int)
  · simp [h1, h2]
  cases hb : l.bad with
  | true => rw [hb] at hc; simp at hc; simp [h1, h2, hc]
  | false =>
    rw [hb] at hc; simp at hc
    by_cases he : wordE w l.step.length = 0
    · rw [he] at hk
      obtain ⟨hw1, hw2⟩ := wordE_okC he
      have hbd := steps_bd hb (w := w) hw2
      have hr := (lbad_f.1 hb).1
      simp [h1, h2, hc, hk, he]
      refine W_iter (fun i : Nat => [(5, .int i), (8, .int (l.rst + l.steps (w.take i)))]) (fun _ => []) (fun i => i ≤ w.length) (fun i => w.length - i) 0 (by simp [sets, Lat.steps]) (by omega) ?_
      intro i i0
      have b1 := hbd i i0
      by_cases hi : i < w.length
      · have hx := hw2 _ (ix_get (l := w) (i := i) hi)
        have hx1 := hx.1
        have hx2 := hx.2
        have b2 := hbd (i + 1) hi
        have e1 := steps_take (l := l) hi
        simp [-More_nor, hi, hx1, hx2]
        (repeat' apply And.intro) <;> try omega
        exact More_of (i + 1) (by simp [e1]; omega) rfl (by omega) (by omega)
      · have ei : i = w.length := by omega
        subst ei
        simp
    · simp [h1, h2, hc, hk, he]
theorem rcost_s (l : Lat) (h : l.fits) (w : List Int) (hw : (w.length : Int) ≤ 9223372036854775807) : PC F_ref19_Cost [l.av, iL w] = some (costA (l.cost w)) := by
  refine PCx_of (go_ref19_Cost rfl ?_)
  have hl := h.len
  have hc := rcosts_s l h
  have hk := rCheck_s w l.step.length hw
  unfold Lat.cost
  by_cases h1 : (l.step.length : Int) < 1
  · simp [h1]
  by_cases h2 : 64 < (l.step.length : Int)
  · simp [h1, h2]
  cases hb : l.bad with
  | true => rw [hb] at hc; simp at hc; simp [h1, h2, hc]
  | false =>
    rw [hb] at hc; simp at hc
    by_cases he : wordE w l.step.length = 0
    · rw [he] at hk
      obtain ⟨hw1, hw2⟩ := wordE_okC he
      have hbd := steps_bd hb (w := w) hw2
      have hr := (lbad_f.1 hb).1
      simp [h1, h2, hc, hk, he]
      refine W_iter (fun i : Nat => [(4, .int i), (5, .int (l.rst + l.steps (w.take i)))]) (fun _ => []) (fun i => i ≤ w.length) (fun i => w.length - i) 0 (by simp [sets, Lat.steps]) (by omega) ?_
      intro i i0
      have b1 := hbd i i0
      by_cases hi : i < w.length
      · have hx := hw2 _ (ix_get (l := w) (i := i) hi)
        have hx1 := hx.1
        have hx2 := hx.2
        have b2 := hbd (i + 1) hi
        have e1 := steps_take (l := l) hi
        simp [-More_nor, hi, hx1, hx2]
        (repeat' apply And.intro) <;> try omega
        exact More_of (i + 1) (by simp [e1]; omega) rfl (by omega) (by omega)
      · have ei : i = w.length := by omega
        subst ei
        simp
    · simp [h1, h2, hc, hk, he]
def Lat.sum (l : Lat) (ws : List (List Int)) : Int := ws.foldl (fun n w => n + (l.cost w).1) 0
theorem sum_take {l : Lat} {ws : List (List Int)} {i : Nat} (h : i < ws.length) : l.sum (ws.take (i + 1)) = l.sum (ws.take i) + (l.cost (ix ws (i : Int))).1 := by
  unfold Lat.sum
  rw [List.take_add_one, List.getElem?_eq_getElem h, ix_nat h, List.foldl_append]; rfl
/-- The time of words, each after a reset, or the first error. -/
def Lat.total (l : Lat) (ws : List (List Int)) : Int × Int := if (l.cost []).2 ≠ 0 then (0, (l.cost []).2) else if firstN (fun i => (l.cost (ix ws i)).2) ws.length ≠ 0 then (0, firstN (fun i => (l.cost (ix ws i)).2) ws.length) else (l.sum ws, 0)
theorem cost_bd {l : Lat} {w : List Int} : 0 ≤ (l.cost w).1 ∧ (l.cost w).1 ≤ 1074790400 := by
  unfold Lat.cost
  split
  · simp
  · rename_i h1
    split
    · simp
    · rename_i h2
      have hb : l.bad = false := by cases e : l.bad; rfl; simp [e] at h1
      have h3 := wordE_okC (by simpa using h2)
      have h4 := steps_bd hb (w := w) h3.2 w.length (Nat.le_refl _)
      rw [List.take_length] at h4
      have h5 := (lbad_f.1 hb).1
      dsimp only
      omega
theorem sum_bd {l : Lat} {ws : List (List Int)} : ∀ i : Nat, i ≤ ws.length → 0 ≤ l.sum (ws.take i) ∧ l.sum (ws.take i) ≤ 1074790400 * (i : Int) := by
  intro i
  induction i with
  | zero => intro _; simp [Lat.sum]
  | succ i ih =>
    intro h
    have h1 := ih (by omega)
    rw [sum_take (by omega)]
    have := cost_bd (l := l) (w := ix ws (i : Int))
    omega
theorem Cost_s (l : Lat) (h : l.fits) (ws : List (List Int)) (hl : (ws.length : Int) ≤ 1000000) (hw : ∀ w ∈ ws, (w.length : Int) ≤ 9223372036854775807) : PC F_batch_Cost [l.av, iLL ws] = some (costA (l.total ws)) := by
  refine PCx_of (go_batch_Cost rfl ?_)
  have h0 : PC F_device_Cost [l.av, .imm false []] = some (costA (l.cost [])) := cost_s l h [] (by simp)
  unfold Lat.total
  by_cases e0 : (l.cost []).2 = 0
  · simp [h0, e0]
    refine W_iter (fun i : Nat => [(4, .int i), (9, .int (l.sum (ws.take i)))]) (fun _ => []) (fun i => i ≤ ws.length ∧ ∀ j : Int, 0 ≤ j → j < i → (l.cost (ix ws j)).2 = 0) (fun i => ws.length - i) 0 (by simp [sets, Lat.sum]) ⟨by omega, fun j h1 h2 => by omega⟩ ?_
    intro i ⟨i0, i1⟩
    by_cases hi : i < ws.length
    · have hc := cost_s l h _ (hw _ (ix_get (l := ws) (i := i) hi))
      have b1 := sum_bd (l := l) (ws := ws) i i0
      have b2 := sum_bd (l := l) (ws := ws) (i + 1) hi
      have e1 := sum_take (l := l) hi
      by_cases e : (l.cost (ix ws (i : Int))).2 = 0
      · simp [-More_nor, hi, hc, e]
        (repeat' apply And.intro) <;> try omega
        exact More_of (i + 1) (by simp [e1]) rfl ⟨by omega, by
          have := upto_succ (P := fun j => (l.cost (ix ws j)).2 = 0) (i := (i : Int)) e i1
          simpa using this⟩ (by omega)
      · have hf := firstN_some (f := fun i => (l.cost (ix ws i)).2) (n := ws.length) (i := (i : Int)) (by omega) (by omega) e i1
        simp [hi, hc, e, hf]
    · have ei : i = ws.length := by omega
      subst ei
      have hf := firstN_none (f := fun i => (l.cost (ix ws i)).2) (n := ws.length) i1
      simp [hf]
  · simp [h0, e0]
theorem RCost_s (l : Lat) (h : l.fits) (ws : List (List Int)) (hl : (ws.length : Int) ≤ 1000000) (hw : ∀ w ∈ ws, (w.length : Int) ≤ 9223372036854775807) : PC F_ref20_Cost [l.av, iLL ws] = some (costA (l.total ws)) := by
  refine PCx_of (go_ref20_Cost rfl ?_)
  have h0 : PC F_ref19_Cost [l.av, .imm false []] = some (costA (l.cost [])) := rcost_s l h [] (by simp)
  unfold Lat.total
  by_cases e0 : (l.cost []).2 = 0
  · simp [h0, e0]
    refine W_iter (fun i : Nat => [(4, .int i), (6, .int (l.sum (ws.take i)))]) (fun _ => []) (fun i => i ≤ ws.length ∧ ∀ j : Int, 0 ≤ j → j < i → (l.cost (ix ws j)).2 = 0) (fun i => ws.length - i) 0 (by simp [sets, Lat.sum]) ⟨by omega, fun j h1 h2 => by omega⟩ ?_
    intro i ⟨i0, i1⟩
    by_cases hi : i < ws.length
    · have hc := rcost_s l h _ (hw _ (ix_get (l := ws) (i := i) hi))
      have b1 := sum_bd (l := l) (ws := ws) i i0
      have b2 := sum_bd (l := l) (ws := ws) (i + 1) hi
      have e1 := sum_take (l := l) hi
      by_cases e : (l.cost (ix ws (i : Int))).2 = 0
      · simp [-More_nor, hi, hc, e]
        (repeat' apply And.intro) <;> try omega
        exact More_of (i + 1) (by simp [e1]) rfl ⟨by omega, by
          have := upto_succ (P := fun j => (l.cost (ix ws j)).2 = 0) (i := (i : Int)) e i1
          simpa using this⟩ (by omega)
      · have hf := firstN_some (f := fun i => (l.cost (ix ws i)).2) (n := ws.length) (i := (i : Int)) (by omega) (by omega) e i1
        simp [hi, hc, e, hf]
    · have ei : i = ws.length := by omega
      subst ei
      have hf := firstN_none (f := fun i => (l.cost (ix ws i)).2) (n := ws.length) i1
      simp [hf]
  · simp [h0, e0]
end Ab
