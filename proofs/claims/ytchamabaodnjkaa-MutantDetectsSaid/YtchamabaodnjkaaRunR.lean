/- Runs of a machine by the document; equality of lists. Condition: none. -/
import Derived.Test.YtchamabaodnjkaaFrom
import Derived.Test.YtchamabaodnjkaaInts
set_option linter.all false
set_option maxRecDepth 100000
set_option maxHeartbeats 4000000
namespace Ab
theorem SEq_s (a b : List Int) (ha : (a.length : Int) ≤ 1000000) (hb : (b.length : Int) ≤ 9223372036854775807) : PC F_slices_Equal_Sint_int [iL a, iL b] = some (.bool (decide (a = b))) := by
  refine PCx_of (go_slices_Equal_Sint_int rfl ?_)
  by_cases hl : a.length = b.length
  · simp [hl]
    refine W_iter (fun i : Int => [(2, .int i)]) (fun _ => []) (fun i => 0 ≤ i ∧ i ≤ b.length ∧ ∀ j, 0 ≤ j → j < i → ix a j = ix b j) (fun i => (b.length - i).toNat) 0 rfl ⟨by omega, by omega, upto_zero⟩ fun i ⟨i0, i1, i2⟩ => ?_
    by_cases hi : i < a.length
    · have hib : i < (b.length : Int) := by omega
      simp [-More_nor, hl, hib, i0]
      refine ⟨fun h => ⟨by omega, More_of (i + 1) rfl rfl ⟨by omega, by omega, upto_succ h i2⟩ (by omega)⟩, fun h e => ?_⟩
      subst e; exact h rfl
    · have hib : ¬ i < (b.length : Int) := by omega
      have e := ext_ix hl fun j j0 j1 => i2 j j0 (by omega)
      simp [hl, hib]
      exact e
  · have hl' : ¬ (a.length : Int) = b.length := by omega
    have he : ¬ a = b := fun e => hl (by rw [e])
    simp [hl', he, hl]
theorem ROuts_s (m : Mly) (hm : m.Ok) (s : Int) (hs : 0 ≤ s ∧ s < (m.next.length : Int)) (w : List Int) (hl : (w.length : Int) ≤ 1000000) (hw : ∀ x ∈ w, 0 ≤ x ∧ x < m.inputs) : PC F_ref06_Outs [m.av, .int s, iL w] = some (.tup [iL (m.outs s w), .int (m.run s w)]) := by
  refine PCx_of (go_ref06_Outs rfl ?_)
  simp
  refine W_iter (fun i : Nat => [(1, .int (m.run s (w.take i))), (3, .int i), (4, .sl 0 i 0 i)]) (fun i => [louI (m.outs s (w.take i))]) (fun i => i ≤ w.length) (fun i => w.length - i) 0 (by simp [sets, Mly.run, Mly.outs]) (by omega) ?_
  intro i hi1
  have hml := hm.len
  by_cases hi : i < w.length
  · have tk := take_snoc hi
    have hxs : ∀ x ∈ w.take i, 0 ≤ x ∧ x < m.inputs := fun x hx => hw x (List.mem_of_mem_take hx)
    have hr := run_rng hm hs hxs
    have ha := hw _ (ix_mem (l := w) (n := (i : Int)) (by omega) (by omega))
    have ho : (m.outs s (w.take i)).length = i := by rw [outs_len, List.length_take, Nat.min_eq_left (by omega)]
    have e1 : m.run s (w.take (i + 1)) = ix (ix m.next (m.run s (w.take i))) (ix w (i : Int)) := by rw [tk, run_app]; rfl
    have e2 : m.outs s (w.take (i + 1)) = m.outs s (w.take i) ++ [ix (ix m.out (m.run s (w.take i))) (ix w (i : Int))] := by rw [tk, outs_app]; rfl
    generalize m.outs s (w.take i) = O at *
    generalize m.run s (w.take i) = R at *
    have hrow := hm.row R hr.1 hr.2
    have hro : R < (m.out.length : Int) := by omega
    simp [-More_nor, hi, hr.1, hr.2, hro, ha.1, ha.2, hrow.1, hrow.2, ho]
    refine ⟨by split <;> simp, by omega, by omega, More_of (i + 1) (by simp [e1]) (by rw [e2]; simp) (by omega) (by omega)⟩
  · have ei : i = w.length := by omega
    subst ei
    have hv7 := vd_louI (σ := [louI (m.outs s w)]) (b := 0) (out := m.outs s w) rfl
    rw [outs_len] at hv7
    simp [hv7]
theorem RFrom_s (m : Mly) (h : m.fits) (s : Int) (w : List Int) (hl : (w.length : Int) ≤ 9223372036854775807) : PC F_ref06_From [m.av, .int s, iL w] = some (fromA (m.from s w)) := by
  refine PCx_of (go_ref06_From rfl ?_)
  have e2 := rCheck_s w m.inputs hl
  by_cases hv : m.validE = 0
  · have hm := mvalidE_ok hv
    by_cases hs : s < 0 ∨ (m.next.length : Int) ≤ s
    · have hf : m.from s w = ([], 0, 2) := by unfold Mly.from; rw [if_neg (by simpa using hv), if_pos hs]
      rw [hf]
      by_cases h0 : s < 0
      · simp [rmValid_s m h, hv, h0]
      · have h1 : (m.next.length : Int) ≤ s := by omega
        simp [rmValid_s m h, hv, h0, h1]
    · have h0 : ¬ s < 0 := by omega
      have h1 : ¬ (m.next.length : Int) ≤ s := by omega
      by_cases hw : wordE w m.inputs = 0
      · have hf : m.from s w = (m.outs s w, m.run s w, 0) := by unfold Mly.from; rw [if_neg (by simpa using hv), if_neg hs, if_neg (by simpa using hw)]
        rw [hf]
        have hw2 := wordE_ok hw
        have e3 := ROuts_s m hm s (by omega) w (by omega) hw2.2
        simp [rmValid_s m h, hv, h0, h1, e2, hw, e3]
      · have hf : m.from s w = ([], 0, wordE w m.inputs) := by unfold Mly.from; rw [if_neg (by simpa using hv), if_neg hs, if_pos hw]
        rw [hf]
        simp [rmValid_s m h, hv, h0, h1, e2, hw]
  · have hf : m.from s w = ([], 0, m.validE) := by unfold Mly.from; rw [if_pos hv]
    rw [hf]
    simp [rmValid_s m h, hv]
theorem MRun_s (m : Mly) (h : m.fits) (w : List Int) (hl : (w.length : Int) ≤ 9223372036854775807) : PC F_mealy_Run [m.av, iL w] = some (.tup [iL (m.from m.start w).1, .int (m.from m.start w).2.2]) := by
  refine PCx_of (go_mealy_Run rfl ?_)
  simp [From_s m h m.start w hl]
theorem RRun_s (m : Mly) (h : m.fits) (w : List Int) (hl : (w.length : Int) ≤ 9223372036854775807) : PC F_ref06_Run [m.av, iL w] = some (.tup [iL (m.from m.start w).1, .int (m.from m.start w).2.2]) := by
  refine PCx_of (go_ref06_Run rfl ?_)
  simp [RFrom_s m h m.start w hl]
theorem from_len (m : Mly) (s : Int) (w : List Int) : ((m.from s w).1.length : Int) ≤ 1024 := by
  unfold Mly.from
  split
  · simp
  split
  · simp
  split
  · simp
  · rename_i h1 h2 h3
    have := (wordE_ok (w := w) (k := m.inputs) (by simpa using h3)).1
    dsimp only
    rw [outs_len]; exact this
end Ab
