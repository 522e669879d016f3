/- The law on schedules. Condition: none. -/
import Derived.Test.YtkedjdfangojmaaRChain
set_option linter.all false
set_option maxRecDepth 100000
set_option maxHeartbeats 4000000
namespace Ab
theorem mgreat_x (m : Mly) (h : m.fits) (l : Lat) (hl : l.fits) : LX L F_ref19_Great [m.av, l.av] [] (fun v _ => ∃ b, v = .bool b) := by
  refine go_ref19_Great rfl ?_
  have hn := h.next.1
  have ho := h.out.1
  have hll := hl.len
  simp
  refine W_iter (fun i : Nat => [(2, .int i)]) (fun _ => []) (fun i => i ≤ m.next.length) (fun i => m.next.length - i) 0 (by simp [sets]) (by omega) ?_
  intro i i0
  have key : ∀ j : Nat, j ≤ m.out.length → (i : Int) ≤ 9223372036854775807 := fun _ _ => by omega
  by_cases hi : i < m.next.length ∧ i < 13
  · by_cases hc : 6 < ((ix m.next (i : Int)).length : Int)
    · simp [hi.1, show (i : Int) < 13 by omega, hc]
    · simp [-More_nor, hi.1, show (i : Int) < 13 by omega, hc]
      (repeat' apply And.intro) <;> try omega
      exact More_of (i + 1) (by simp) rfl (by omega) (by omega)
  · have hcond : ¬ (i : Int) < m.next.length ∨ ((i : Int) < m.next.length ∧ ¬ (i : Int) < 13) := by omega
    rcases hcond with hc | ⟨hc1, hc2⟩
    · simp [-More_nor, show ¬ i < m.next.length by omega]
      refine W_iter (fun k : Nat => [(4, .int k)]) (fun _ => []) (fun k => k ≤ m.out.length) (fun k => m.out.length - k) 0 (by simp [sets]) (by omega) ?_
      intro k k0
      by_cases hk : k < m.out.length ∧ k < 21
      · by_cases hc : 6 < ((ix m.out (k : Int)).length : Int)
        · simp [hk.1, show (k : Int) < 21 by omega, hc]
        · simp [-More_nor, hk.1, show (k : Int) < 21 by omega, hc]
          (repeat' apply And.intro) <;> try omega
          exact More_of (k + 1) (by simp) rfl (by omega) (by omega)
      · have hcond : ¬ (k : Int) < m.out.length ∨ ((k : Int) < m.out.length ∧ ¬ (k : Int) < 21) := by omega
        rcases hcond with hd | ⟨hd1, hd2⟩
        · by_cases q1 : 12 < (m.next.length : Int) <;> by_cases q2 : 20 < (m.out.length : Int) <;> simp [show ¬ k < m.out.length by omega, q1, q2] <;> omega
        · by_cases q1 : 12 < (m.next.length : Int) <;> by_cases q2 : 20 < (m.out.length : Int) <;> simp [show k < m.out.length by omega, hd2, q1, q2] <;> omega
    · simp [-More_nor, show i < m.next.length by omega, hc2]
      refine W_iter (fun k : Nat => [(4, .int k)]) (fun _ => []) (fun k => k ≤ m.out.length) (fun k => m.out.length - k) 0 (by simp [sets]) (by omega) ?_
      intro k k0
      by_cases hk : k < m.out.length ∧ k < 21
      · by_cases hc : 6 < ((ix m.out (k : Int)).length : Int)
        · simp [hk.1, show (k : Int) < 21 by omega, hc]
        · simp [-More_nor, hk.1, show (k : Int) < 21 by omega, hc]
          (repeat' apply And.intro) <;> try omega
          exact More_of (k + 1) (by simp) rfl (by omega) (by omega)
      · have hcond : ¬ (k : Int) < m.out.length ∨ ((k : Int) < m.out.length ∧ ¬ (k : Int) < 21) := by omega
        rcases hcond with hd | ⟨hd1, hd2⟩
        · by_cases q1 : 12 < (m.next.length : Int) <;> by_cases q2 : 20 < (m.out.length : Int) <;> simp [show ¬ k < m.out.length by omega, q1, q2] <;> omega
        · by_cases q1 : 12 < (m.next.length : Int) <;> by_cases q2 : 20 < (m.out.length : Int) <;> simp [show k < m.out.length by omega, hd2, q1, q2] <;> omega
theorem mgreat_s (m : Mly) (h : m.fits) (l : Lat) (hl : l.fits) : ∃ b, PC F_ref19_Great [m.av, l.av] = some (.bool b) := by
  obtain ⟨v, σ', h, e, rfl⟩ := LX_s (mgreat_x m h l hl)
  exact ⟨e, by simp only [PC, PCx, h]; rfl⟩
theorem sameM_s (xs : List Mv) (hl : (xs.length : Int) ≤ 1000000) (hx : ∀ x ∈ xs, (x.path.length : Int) ≤ 1000000 ∧ (x.word.length : Int) ≤ 1000000) : PC F_ref20_SameMoves [mvL xs, mvL xs] = some (.bool true) := by
  refine PCx_of (go_ref20_SameMoves rfl ?_)
  simp
  refine W_iter (fun i : Nat => [(2, .int i)]) (fun _ => []) (fun i => i ≤ xs.length) (fun i => xs.length - i) 0 (by simp [sets]) (by omega) ?_
  intro i i0
  by_cases hi : i < xs.length
  · obtain ⟨h1, h2⟩ := hx _ (ix_get (l := xs) (i := i) hi)
    have hs1 := rsame_s (ix xs (i : Int)).path (ix xs (i : Int)).path (by omega) (by omega)
    have hs2 := rsame_s (ix xs (i : Int)).word (ix xs (i : Int)).word (by omega) (by omega)
    simp at hs1 hs2
    simp [-More_nor, hi, hs1, hs2]
    (repeat' apply And.intro) <;> try omega
    exact More_of (i + 1) (by simp) rfl (by omega) (by omega)
  · simp [hi]
theorem mvs_bd {m : Mly} (hm : m.Ok) {l : Lat} {top : List (List Int)} (ht : ∀ w ∈ top, (w.length : Int) ≤ 1024 ∧ ∀ x ∈ w, 0 ≤ x ∧ x < m.inputs) : ∀ {n : Nat}, n ≤ top.length → ∀ x ∈ m.mvs l top n, (x.path.length : Int) ≤ 1000000 ∧ (x.word.length : Int) ≤ 1000000
  | 0, _, x, h => by simp [Mly.mvs] at h
  | n + 1, hn, x, h => by
    rcases List.mem_append.1 h with h | h
    · exact mvs_bd hm ht (n := n) (by omega) x h
    · simp at h; subst h
      have h1 := (ht _ (ix_get (l := top) (i := n) (by omega))).1
      unfold Mly.mv
      split
      · rename_i hc
        have hrr : 0 ≤ m.run m.start (ix top ((n : Int) - 1)) ∧ m.run m.start (ix top ((n : Int) - 1)) < (m.next.length : Int) := run_rng hm hm.start (ht _ (ix_mem (by omega) (by omega))).2
        have hw := way_ok hm (t := m.start) hrr
        dsimp only
        omega
      · dsimp only
        simp
        omega
theorem BatchChains_l (aw : PC F_law20_awake [] = some (.bool true)) (m : Mly) (h : m.fits) (l : Lat) (hl : l.fits) (ws : List (List Int)) (hw : okII ws) : PC F_law20_BatchChains [m.av, l.av, iLL ws] = some (.bool true) := by
  refine PCx_of (go_law20_BatchChains rfl ?_)
  obtain ⟨b, hg⟩ := mgreat_s m h l hl
  cases b with
  | true => simp [hg, aw]
  | false =>
    obtain ⟨c, hg2, hc⟩ := rgreat_s ws 20 40 (by omega) (by omega) hw.1 (fun w hm => (hw.2 w hm).1)
    cases c with
    | true => simp [hg, hg2, aw]
    | false =>
      obtain ⟨hc1, hc2⟩ := hc rfl
      have hfw : fitW ws := fun w hm => by have := hc2 w hm; omega
      have hC := Chain_s m h l hl ws (by omega) hfw
      have hR := RChain_s m h l hl ws (by omega) hfw
      have hS : PC F_ref20_SameMoves [mvL (m.chain l ws).1, mvL (m.chain l ws).1] = some (.bool true) := by
        unfold Mly.chain
        split
        · exact sameM_s [] (by simp) (by simp)
        · split
          · exact sameM_s [] (by simp) (by simp)
          · split
            · exact sameM_s [] (by simp) (by simp)
            · rename_i e1 e2 e3
              have hm := mvalidE_ok (show m.validE = 0 by simpa using e1)
              have hok := wordsE_ok (ws := ws) (k := m.inputs) (by simpa using e3)
              have htl := maxW_len (ws := ws)
              exact sameM_s _ (by rw [mvs_len]; omega) (mvs_bd hm (fun w hm => hok w (maxW_mem.1 hm).1) (Nat.le_refl _))
      simp [hg, hg2, hC, hR, hS, aw]
end Ab
