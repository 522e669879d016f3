/- The law on survivors. Condition: none. -/
import Derived.Test.YtchamabaodnjkaaMutI
import Derived.Test.YtchamabaodnjkaaC33Alls
set_option linter.all false
set_option maxRecDepth 100000
set_option maxHeartbeats 4000000
namespace Ab
def Mly.small (m : Mly) : Bool := !m.great && decide ((m.next.length : Int) ≤ 8) && decide (m.inputs ≤ 4)
theorem Small_s (m : Mly) (h : m.fits) : PC F_law11_Small [m.av] = some (.bool m.small) := by
  refine PCx_of (go_law11_Small rfl ?_)
  unfold Mly.small
  cases hg : m.great with
  | true => simp [Great_s m h, hg]
  | false =>
    by_cases h1 : (m.next.length : Int) ≤ 8
    · simp [Great_s m h, hg, h1]
    · simp [Great_s m h, hg, h1]
theorem few_s (ws : List (List Int)) (hl : (ws.length : Int) ≤ 9223372036854775807) : ∃ b, PC F_law33_few [iLL ws] = some (.bool b) ∧ (b = true → (ws.length : Int) ≤ 30 ∧ ∀ w ∈ ws, (w.length : Int) ≤ 30) := by
  by_cases h3 : 30 < (ws.length : Int)
  · refine ⟨false, PCx_of (go_law33_few rfl ?_), by simp⟩
    simp [h3]
  have key : LX L F_law33_few [iLL ws] [] (fun v _ => v = .bool (ws.all fun w => decide ((w.length : Int) ≤ 30))) := by
    refine go_law33_few rfl ?_
    simp [h3]
    refine W_iter (fun i : Int => [(1, .int i)]) (fun _ => []) (fun i => 0 ≤ i ∧ i ≤ ws.length ∧ ∀ j, 0 ≤ j → j < i → ((ix ws j).length : Int) ≤ 30) (fun i => (ws.length - i).toNat) 0 rfl ⟨by omega, by omega, upto_zero⟩ fun i ⟨i0, i1, i2⟩ => ?_
    by_cases hi : i < ws.length
    · simp [-More_nor, hi, i0]
      refine ⟨fun h => ?_, fun h => ⟨by omega, More_of (i + 1) rfl rfl ⟨by omega, by omega, upto_succ (by omega) i2⟩ (by omega)⟩⟩
      exact ⟨_, ix_mem i0 hi, h⟩
    · have e : (ws.all fun w => decide ((w.length : Int) ≤ 30)) = true := by
        rw [List.all_eq_true]
        intro w hw
        obtain ⟨j, hj, rfl⟩ := List.mem_iff_getElem.1 hw
        have := i2 j (by omega) (by omega)
        rw [ix_nat hj] at this
        simpa using this
      simp [hi]
      simpa using e
  obtain ⟨v, σ', h1, rfl⟩ := LX_s key
  refine ⟨_, by simp only [PC, PCx, h1]; rfl, fun h => ⟨by omega, fun w hw => ?_⟩⟩
  rw [List.all_eq_true] at h
  simpa using h w hw
theorem allL_len {m : Mly} : (m.allL.length : Int) ≤ 10000 := by
  unfold Mly.allL
  split
  · simp
  · rename_i h
    obtain ⟨_, _, h⟩ := allE_val (m := m) (by simpa using h)
    omega
theorem survL_len {m : Mly} {ws : List (List Int)} : ((m.survL ws).length : Int) ≤ 10000 := by
  unfold Mly.survL
  split
  · simp
  · have := List.length_filter_le (mlive m ws) m.allL
    have := allL_len (m := m)
    omega
theorem MutantSurvivors_l (aw : PC F_law33_exampleHolds [] = some (.bool true)) (m : Mly) (h : m.fits) (ws : List (List Int)) (hw : okII ws) : PC F_law33_MutantSurvivors [m.av, iLL ws] = some (.bool true) := by
  refine PCx_of (go_law33_MutantSurvivors rfl ?_)
  have hws : ∀ w ∈ ws, (w.length : Int) ≤ 9223372036854775807 := fun w h => (hw.2 w h).1
  have e1 := Survivors_s m h ws hw.1 hws
  have e2 := RSurvivors_s m h ws hw.1 hws
  have e3 := Mut_same (m.survL ws) (by have := survL_len (m := m) (ws := ws); omega)
  have e4 := Small_s m h
  obtain ⟨b, e5, _⟩ := few_s ws hw.1
  cases hs : m.small with
  | false => simp [e4, hs, aw]
  | true =>
    by_cases h6 : 6 < (m.next.length : Int)
    · simp [e4, hs, aw, h6]
    · by_cases h7 : 3 < m.inputs
      · simp [e4, hs, aw, h6, h7]
      · cases b with
        | false => simp [e4, hs, aw, h6, h7, e5]
        | true => simp [e4, hs, aw, h6, h7, e5, e1, e2, e3]
end Ab
