/- Comparisons of words. Condition: none. -/
import Derived.Test.YtbpkebkldaifgaaWords
set_option linter.all false
set_option maxRecDepth 100000
set_option maxHeartbeats 4000000
namespace Ab
def cI (x y : Int) : Int := if x < y then -1 else if y < x then 1 else 0
theorem isNaN_s (x : Int) : PC F_cmp_isNaN_int [.int x] = some (.bool false) := by
  refine PCx_of (go_cmp_isNaN_int rfl ?_)
  simp
theorem cmpI_s (x y : Int) : PC F_cmp_Compare_int [.int x, .int y] = some (.int (cI x y)) := by
  refine PCx_of (go_cmp_Compare_int rfl ?_)
  simp [isNaN_s]
  refine ⟨fun h => by simp [cI, h], fun h => ⟨fun k => ?_, fun k => ?_⟩⟩
  · simp [cI, k]; omega
  · simp [cI]; omega
theorem or_s (x y : Int) : PC F_cmp_Or_int [.imm false [.int x, .int y]] = some (.int (if x = 0 then y else x)) := by
  refine PCx_of (go_cmp_Or_int rfl ?_)
  have e : (.imm false [.int x, .int y] : AV) = iL [x, y] := rfl
  rw [e]
  simp only [iL]
  generalize hl : [x, y] = l
  have hlen : l.length = 2 := by rw [← hl]; rfl
  simp [hlen]
  refine W_iter (fun i : Int => [(1, .int i)]) (fun _ => []) (fun i => 0 ≤ i ∧ i ≤ 2 ∧ ∀ j, 0 ≤ j → j < i → ix l j = 0) (fun i => (2 - i).toNat) 0 rfl ⟨by omega, by omega, upto_zero⟩ fun i ⟨i0, i1, i2⟩ => ?_
  have e0 : ix l 0 = x := by rw [← hl]; rfl
  have e1 : ix l 1 = y := by rw [← hl]; rfl
  by_cases hi : i < 2
  · simp [-More_nor, hi, i0, hlen]
    refine ⟨fun h => ⟨by omega, More_of (i + 1) rfl rfl ⟨by omega, by omega, upto_succ h i2⟩ (by omega)⟩, fun h => ?_⟩
    by_cases e : i = 0
    · subst e; rw [e0] at h ⊢; simp [h]
    · have : i = 1 := by omega
      subst this
      have := i2 0 (by omega) (by omega)
      rw [e0] at this
      rw [e1]; simp [this]
  · have h0 := i2 0 (by omega) (by omega)
    have h1 := i2 1 (by omega) (by omega)
    rw [e0] at h0; rw [e1] at h1
    simp [hi, h0, h1]
theorem lex_drop {a b : List Int} {i : Int} (h0 : 0 ≤ i) (h1 : i < a.length) (h2 : i < b.length) : lexC (a.drop i.toNat) (b.drop i.toNat) = if cI (ix a i) (ix b i) = 0 then lexC (a.drop (i + 1).toNat) (b.drop (i + 1).toNat) else cI (ix a i) (ix b i) := by
  rw [drop_ix h0 h1, drop_ix h0 h2]
  unfold cI
  simp only [lexC]
  split
  · simp
  · split <;> simp
theorem scmp_s (a b : List Int) (ha : (a.length : Int) ≤ 9223372036854775807) (hb : (b.length : Int) ≤ 9223372036854775807) : PC F_slices_Compare_Sint_int [iL a, iL b] = some (.int (lexC a b)) := by
  refine PCx_of (go_slices_Compare_Sint_int rfl ?_)
  simp
  refine W_iter (fun i : Int => [(2, .int i)]) (fun _ => []) (fun i => 0 ≤ i ∧ i ≤ a.length ∧ i ≤ b.length ∧ lexC (a.drop i.toNat) (b.drop i.toNat) = lexC a b) (fun i => (a.length - i).toNat) 0 rfl ⟨by omega, by omega, by omega, rfl⟩ fun i ⟨i0, i1, i2, i3⟩ => ?_
  by_cases hi : i < a.length
  · by_cases hj : i < b.length
    · have e := lex_drop i0 hi hj
      rw [i3] at e
      simp [-More_nor, hi, hj, i0, cmpI_s, show ¬ (b.length : Int) ≤ i by omega]
      refine ⟨fun h => ⟨by omega, More_of (i + 1) rfl rfl ⟨by omega, by omega, by omega, by rw [if_pos h] at e; exact e.symm⟩ (by omega)⟩, fun h => by rw [if_neg h] at e; exact e.symm⟩
    · have e : b.drop i.toNat = [] := drop_end (by omega)
      rw [e, drop_ix i0 hi] at i3
      have i3 : (1 : Int) = lexC a b := i3
      simp [-More_nor, hi, hj, i0, show (b.length : Int) ≤ i by omega]
      exact i3
  · have e : a.drop i.toNat = [] := drop_end (by omega)
    rw [e] at i3
    simp [hi]
    by_cases hj : i < b.length
    · rw [drop_ix i0 hj] at i3
      have i3 : (-1 : Int) = lexC a b := i3
      exact ⟨fun _ => i3, fun h => by omega⟩
    · rw [drop_end (by omega)] at i3
      have i3 : (0 : Int) = lexC a b := i3
      exact ⟨fun h => by omega, fun _ => i3⟩
theorem wcmp_s (a b : List Int) (ha : (a.length : Int) ≤ 9223372036854775807) (hb : (b.length : Int) ≤ 9223372036854775807) : PC F_word_Compare [iL a, iL b] = some (.int (slxC a b)) := by
  refine PCx_of (go_word_Compare rfl ?_)
  simp [cmpI_s, scmp_s a b ha hb, or_s]
  unfold slxC cI
  (repeat' split) <;> first | rfl | omega
end Ab
