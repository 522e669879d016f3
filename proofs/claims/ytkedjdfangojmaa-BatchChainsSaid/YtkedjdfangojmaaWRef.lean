/- Words, by the document. Condition: none. -/
import Derived.Test.YtkedjdfangojmaaWMax
set_option linter.all false
set_option maxRecDepth 100000
set_option maxHeartbeats 4000000
namespace Ab
theorem rcommon_s (a b : List Int) (ha : (a.length : Int) ≤ 9223372036854775807) (hb : (b.length : Int) ≤ 9223372036854775807) : PC F_ref01_Common [iL a, iL b] = some (.int (comN a b)) := by
  refine PCx_of (go_ref01_Common rfl ?_)
  simp
  refine W_iter (fun i : Nat => [(2, .int i)]) (fun _ => []) (fun i => i ≤ a.length ∧ i ≤ b.length ∧ ∀ j : Nat, j < i → ix a (j : Int) = ix b (j : Int)) (fun i => a.length - i) 0 (by simp [sets]) ⟨by omega, by omega, fun j h => by omega⟩ fun i ⟨i0, i1, i2⟩ => ?_
  by_cases hi : i < a.length
  · by_cases hj : i < b.length
    · simp [-More_nor, hi, hj]
      refine ⟨fun h => ⟨by omega, More_of (i + 1) (by simp) rfl ⟨by omega, by omega, fun j hj => ?_⟩ (by omega)⟩, fun h => ?_⟩
      · by_cases e : j = i
        · subst e; exact h
        · exact i2 j (by omega)
      · rw [comN_eq i0 i1 i2 (.inr (.inr h))]
    · have e : comN a b = i := comN_eq i0 i1 i2 (by omega)
      simp [hi, hj, e]
  · have e : comN a b = i := comN_eq i0 i1 i2 (by omega)
    simp [hi, e]
theorem rhasPre_s (w p : List Int) (ha : (w.length : Int) ≤ 9223372036854775807) (hb : (p.length : Int) ≤ 9223372036854775807) : PC F_ref01_HasPrefix [iL w, iL p] = some (.bool (decide (p <+: w))) := by
  refine PCx_of (go_ref01_HasPrefix rfl ?_)
  simp [rcommon_s w p ha hb]
  have := com_pre (w := w) (p := p)
  constructor
  · intro h; exact this.1 (by omega)
  · intro h; have := this.2 h; omega
theorem com_same {a b : List Int} : (a.length = b.length ∧ comN a b = a.length) ↔ a = b := by
  constructor
  · rintro ⟨h1, h2⟩
    have := (com_pre (w := a) (p := b)).1 (by omega)
    exact (this.eq_of_length h1.symm).symm
  · rintro rfl
    exact ⟨rfl, com_pre.2 (List.prefix_refl _)⟩
theorem rsame_s (a b : List Int) (ha : (a.length : Int) ≤ 9223372036854775807) (hb : (b.length : Int) ≤ 9223372036854775807) : PC F_ref01_Same [iL a, iL b] = some (.bool (decide (a = b))) := by
  refine PCx_of (go_ref01_Same rfl ?_)
  have h := com_same (a := a) (b := b)
  by_cases e : a = b
  · subst e
    have := h.2 rfl
    simp [rcommon_s a a ha ha, this.2]
  · by_cases hl : a.length = b.length
    · have : ¬ comN a b = a.length := fun h' => e (h.1 ⟨hl, h'⟩)
      simp [rcommon_s a b ha hb, e, show (a.length : Int) = b.length by omega]
      omega
    · simp [rcommon_s a b ha hb, e, show ¬ (a.length : Int) = b.length by omega]
theorem lexC_com : ∀ (a b : List Int), lexC a b = if comN a b = a.length then (if comN a b = b.length then 0 else -1) else if comN a b < b.length ∧ ix a (comN a b : Int) < ix b (comN a b : Int) then -1 else 1
  | [], [] => by simp [lexC, comN]
  | [], _ :: _ => by simp [lexC, comN]
  | _ :: _, [] => by simp [lexC, comN]
  | x :: a, y :: b => by
    have ih := lexC_com a b
    have hs : ∀ (l : List Int) (z : Int) (j : Nat), ix (z :: l) ((j + 1 : Nat) : Int) = ix l (j : Int) := fun l z j => by simp [ix]
    unfold lexC comN
    by_cases e : x = y
    · subst e
      rw [if_neg (by omega), if_neg (by omega), if_pos rfl, ih, hs, hs]
      simp
    · rw [if_neg e]
      have hx : ix (x :: a) ((0 : Nat) : Int) = x := rfl
      have hy : ix (y :: b) ((0 : Nat) : Int) = y := rfl
      rw [hx, hy]
      by_cases h : x < y
      · simp [h]
      · simp [h]; omega
theorem rlex_s (a b : List Int) (ha : (a.length : Int) ≤ 9223372036854775807) (hb : (b.length : Int) ≤ 9223372036854775807) : PC F_ref01_Lex [iL a, iL b] = some (.int (lexC a b)) := by
  refine PCx_of (go_ref01_Lex rfl ?_)
  have hle := comN_le a b
  have hc := rcommon_s a b ha hb
  have hx := lexC_com a b
  generalize comN a b = n at *
  by_cases h1 : n = a.length
  · by_cases h2 : n = b.length
    · rw [if_pos h1, if_pos h2] at hx
      simp [hc, hx, show (n : Int) = a.length by omega, show (n : Int) = b.length by omega, show (a.length : Int) = b.length by omega]
    · rw [if_pos h1, if_neg h2] at hx
      simp [hc, hx, show (n : Int) = a.length by omega, show ¬ (a.length : Int) = b.length by omega]
  · rw [if_neg h1] at hx
    by_cases h2 : n < b.length ∧ ix a (n : Int) < ix b (n : Int)
    · rw [if_pos h2] at hx
      simp [hc, hx, show ¬ (n : Int) = a.length by omega, h2.1, h2.2, show n < a.length by omega]
    · rw [if_neg h2] at hx
      by_cases h3 : n < b.length
      · simp [hc, hx, show ¬ (n : Int) = a.length by omega, h3, show n < a.length by omega, show ¬ ix a (n : Int) < ix b (n : Int) from fun h => h2 ⟨h3, h⟩]
      · simp [hc, hx, show ¬ (n : Int) = a.length by omega, h3, show n < a.length by omega]
theorem rcmp_s (a b : List Int) (ha : (a.length : Int) ≤ 9223372036854775807) (hb : (b.length : Int) ≤ 9223372036854775807) : PC F_ref01_Compare [iL a, iL b] = some (.int (slxC a b)) := by
  refine PCx_of (go_ref01_Compare rfl ?_)
  have e := rlex_s a b ha hb
  unfold slxC
  by_cases h1 : a.length < b.length
  · simp [h1]
  · by_cases h2 : b.length < a.length
    · simp [h1, h2]
    · simp [h1, h2, e]
end Ab
