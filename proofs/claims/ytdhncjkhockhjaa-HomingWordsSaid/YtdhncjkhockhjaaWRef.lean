/- The words that are no proper prefixes of others. Prefixes and greatest words, by the program. Words, by the document. Condition: none. -/
import Derived.Test.YtdhncjkhockhjaaHomS
import Derived.Test.YtdhncjkhockhjaaMnlT
set_option linter.all false
set_option maxRecDepth 100000
set_option maxHeartbeats 4000000
namespace Ab
end Ab
namespace Ab
/-- How many first symbols are the same. -/
def comN : List Int → List Int → Nat
  | x :: a, y :: b => if x = y then comN a b + 1 else 0
  | _, _ => 0
theorem comN_le : ∀ a b, comN a b ≤ a.length ∧ comN a b ≤ b.length
  | [], b => by simp [comN]
  | _ :: _, [] => by simp [comN]
  | x :: a, y :: b => by
    have := comN_le a b
    unfold comN; split <;> simp <;> omega
theorem comN_eq : ∀ {i : Nat} {a b : List Int}, i ≤ a.length → i ≤ b.length → (∀ j : Nat, j < i → ix a (j : Int) = ix b (j : Int)) → (i = a.length ∨ i = b.length ∨ ix a (i : Int) ≠ ix b (i : Int)) → comN a b = i
  | 0, [], b, _, _, _, _ => by simp [comN]
  | 0, _ :: _, [], _, _, _, _ => by simp [comN]
  | 0, x :: a, y :: b, _, _, _, h => by
    rcases h with h | h | h
    · simp at h
    · simp at h
    · have h : ¬ x = y := h
      unfold comN; rw [if_neg h]
  | i + 1, [], b, h, _, _, _ => by simp at h
  | i + 1, _ :: _, [], _, h, _, _ => by simp at h
  | i + 1, x :: a, y :: b, h1, h2, h3, h4 => by
    have hs : ∀ (l : List Int) (z : Int) (j : Nat), ix (z :: l) ((j + 1 : Nat) : Int) = ix l (j : Int) := fun l z j => by simp [ix]
    have e0 := h3 0 (by omega)
    have e0 : x = y := e0
    unfold comN
    rw [if_pos e0, comN_eq (i := i) (by simpa using h1) (by simpa using h2) (fun j hj => by have := h3 (j + 1) (by omega); rwa [hs, hs] at this) ?_]
    rw [hs, hs] at h4
    simpa using h4
theorem wlex_s (a b : List Int) (ha : (a.length : Int) ≤ 9223372036854775807) (hb : (b.length : Int) ≤ 9223372036854775807) : PC F_word_Lex [iL a, iL b] = some (.int (lexC a b)) := by
  refine PCx_of (go_word_Lex rfl ?_)
  simp [scmp_s a b ha hb]
end Ab
namespace Ab
theorem rcommon_s (a b : List Int) (ha : (a.length : Int) ≤ 9223372036854775807) (hb : (b.length : Int) ≤ 9223372036854775807) : PC F_ref01_Common [iL a, iL b] = some (.int (comN a b)) := by
  refine PCx_of (go_ref01_Common rfl ?_)
  simp
  refine W_iter (fun i : Nat => [(2, .int i)]) (fun _ => []) (fun i => i ≤ a.length ∧ i ≤ b.length ∧ ∀ j : Nat, j < i → ix a (j : Int) = ix b (j : Int)) (fun i => a.length - i) 0 (by simp [sets]) ⟨by omega, by omega, fun j h => by omega⟩ fun i ⟨i0, i1, i2⟩ => ?_
  by_cases hi : i < a.length
  · by_cases hj : i < b.length
    · simp [-More_nor, hi, hj]
      refine ⟨fun h => ⟨by omega, More_of (i + 1) (by simp) rfl ⟨by omega, by omega, fun j hj => ?_⟩ (by omega)⟩, fun h => ?_⟩
      · by_cases e : j = i
        · subst e; exact h
        · exact i2 j (by omega)
      · rw [comN_eq i0 i1 i2 (.inr (.inr h))]
    · have e : comN a b = i := comN_eq i0 i1 i2 (by omega)
      simp [hi, hj, e]
  · have e : comN a b = i := comN_eq i0 i1 i2 (by omega)
    simp [hi, e]
theorem lexC_com : ∀ (a b : List Int), lexC a b = if comN a b = a.length then (if comN a b = b.length then 0 else -1) else if comN a b < b.length ∧ ix a (comN a b : Int) < ix b (comN a b : Int) then -1 else 1
  | [], [] => by simp [lexC, comN]
  | [], _ :: _ => by simp [lexC, comN]
  | _ :: _, [] => by simp [lexC, comN]
  | x :: a, y :: b => by
    have ih := lexC_com a b
    have hs : ∀ (l : List Int) (z : Int) (j : Nat), ix (z :: l) ((j + 1 : Nat) : Int) = ix l (j : Int) := fun l z j => by simp [ix]
    unfold lexC comN
    by_cases e : x = y
    · subst e
      rw [if_neg (by omega), if_neg (by omega), if_pos rfl, ih, hs, hs]
      simp
    · rw [if_neg e]
      have hx : ix (x :: a) ((0 : Nat) : Int) = x := rfl
      have hy : ix (y :: b) ((0 : Nat) : Int) = y := rfl
      rw [hx, hy]
      by_cases h : x < y
      · simp [h]
      · simp [h]; omega
theorem rlex_s (a b : List Int) (ha : (a.length : Int) ≤ 9223372036854775807) (hb : (b.length : Int) ≤ 9223372036854775807) : PC F_ref01_Lex [iL a, iL b] = some (.int (lexC a b)) := by
  refine PCx_of (go_ref01_Lex rfl ?_)
  have hle := comN_le a b
  have hc := rcommon_s a b ha hb
  have hx := lexC_com a b
  generalize comN a b = n at *
  by_cases h1 : n = a.length
  · by_cases h2 : n = b.length
    · rw [if_pos h1, if_pos h2] at hx
      simp [hc, hx, show (n : Int) = a.length by omega, show (n : Int) = b.length by omega, show (a.length : Int) = b.length by omega]
    · rw [if_pos h1, if_neg h2] at hx
      simp [hc, hx, show (n : Int) = a.length by omega, show ¬ (a.length : Int) = b.length by omega]
  · rw [if_neg h1] at hx
    by_cases h2 : n < b.length ∧ ix a (n : Int) < ix b (n : Int)
    · rw [if_pos h2] at hx
      simp [hc, hx, show ¬ (n : Int) = a.length by omega, h2.1, h2.2, show n < a.length by omega]
    · rw [if_neg h2] at hx
      by_cases h3 : n < b.length
      · simp [hc, hx, show ¬ (n : Int) = a.length by omega, h3, show n < a.length by omega, show ¬ ix a (n : Int) < ix b (n : Int) from fun h => h2 ⟨h3, h⟩]
      · simp [hc, hx, show ¬ (n : Int) = a.length by omega, h3, show n < a.length by omega]
end Ab
