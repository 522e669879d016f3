/- Prefixes and greatest words, by the program. Condition: none. -/
import Derived.Test.YtkedjdfangojmaaMaxW
import Derived.Test.YtkedjdfangojmaaFrz
set_option linter.all false
set_option maxRecDepth 100000
set_option maxHeartbeats 4000000
namespace Ab
/-- How many first symbols are the same. -/
def comN : List Int → List Int → Nat
  | x :: a, y :: b => if x = y then comN a b + 1 else 0
  | _, _ => 0
theorem comN_le : ∀ a b, comN a b ≤ a.length ∧ comN a b ≤ b.length
  | [], b => by simp [comN]
  | _ :: _, [] => by simp [comN]
  | x :: a, y :: b => by
    have := comN_le a b
    unfold comN; split <;> simp <;> omega
theorem comN_eq : ∀ {i : Nat} {a b : List Int}, i ≤ a.length → i ≤ b.length → (∀ j : Nat, j < i → ix a (j : Int) = ix b (j : Int)) → (i = a.length ∨ i = b.length ∨ ix a (i : Int) ≠ ix b (i : Int)) → comN a b = i
  | 0, [], b, _, _, _, _ => by simp [comN]
  | 0, _ :: _, [], _, _, _, _ => by simp [comN]
  | 0, x :: a, y :: b, _, _, _, h => by
    rcases h with h | h | h
    · simp at h
    · simp at h
    · have h : ¬ x = y := h
      unfold comN; rw [if_neg h]
  | i + 1, [], b, h, _, _, _ => by simp at h
  | i + 1, _ :: _, [], _, h, _, _ => by simp at h
  | i + 1, x :: a, y :: b, h1, h2, h3, h4 => by
    have hs : ∀ (l : List Int) (z : Int) (j : Nat), ix (z :: l) ((j + 1 : Nat) : Int) = ix l (j : Int) := fun l z j => by simp [ix]
    have e0 := h3 0 (by omega)
    have e0 : x = y := e0
    unfold comN
    rw [if_pos e0, comN_eq (i := i) (by simpa using h1) (by simpa using h2) (fun j hj => by have := h3 (j + 1) (by omega); rwa [hs, hs] at this) ?_]
    rw [hs, hs] at h4
    simpa using h4
theorem com_pre : ∀ {w p : List Int}, comN w p = p.length ↔ p <+: w
  | [], [] => by simp [comN]
  | [], _ :: _ => by simp [comN]
  | _ :: _, [] => by simp [comN]
  | x :: w, y :: p => by
    have := com_pre (w := w) (p := p)
    unfold comN
    rw [List.cons_prefix_cons]
    by_cases e : x = y
    · rw [if_pos e]; simp [e, this]
    · rw [if_neg e]; simp; intro h; exact absurd h.symm e
theorem common_s (a b : List Int) (ha : (a.length : Int) ≤ 9223372036854775807) (hb : (b.length : Int) ≤ 9223372036854775807) : PC F_word_Common [iL a, iL b] = some (.int (comN a b)) := by
  refine PCx_of (go_word_Common rfl ?_)
  simp
  refine W_iter (fun i : Nat => [(2, .int i)]) (fun _ => []) (fun i => i ≤ a.length ∧ i ≤ b.length ∧ ∀ j : Nat, j < i → ix a (j : Int) = ix b (j : Int)) (fun i => a.length - i) 0 (by simp [sets]) ⟨by omega, by omega, fun j h => by omega⟩ fun i ⟨i0, i1, i2⟩ => ?_
  by_cases hi : i < a.length ∧ i < b.length
  · simp [-More_nor, hi.1, hi.2, show (i : Int) < min (a.length : Int) b.length by omega]
    refine ⟨fun h => ⟨by omega, More_of (i + 1) (by simp) rfl ⟨by omega, by omega, fun j hj => ?_⟩ (by omega)⟩, fun h => ?_⟩
    · by_cases e : j = i
      · subst e; exact h
      · exact i2 j (by omega)
    · rw [comN_eq i0 i1 i2 (.inr (.inr h))]
  · have e : comN a b = i := comN_eq i0 i1 i2 (by omega)
    simp [show ¬ (i : Int) < min (a.length : Int) b.length by omega, e]
    omega
theorem hasPre_s (w p : List Int) (ha : (w.length : Int) ≤ 9223372036854775807) (hb : (p.length : Int) ≤ 9223372036854775807) : PC F_word_HasPrefix [iL w, iL p] = some (.bool (decide (p <+: w))) := by
  refine PCx_of (go_word_HasPrefix rfl ?_)
  simp [common_s w p ha hb]
  have := com_pre (w := w) (p := p)
  constructor
  · intro h; exact this.1 (by omega)
  · intro h; have := this.2 h; omega
theorem wlex_s (a b : List Int) (ha : (a.length : Int) ≤ 9223372036854775807) (hb : (b.length : Int) ≤ 9223372036854775807) : PC F_word_Lex [iL a, iL b] = some (.int (lexC a b)) := by
  refine PCx_of (go_word_Lex rfl ?_)
  simp [scmp_s a b ha hb]
theorem cmpF_lex : CmpF F_word_Lex lexC := ⟨lexC_ok, fun a b ha hb => wlex_s a b (by omega) (by omega), .inr rfl⟩
/-- Sorted twice: the greatest words. -/
theorem ordLex_s (ws : List (List Int)) (hl : (ws.length : Int) ≤ 1000000) (hw : fitW ws) : PC F_wordset_ordered [iLL ws, .func F_word_Lex []] = some (iLL (sortUG lexC ws)) := ordered_s cmpF_lex ws hl hw
theorem Maximal_s (ws : List (List Int)) (hl : (ws.length : Int) ≤ 1000000) (hw : fitW ws) : PC F_wordset_Maximal [iLL ws] = some (iLL (maxW ws)) := by
  refine PCx_of (go_wordset_Maximal rfl ?_)
  have hord := ordLex_s ws hl hw
  have hasc := sortUG_asc lexC_ok ws
  have hmem : ∀ w, w ∈ sortUG lexC ws ↔ w ∈ ws := fun w => sortUG_mem
  have hlen : (sortUG lexC ws).length ≤ ws.length := by
    have := compW_len (sortG lexC ws)
    rwa [sortG_len] at this
  simp [hord]
  generalize sortUG lexC ws = all at *
  refine W_iter (fun p : Nat × List (List Int) => [(2, .int p.1), (7, .sl 0 p.2.length 0 p.2.length)]) (fun p => [loutL p.2]) (fun p => p.1 ≤ all.length ∧ p.2.length ≤ p.1 ∧ ∀ w, w ∈ p.2 ↔ ∃ j : Nat, j < p.1 ∧ ix all (j : Int) = w ∧ ∀ v ∈ ws, w ≠ v → ¬ w <+: v) (fun p => all.length - p.1) (0, []) (by simp [sets]) ⟨by simp, by simp, fun w => by simp⟩ ?_
  rintro ⟨i, out⟩ ⟨i0, i1, i2⟩
  dsimp only at i0 i1 i2 ⊢
  by_cases hi : i < all.length
  · have nt := next_tells hasc hmem (i := (i : Int)) (by omega) (by omega)
    have keep : (∀ v ∈ ws, ix all (i : Int) ≠ v → ¬ ix all (i : Int) <+: v) → ∀ w, w ∈ out ++ [ix all (i : Int)] ↔ ∃ j : Nat, j < i + 1 ∧ ix all (j : Int) = w ∧ ∀ v ∈ ws, w ≠ v → ¬ w <+: v := fun h w => by
      rw [List.mem_append, i2]
      constructor
      · rintro (⟨j, j0, j1, j2⟩ | h')
        · exact ⟨j, by omega, j1, j2⟩
        · simp at h'; subst h'; exact ⟨i, by omega, rfl, h⟩
      · rintro ⟨j, j0, j1, j2⟩
        by_cases e : j = i
        · subst e; right; simp [j1]
        · exact .inl ⟨j, by omega, j1, j2⟩
    have drop : ¬ (∀ v ∈ ws, ix all (i : Int) ≠ v → ¬ ix all (i : Int) <+: v) → ∀ w, w ∈ out ↔ ∃ j : Nat, j < i + 1 ∧ ix all (j : Int) = w ∧ ∀ v ∈ ws, w ≠ v → ¬ w <+: v := fun h w => by
      rw [i2]
      constructor
      · rintro ⟨j, j0, j1, j2⟩; exact ⟨j, by omega, j1, j2⟩
      · rintro ⟨j, j0, j1, j2⟩
        by_cases e : j = i
        · subst e; rw [← j1] at j2; exact absurd j2 h
        · exact ⟨j, by omega, j1, j2⟩
    have hwi := hw _ ((hmem _).1 (ix_mem (l := all) (n := (i : Int)) (by omega) (by omega)))
    by_cases hn : i + 1 < all.length
    · have hwj := hw _ ((hmem _).1 (ix_mem (l := all) (n := (i : Int) + 1) (by omega) (by omega)))
      have hp := hasPre_s (ix all ((i : Int) + 1)) (ix all (i : Int)) (by omega) (by omega)
      simp [-More_nor, hi, hp, show ¬ (i : Int) + 1 = all.length by omega, show (i : Int) + 1 < all.length by omega]
      refine ⟨by omega, by omega, fun hpre => ⟨by omega, More_of (i + 1, out) (by simp) rfl ⟨by dsimp only; omega, by dsimp only; omega, drop fun h => ?_⟩ (by dsimp only; omega)⟩, fun hnp => ⟨by split <;> simp, by omega, by omega, More_of (i + 1, out ++ [ix all (i : Int)]) (by simp) (by simp [loutL]) ⟨by dsimp only; omega, by simp; omega, keep (nt.1 (.inr hnp))⟩ (by dsimp only; omega)⟩⟩
      rcases nt.2 h with e | e
      · omega
      · exact e hpre
    · simp [-More_nor, hi, show (i : Int) + 1 = all.length by omega]
      refine ⟨by omega, by split <;> simp, by omega, by omega, More_of (i + 1, out ++ [ix all (i : Int)]) (by simp; omega) (by simp [loutL]) ⟨by dsimp only; omega, by simp; omega, keep (nt.1 (.inl (by omega)))⟩ (by dsimp only; omega)⟩
  · have hs := Sorted_s out (by omega) fun w h => by
      obtain ⟨j, j0, j1, _⟩ := (i2 w).1 h
      rw [← j1]
      exact hw _ ((hmem _).1 (ix_mem (by omega) (by omega)))
    have ek : sortU out = maxW ws := keep_sort fun w => by
      rw [i2]
      constructor
      · rintro ⟨j, j0, j1, j2⟩; exact ⟨by rw [← j1]; exact (hmem _).1 (ix_mem (by omega) (by omega)), j2⟩
      · rintro ⟨h1, h2⟩
        obtain ⟨j, hj, e⟩ := List.mem_iff_getElem.1 ((hmem w).2 h1)
        exact ⟨j, by omega, by rw [ix_nat hj]; exact e, h2⟩
    rw [ek] at hs
    simp [hi]
    refine W_frzL rfl ?_
    simp [hs]
end Ab
