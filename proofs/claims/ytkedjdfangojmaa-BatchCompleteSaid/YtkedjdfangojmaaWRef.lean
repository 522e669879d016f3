/- The words that are no proper prefixes of others. Prefixes and greatest words, by the program. Words, by the document. Condition: none. -/
import Derived.Test.YtkedjdfangojmaaSorted
import Derived.Test.YtkedjdfangojmaaFrz
set_option linter.all false
set_option maxRecDepth 100000
set_option maxHeartbeats 4000000
namespace Ab
theorem lex_pre : ∀ {w x v : List Int}, lexC w x ≤ 0 → lexC x v ≤ 0 → w <+: v → w <+: x
  | [], x, v, _, _, _ => List.nil_prefix
  | a :: w, [], v, h, _, _ => by simp [lexC] at h
  | a :: w, b :: x, [], _, _, h => by simp at h
  | a :: w, b :: x, c :: v, h1, h2, h => by
    rw [List.cons_prefix_cons] at h
    obtain ⟨rfl, h⟩ := h
    unfold lexC at h1 h2
    rcases Int.lt_trichotomy a b with e | e | e
    · rw [if_neg (by omega), if_pos e] at h2; omega
    · subst e
      simp at h1 h2
      rw [List.cons_prefix_cons]
      exact ⟨rfl, lex_pre h1 h2 h⟩
    · rw [if_neg (by omega), if_pos e] at h1; omega
theorem lex_of_pre : ∀ {w v : List Int}, w <+: v → w ≠ v → lexC w v < 0
  | [], [], _, h => absurd rfl h
  | [], _ :: _, _, _ => by simp [lexC]
  | a :: w, [], h, _ => by simp at h
  | a :: w, c :: v, h, hn => by
    rw [List.cons_prefix_cons] at h
    obtain ⟨rfl, h⟩ := h
    have := lex_of_pre h (fun e => hn (by rw [e]))
    simp [lexC]; exact this
theorem slx_of_pre {w v : List Int} (h : w <+: v) (hn : w ≠ v) : slxC w v < 0 := by
  have hl := h.length_le
  have : w.length < v.length := by
    rcases Nat.lt_or_eq_of_le hl with e | e
    · exact e
    · exact absurd (h.eq_of_length e) hn
  unfold slxC; rw [if_pos this]; omega
/-- No word of the list goes on behind this one. -/
def topW (l : List (List Int)) (w : List Int) : Bool := l.all fun v => !(decide (w ≠ v) && decide (v.take w.length = w))
theorem topW_iff {l : List (List Int)} {w : List Int} : topW l w = true ↔ ∀ v ∈ l, w ≠ v → ¬ w <+: v := by
  unfold topW
  rw [List.all_eq_true]
  refine forall_congr' fun v => forall_congr' fun _ => ?_
  have e : (v.take w.length = w) ↔ w <+: v := by rw [List.prefix_iff_eq_take]; exact eq_comm
  by_cases h : w = v <;> simp [h, ← e]
/-- The greatest words, sorted. -/
def maxW (l : List (List Int)) : List (List Int) := (sortU l).filter (topW l)
theorem maxW_mem {l : List (List Int)} {w : List Int} : w ∈ maxW l ↔ w ∈ l ∧ ∀ v ∈ l, w ≠ v → ¬ w <+: v := by
  unfold maxW
  rw [List.mem_filter, sortU_mem, topW_iff]
theorem maxW_asc (l : List (List Int)) : asc (maxW l) := List.Pairwise.filter _ (sortUG_asc slxC_ok l)
/-- In dictionary order the next word tells it. -/
theorem next_tells {l all : List (List Int)} (hs : ascG lexC all) (hm : ∀ w, w ∈ all ↔ w ∈ l) {i : Int} (i0 : 0 ≤ i) (i1 : i < all.length) :
    (i + 1 = all.length ∨ ¬ ix all i <+: ix all (i + 1)) ↔ ∀ v ∈ l, ix all i ≠ v → ¬ ix all i <+: v := by
  have hlt : ∀ a b : Int, 0 ≤ a → a < b → b < (all.length : Int) → lexC (ix all a) (ix all b) < 0 := fun a b a0 ab b1 => by
    have h := hs
    rw [ascG, List.pairwise_iff_getElem] at h
    have := h a.toNat b.toNat (by omega) (by omega) (by omega)
    rw [← ix_nat (by omega), ← ix_nat (by omega)] at this
    rwa [show ((a.toNat : Nat) : Int) = a by omega, show ((b.toNat : Nat) : Int) = b by omega] at this
  constructor
  · intro h v hv hne hp
    obtain ⟨j, hj, e⟩ := List.mem_iff_getElem.1 ((hm v).2 hv)
    have e : ix all (j : Int) = v := by rw [ix_nat hj]; exact e
    have hl := lex_of_pre hp hne
    rw [← e] at hl
    have hij : i < (j : Int) := by
      rcases Int.lt_trichotomy i (j : Int) with a | a | a
      · exact a
      · rw [← a] at e; exact absurd e hne
      · have h1 := hlt j i (by omega) a i1
        have := lexC_ok.anti (ix all i) (ix all (j : Int))
        omega
    rcases h with h | h
    · omega
    · apply h
      have h1 := hlt i (i + 1) i0 (by omega) (by omega)
      by_cases ej : (j : Int) = i + 1
      · rw [← ej, e]; exact hp
      · have h2 := hlt (i + 1) j (by omega) (by omega) (by omega)
        rw [e] at h2
        exact lex_pre (by omega) (by omega) hp
  · intro h
    by_cases e : i + 1 = (all.length : Int)
    · exact .inl e
    · right
      have h1 := hlt i (i + 1) i0 (by omega) (by omega)
      refine h _ ((hm _).1 (ix_mem (by omega) (by omega))) fun e' => ?_
      rw [← e'] at h1
      have := lexC_ok.refl (ix all i)
      omega
/-- What the program keeps of the words in dictionary order. -/
theorem keep_sort {l k : List (List Int)} (h : ∀ w, w ∈ k ↔ w ∈ l ∧ ∀ v ∈ l, w ≠ v → ¬ w <+: v) : sortU k = maxW l := sortU_eq (maxW_asc l) fun w => by rw [h, maxW_mem]
end Ab
namespace Ab
/-- How many first symbols are the same. -/
def comN : List Int → List Int → Nat
  | x :: a, y :: b => if x = y then comN a b + 1 else 0
  | _, _ => 0
theorem comN_le : ∀ a b, comN a b ≤ a.length ∧ comN a b ≤ b.length
  | [], b => by simp [comN]
  | _ :: _, [] => by simp [comN]
  | x :: a, y :: b => by
    have := comN_le a b
    unfold comN; split <;> simp <;> omega
theorem comN_eq : ∀ {i : Nat} {a b : List Int}, i ≤ a.length → i ≤ b.length → (∀ j : Nat, j < i → ix a (j : Int) = ix b (j : Int)) → (i = a.length ∨ i = b.length ∨ ix a (i : Int) ≠ ix b (i : Int)) → comN a b = i
  | 0, [], b, _, _, _, _ => by simp [comN]
  | 0, _ :: _, [], _, _, _, _ => by simp [comN]
  | 0, x :: a, y :: b, _, _, _, h => by
    rcases h with h | h | h
    · simp at h
    · simp at h
    · have h : ¬ x = y := h
      unfold comN; rw [if_neg h]
  | i + 1, [], b, h, _, _, _ => by simp at h
  | i + 1, _ :: _, [], _, h, _, _ => by simp at h
  | i + 1, x :: a, y :: b, h1, h2, h3, h4 => by
    have hs : ∀ (l : List Int) (z : Int) (j : Nat), ix (z :: l) ((j + 1 : Nat) : Int) = ix l (j : Int) := fun l z j => by simp [ix]
    have e0 := h3 0 (by omega)
    have e0 : x = y := e0
    unfold comN
    rw [if_pos e0, comN_eq (i := i) (by simpa using h1) (by simpa using h2) (fun j hj => by have := h3 (j + 1) (by omega); rwa [hs, hs] at this) ?_]
    rw [hs, hs] at h4
    simpa using h4
theorem com_pre : ∀ {w p : List Int}, comN w p = p.length ↔ p <+: w
  | [], [] => by simp [comN]
  | [], _ :: _ => by simp [comN]
  | _ :: _, [] => by simp [comN]
  | x :: w, y :: p => by
    have := com_pre (w := w) (p := p)
    unfold comN
    rw [List.cons_prefix_cons]
    by_cases e : x = y
    · rw [if_pos e]; simp [e, this]
    · rw [if_neg e]; simp; intro h; exact absurd h.symm e
theorem common_s (a b : List Int) (ha : (a.length : Int) ≤ 9223372036854775807) (hb : (b.length : Int) ≤ 9223372036854775807) : PC F_word_Common [iL a, iL b] = some (.int (comN a b)) := by
  refine PCx_of (go_word_Common rfl ?_)
  simp
  refine W_iter (fun i : Nat => [(2, .int i)]) (fun _ => []) (fun i => i ≤ a.length ∧ i ≤ b.length ∧ ∀ j : Nat, j < i → ix a (j : Int) = ix b (j : Int)) (fun i => a.length - i) 0 (by simp [sets]) ⟨by omega, by omega, fun j h => by omega⟩ fun i ⟨i0, i1, i2⟩ => ?_
  by_cases hi : i < a.length ∧ i < b.length
  · simp [-More_nor, hi.1, hi.2, show (i : Int) < min (a.length : Int) b.length by omega]
    refine ⟨fun h => ⟨by omega, More_of (i + 1) (by simp) rfl ⟨by omega, by omega, fun j hj => ?_⟩ (by omega)⟩, fun h => ?_⟩
    · by_cases e : j = i
      · subst e; exact h
      · exact i2 j (by omega)
    · rw [comN_eq i0 i1 i2 (.inr (.inr h))]
  · have e : comN a b = i := comN_eq i0 i1 i2 (by omega)
    simp [show ¬ (i : Int) < min (a.length : Int) b.length by omega, e]
    omega
theorem hasPre_s (w p : List Int) (ha : (w.length : Int) ≤ 9223372036854775807) (hb : (p.length : Int) ≤ 9223372036854775807) : PC F_word_HasPrefix [iL w, iL p] = some (.bool (decide (p <+: w))) := by
  refine PCx_of (go_word_HasPrefix rfl ?_)
  simp [common_s w p ha hb]
  have := com_pre (w := w) (p := p)
  constructor
  · intro h; exact this.1 (by omega)
  · intro h; have := this.2 h; omega
theorem wlex_s (a b : List Int) (ha : (a.length : Int) ≤ 9223372036854775807) (hb : (b.length : Int) ≤ 9223372036854775807) : PC F_word_Lex [iL a, iL b] = some (.int (lexC a b)) := by
  refine PCx_of (go_word_Lex rfl ?_)
  simp [scmp_s a b ha hb]
theorem cmpF_lex : CmpF F_word_Lex lexC := ⟨lexC_ok, fun a b ha hb => wlex_s a b (by omega) (by omega), .inr rfl⟩
/-- Sorted twice: the greatest words. -/
theorem ordLex_s (ws : List (List Int)) (hl : (ws.length : Int) ≤ 1000000) (hw : fitW ws) : PC F_wordset_ordered [iLL ws, .func F_word_Lex []] = some (iLL (sortUG lexC ws)) := ordered_s cmpF_lex ws hl hw
theorem Maximal_s (ws : List (List Int)) (hl : (ws.length : Int) ≤ 1000000) (hw : fitW ws) : PC F_wordset_Maximal [iLL ws] = some (iLL (maxW ws)) := by
  refine PCx_of (go_wordset_Maximal rfl ?_)
  have hord := ordLex_s ws hl hw
  have hasc := sortUG_asc lexC_ok ws
  have hmem : ∀ w, w ∈ sortUG lexC ws ↔ w ∈ ws := fun w => sortUG_mem
  have hlen : (sortUG lexC ws).length ≤ ws.length := by
    have := compW_len (sortG lexC ws)
    rwa [sortG_len] at this
  simp [hord]
  generalize sortUG lexC ws = all at *
  refine W_iter (fun p : Nat × List (List Int) => [(2, .int p.1), (7, .sl 0 p.2.length 0 p.2.length)]) (fun p => [loutL p.2]) (fun p => p.1 ≤ all.length ∧ p.2.length ≤ p.1 ∧ ∀ w, w ∈ p.2 ↔ ∃ j : Nat, j < p.1 ∧ ix all (j : Int) = w ∧ ∀ v ∈ ws, w ≠ v → ¬ w <+: v) (fun p => all.length - p.1) (0, []) (by simp [sets]) ⟨by simp, by simp, fun w => by simp⟩ ?_
  rintro ⟨i, out⟩ ⟨i0, i1, i2⟩
  dsimp only at i0 i1 i2 ⊢
  by_cases hi : i < all.length
  · have nt := next_tells hasc hmem (i := (i : Int)) (by omega) (by omega)
    have keep : (∀ v ∈ ws, ix all (i : Int) ≠ v → ¬ ix all (i : Int) <+: v) → ∀ w, w ∈ out ++ [ix all (i : Int)] ↔ ∃ j : Nat, j < i + 1 ∧ ix all (j : Int) = w ∧ ∀ v ∈ ws, w ≠ v → ¬ w <+: v := fun h w => by
      rw [List.mem_append, i2]
      constructor
      · rintro (⟨j, j0, j1, j2⟩ | h')
        · exact ⟨j, by omega, j1, j2⟩
        · simp at h'; subst h'; exact ⟨i, by omega, rfl, h⟩
      · rintro ⟨j, j0, j1, j2⟩
        by_cases e : j = i
        · subst e; right; simp [j1]
        · exact .inl ⟨j, by omega, j1, j2⟩
    have drop : ¬ (∀ v ∈ ws, ix all (i : Int) ≠ v → ¬ ix all (i : Int) <+: v) → ∀ w, w ∈ out ↔ ∃ j : Nat, j < i + 1 ∧ ix all (j : Int) = w ∧ ∀ v ∈ ws, w ≠ v → ¬ w <+: v := fun h w => by
      rw [i2]
      constructor
      · rintro ⟨j, j0, j1, j2⟩; exact ⟨j, by omega, j1, j2⟩
      · rintro ⟨j, j0, j1, j2⟩
        by_cases e : j = i
        · subst e; rw [← j1] at j2; exact absurd j2 h
        · exact ⟨j, by omega, j1, j2⟩
    have hwi := hw _ ((hmem _).1 (ix_mem (l := all) (n := (i : Int)) (by omega) (by omega)))
    by_cases hn : i + 1 < all.length
    · have hwj := hw _ ((hmem _).1 (ix_mem (l := all) (n := (i : Int) + 1) (by omega) (by omega)))
      have hp := hasPre_s (ix all ((i : Int) + 1)) (ix all (i : Int)) (by omega) (by omega)
      simp [-More_nor, hi, hp, show ¬ (i : Int) + 1 = all.length by omega, show (i : Int) + 1 < all.length by omega]
      refine ⟨by omega, by omega, fun hpre => ⟨by omega, More_of (i + 1, out) (by simp) rfl ⟨by dsimp only; omega, by dsimp only; omega, drop fun h => ?_⟩ (by dsimp only; omega)⟩, fun hnp => ⟨by split <;> simp, by omega, by omega, More_of (i + 1, out ++ [ix all (i : Int)]) (by simp) (by simp [loutL]) ⟨by dsimp only; omega, by simp; omega, keep (nt.1 (.inr hnp))⟩ (by dsimp only; omega)⟩⟩
      rcases nt.2 h with e | e
      · omega
      · exact e hpre
    · simp [-More_nor, hi, show (i : Int) + 1 = all.length by omega]
      refine ⟨by omega, by split <;> simp, by omega, by omega, More_of (i + 1, out ++ [ix all (i : Int)]) (by simp; omega) (by simp [loutL]) ⟨by dsimp only; omega, by simp; omega, keep (nt.1 (.inl (by omega)))⟩ (by dsimp only; omega)⟩
  · have hs := Sorted_s out (by omega) fun w h => by
      obtain ⟨j, j0, j1, _⟩ := (i2 w).1 h
      rw [← j1]
      exact hw _ ((hmem _).1 (ix_mem (by omega) (by omega)))
    have ek : sortU out = maxW ws := keep_sort fun w => by
      rw [i2]
      constructor
      · rintro ⟨j, j0, j1, j2⟩; exact ⟨by rw [← j1]; exact (hmem _).1 (ix_mem (by omega) (by omega)), j2⟩
      · rintro ⟨h1, h2⟩
        obtain ⟨j, hj, e⟩ := List.mem_iff_getElem.1 ((hmem w).2 h1)
        exact ⟨j, by omega, by rw [ix_nat hj]; exact e, h2⟩
    rw [ek] at hs
    simp [hi]
    refine W_frzL rfl ?_
    simp [hs]
end Ab
namespace Ab
theorem rcommon_s (a b : List Int) (ha : (a.length : Int) ≤ 9223372036854775807) (hb : (b.length : Int) ≤ 9223372036854775807) : PC F_ref01_Common [iL a, iL b] = some (.int (comN a b)) := by
  refine PCx_of (go_ref01_Common rfl ?_)
  simp
  refine W_iter (fun i : Nat => [(2, .int i)]) (fun _ => []) (fun i => i ≤ a.length ∧ i ≤ b.length ∧ ∀ j : Nat, j < i → ix a (j : Int) = ix b (j : Int)) (fun i => a.length - i) 0 (by simp [sets]) ⟨by omega, by omega, fun j h => by omega⟩ fun i ⟨i0, i1, i2⟩ => ?_
  by_cases hi : i < a.length
  · by_cases hj : i < b.length
    · simp [-More_nor, hi, hj]
      refine ⟨fun h => ⟨by omega, More_of (i + 1) (by simp) rfl ⟨by omega, by omega, fun j hj => ?_⟩ (by omega)⟩, fun h => ?_⟩
      · by_cases e : j = i
        · subst e; exact h
        · exact i2 j (by omega)
      · rw [comN_eq i0 i1 i2 (.inr (.inr h))]
    · have e : comN a b = i := comN_eq i0 i1 i2 (by omega)
      simp [hi, hj, e]
  · have e : comN a b = i := comN_eq i0 i1 i2 (by omega)
    simp [hi, e]
theorem rhasPre_s (w p : List Int) (ha : (w.length : Int) ≤ 9223372036854775807) (hb : (p.length : Int) ≤ 9223372036854775807) : PC F_ref01_HasPrefix [iL w, iL p] = some (.bool (decide (p <+: w))) := by
  refine PCx_of (go_ref01_HasPrefix rfl ?_)
  simp [rcommon_s w p ha hb]
  have := com_pre (w := w) (p := p)
  constructor
  · intro h; exact this.1 (by omega)
  · intro h; have := this.2 h; omega
theorem com_same {a b : List Int} : (a.length = b.length ∧ comN a b = a.length) ↔ a = b := by
  constructor
  · rintro ⟨h1, h2⟩
    have := (com_pre (w := a) (p := b)).1 (by omega)
    exact (this.eq_of_length h1.symm).symm
  · rintro rfl
    exact ⟨rfl, com_pre.2 (List.prefix_refl _)⟩
theorem rsame_s (a b : List Int) (ha : (a.length : Int) ≤ 9223372036854775807) (hb : (b.length : Int) ≤ 9223372036854775807) : PC F_ref01_Same [iL a, iL b] = some (.bool (decide (a = b))) := by
  refine PCx_of (go_ref01_Same rfl ?_)
  have h := com_same (a := a) (b := b)
  by_cases e : a = b
  · subst e
    have := h.2 rfl
    simp [rcommon_s a a ha ha, this.2]
  · by_cases hl : a.length = b.length
    · have : ¬ comN a b = a.length := fun h' => e (h.1 ⟨hl, h'⟩)
      simp [rcommon_s a b ha hb, e, show (a.length : Int) = b.length by omega]
      omega
    · simp [rcommon_s a b ha hb, e, show ¬ (a.length : Int) = b.length by omega]
theorem lexC_com : ∀ (a b : List Int), lexC a b = if comN a b = a.length then (if comN a b = b.length then 0 else -1) else if comN a b < b.length ∧ ix a (comN a b : Int) < ix b (comN a b : Int) then -1 else 1
  | [], [] => by simp [lexC, comN]
  | [], _ :: _ => by simp [lexC, comN]
  | _ :: _, [] => by simp [lexC, comN]
  | x :: a, y :: b => by
    have ih := lexC_com a b
    have hs : ∀ (l : List Int) (z : Int) (j : Nat), ix (z :: l) ((j + 1 : Nat) : Int) = ix l (j : Int) := fun l z j => by simp [ix]
    unfold lexC comN
    by_cases e : x = y
    · subst e
      rw [if_neg (by omega), if_neg (by omega), if_pos rfl, ih, hs, hs]
      simp
    · rw [if_neg e]
      have hx : ix (x :: a) ((0 : Nat) : Int) = x := rfl
      have hy : ix (y :: b) ((0 : Nat) : Int) = y := rfl
      rw [hx, hy]
      by_cases h : x < y
      · simp [h]
      · simp [h]; omega
theorem rlex_s (a b : List Int) (ha : (a.length : Int) ≤ 9223372036854775807) (hb : (b.length : Int) ≤ 9223372036854775807) : PC F_ref01_Lex [iL a, iL b] = some (.int (lexC a b)) := by
  refine PCx_of (go_ref01_Lex rfl ?_)
  have hle := comN_le a b
  have hc := rcommon_s a b ha hb
  have hx := lexC_com a b
  generalize comN a b = n at *
  by_cases h1 : n = a.length
  · by_cases h2 : n = b.length
    · rw [if_pos h1, if_pos h2] at hx
      simp [hc, hx, show (n : Int) = a.length by omega, show (n : Int) = b.length by omega, show (a.length : Int) = b.length by omega]
    · rw [if_pos h1, if_neg h2] at hx
      simp [hc, hx, show (n : Int) = a.length by omega, show ¬ (a.length : Int) = b.length by omega]
  · rw [if_neg h1] at hx
    by_cases h2 : n < b.length ∧ ix a (n : Int) < ix b (n : Int)
    · rw [if_pos h2] at hx
      simp [hc, hx, show ¬ (n : Int) = a.length by omega, h2.1, h2.2, show n < a.length by omega]
    · rw [if_neg h2] at hx
      by_cases h3 : n < b.length
      · simp [hc, hx, show ¬ (n : Int) = a.length by omega, h3, show n < a.length by omega, show ¬ ix a (n : Int) < ix b (n : Int) from fun h => h2 ⟨h3, h⟩]
      · simp [hc, hx, show ¬ (n : Int) = a.length by omega, h3, show n < a.length by omega]
theorem rcmp_s (a b : List Int) (ha : (a.length : Int) ≤ 9223372036854775807) (hb : (b.length : Int) ≤ 9223372036854775807) : PC F_ref01_Compare [iL a, iL b] = some (.int (slxC a b)) := by
  refine PCx_of (go_ref01_Compare rfl ?_)
  have e := rlex_s a b ha hb
  unfold slxC
  by_cases h1 : a.length < b.length
  · simp [h1]
  · by_cases h2 : b.length < a.length
    · simp [h1, h2]
    · simp [h1, h2, e]
end Ab
