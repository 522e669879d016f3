/- The greatest words, by the document. Condition: none. -/
import Derived.Test.YtkedjdfangojmaaR02S
set_option linter.all false
set_option maxRecDepth 100000
set_option maxHeartbeats 4000000
namespace Ab
/-- What the inner loop asks of a later word. -/
def offW (a v : List Int) : Prop := v.length = a.length ∨ ¬ a <+: v
theorem top_later {ws all : List (List Int)} (ha : asc all) (hm : ∀ w, w ∈ all ↔ w ∈ ws) {i : Nat} (hi : i < all.length) : (∀ j : Nat, i < j → j < all.length → offW (ix all (i : Int)) (ix all (j : Int))) ↔ topW ws (ix all (i : Int)) = true := by
  rw [topW_iff]
  constructor
  · intro h v hv hne hp
    obtain ⟨j, hj, e⟩ := List.mem_iff_getElem.1 ((hm v).2 hv)
    rw [← ix_nat hj] at e
    rcases Nat.lt_trichotomy i j with h1 | h1 | h1
    · rcases h j h1 hj with h2 | h2
      · rw [e] at h2
        exact hne (hp.eq_of_length h2.symm)
      · rw [e] at h2; exact h2 hp
    · subst h1; exact hne e
    · have h2 := asc_ix ha h1 hi
      rw [e] at h2
      have h3 := hp.length_le
      unfold slxC at h2
      split at h2
      · omega
      · split at h2
        · omega
        · exact hne (hp.eq_of_length (by omega))
  · intro h j h1 h2
    have h3 := asc_ix ha h1 h2
    by_cases he : ix all (i : Int) = ix all (j : Int)
    · left; rw [he]
    · right; exact h _ ((hm _).1 (ix_get h2)) he
theorem RMaximal_s (ws : List (List Int)) (hl : (ws.length : Int) ≤ 1000000) (hw : fitW ws) : PC F_ref02_Maximal [iLL ws] = some (iLL (maxW ws)) := by
  refine PCx_of (go_ref02_Maximal rfl ?_)
  have hs := RSorted_s ws hl hw
  have ha : asc (sortU ws) := sortUG_asc slxC_ok ws
  have hm : ∀ w, w ∈ sortU ws ↔ w ∈ ws := fun w => sortU_mem
  have hlen : (sortU ws).length ≤ ws.length := by
    have := compW_len (sortG slxC ws)
    rwa [sortG_len] at this
  have hmax : maxW ws = (sortU ws).filter (topW ws) := rfl
  rw [hmax]
  generalize sortU ws = all at *
  have hwa : ∀ {j : Nat}, j < all.length → ((ix all (j : Int)).length : Int) ≤ 1000000 := fun {j} h => hw _ ((hm _).1 (ix_get h))
  simp [hs]
  refine W_iter (fun i : Nat => [(1, .int i), (5, .sl 0 ((all.take i).filter (topW ws)).length 0 ((all.take i).filter (topW ws)).length)]) (fun i => [loutL ((all.take i).filter (topW ws))]) (fun i => i ≤ all.length) (fun i => all.length - i) 0 (by simp [sets]) (by omega) ?_
  intro i i0
  by_cases hi : i < all.length
  · have t1 : all.take (i + 1) = all.take i ++ [ix all (i : Int)] := by
      rw [List.take_add_one, List.getElem?_eq_getElem hi, ix_nat hi]; rfl
    have hF1 : (all.take (i + 1)).filter (topW ws) = (all.take i).filter (topW ws) ++ (if topW ws (ix all (i : Int)) = true then [ix all (i : Int)] else []) := by
      rw [t1, List.filter_append]; simp [List.filter_cons]
    have hF2 : ((all.take i).filter (topW ws)).length ≤ i := by
      have := List.length_filter_le (topW ws) (all.take i)
      simp at this; omega
    have htl := top_later ha hm hi
    have hwi := hwa hi
    generalize (all.take i).filter (topW ws) = F at *
    simp [-More_nor, hi]
    refine ⟨by omega, ?_⟩
    refine W_iter (fun p : Nat × Bool => [(3, .int p.1), (4, .bool p.2)]) (fun _ => [loutL F]) (fun p => i + 1 ≤ p.1 ∧ p.1 ≤ all.length ∧ (p.2 = true ↔ ∀ j : Nat, i < j → j < p.1 → offW (ix all (i : Int)) (ix all (j : Int)))) (fun p => all.length - p.1) (i + 1, true) (by simp [sets]) ⟨by dsimp only; omega, by dsimp only; omega, by simp; intro j h1 h2; omega⟩ ?_
    rintro ⟨k, b⟩ ⟨k0, k1, k2⟩
    dsimp only at k0 k1 k2 ⊢
    by_cases hk : k < all.length
    · have hwk := hwa hk
      have hp := rhasPre_s (ix all (k : Int)) (ix all (i : Int)) (by omega) (by omega)
      have step : ∀ b' : Bool, (b' = true ↔ b = true ∧ offW (ix all (i : Int)) (ix all (k : Int))) → (b' = true ↔ ∀ j : Nat, i < j → j < k + 1 → offW (ix all (i : Int)) (ix all (j : Int))) := fun b' h => by
        rw [h, k2]
        constructor
        · rintro ⟨h1, h2⟩ j h3 h4
          by_cases e : j = k
          · subst e; exact h2
          · exact h1 j h3 (by omega)
        · intro h1; exact ⟨fun j h3 h4 => h1 j h3 (by omega), h1 k (by omega) (by omega)⟩
      cases b with
      | false =>
        simp [-More_nor, hk]
        (repeat' apply And.intro) <;> try omega
        exact More_of (k + 1, false) (by simp) rfl ⟨by dsimp only; omega, by dsimp only; omega, step false (by simp)⟩ (by dsimp only; omega)
      | true =>
        by_cases hlk : ((ix all (k : Int)).length : Int) = (ix all (i : Int)).length
        · simp [-More_nor, hk, hi, hlk]
          (repeat' apply And.intro) <;> try omega
          exact More_of (k + 1, true) (by simp) rfl ⟨by dsimp only; omega, by dsimp only; omega, step true (by simp; exact .inl (by omega))⟩ (by dsimp only; omega)
        · by_cases hpp : ix all (i : Int) <+: ix all (k : Int)
          · rw [decide_eq_true hpp] at hp
            simp [-More_nor, hk, hi, hlk, hp]
            (repeat' apply And.intro) <;> try omega
            exact More_of (k + 1, false) (by simp) rfl ⟨by dsimp only; omega, by dsimp only; omega, step false (by simp [offW, hpp]; omega)⟩ (by dsimp only; omega)
          · rw [decide_eq_false hpp] at hp
            simp [-More_nor, hk, hi, hlk, hp]
            (repeat' apply And.intro) <;> try omega
            exact More_of (k + 1, true) (by simp) rfl ⟨by dsimp only; omega, by dsimp only; omega, step true (by simp [offW, hpp])⟩ (by dsimp only; omega)
    · have ek : k = all.length := by omega
      subst ek
      have hb := k2.trans htl
      cases b with
      | false =>
        have : ¬ topW ws (ix all (i : Int)) = true := fun h => by have := hb.2 h; simp at this
        rw [if_neg this, List.append_nil] at hF1
        simp [-More_nor, hk]
        exact ⟨by omega, More_of (i + 1) (by simp [hF1]) (by simp [hF1]) (by omega) (by omega)⟩
      | true =>
        rw [if_pos (hb.1 rfl)] at hF1
        simp [-More_nor, hk, hi]
        exact ⟨by split <;> simp, by omega, by omega, More_of (i + 1) (by simp [hF1]) (by simp [hF1]) (by omega) (by omega)⟩
  · have ei : i = all.length := by omega
    subst ei
    rw [List.take_length]
    have hv := vd_loutL (σ := [loutL (all.filter (topW ws))]) (b := 0) rfl
    simp [hv]
end Ab
