/- Sorted words without double ones. Condition: none. -/
import Derived.Test.YtbpkebkldaifgaaCmp
set_option linter.all false
set_option maxRecDepth 100000
set_option maxHeartbeats 4000000
namespace Ab
def insW (x : List Int) : List (List Int) → List (List Int)
  | [] => [x]
  | y :: r => if slxC x y ≤ 0 then x :: y :: r else y :: insW x r
def sortW : List (List Int) → List (List Int)
  | [] => []
  | x :: r => insW x (sortW r)
theorem insW_map (x : List Int) : ∀ l : List (List Int), insK slxC (iL x) (l.map iL) = (insW x l).map iL
  | [] => rfl
  | y :: r => by
    have e : kLe slxC (iL x) (iL y) = decide (slxC x y ≤ 0) := by
      unfold kLe
      rw [show wordOf (iL x) = some x from wordOf_map x, show wordOf (iL y) = some y from wordOf_map y]
    simp only [List.map_cons, insK, insW, e, insW_map x r]
    by_cases h : slxC x y ≤ 0 <;> simp [h]
theorem sortW_map : ∀ l : List (List Int), sortK slxC (l.map iL) = (sortW l).map iL
  | [] => rfl
  | x :: r => by simp only [List.map_cons, sortK, sortW, sortW_map r, insW_map]
theorem insW_perm (x : List Int) : ∀ l, (insW x l).Perm (x :: l)
  | [] => .refl _
  | y :: r => by
    unfold insW
    split
    · exact .refl _
    · exact ((insW_perm x r).cons y).trans (.swap x y r)
theorem sortW_perm : ∀ l, (sortW l).Perm l
  | [] => .refl _
  | x :: r => (insW_perm x _).trans ((sortW_perm r).cons x)
theorem slx_total {u v : List Int} (h : ¬ slxC u v ≤ 0) : slxC v u ≤ 0 := by have := slxC_ok.anti u v; omega
theorem insW_sorted (x : List Int) : ∀ {l : List (List Int)}, l.Pairwise (fun a b => slxC a b ≤ 0) → (insW x l).Pairwise (fun a b => slxC a b ≤ 0)
  | [], _ => by simp [insW]
  | y :: r, h => by
    rw [List.pairwise_cons] at h
    unfold insW
    split
    · rename_i hx
      rw [List.pairwise_cons, List.pairwise_cons]
      refine ⟨fun a ha => ?_, h⟩
      rcases List.mem_cons.1 ha with rfl | ha
      · exact hx
      · exact slxC_ok.trans _ _ _ hx (h.1 a ha)
    · rename_i hx
      rw [List.pairwise_cons]
      refine ⟨fun a ha => ?_, insW_sorted x h.2⟩
      rcases List.mem_cons.1 ((insW_perm x r).mem_iff.1 ha) with rfl | ha
      · exact slx_total hx
      · exact h.1 a ha
theorem sortW_sorted : ∀ l, (sortW l).Pairwise (fun a b => slxC a b ≤ 0)
  | [] => .nil
  | x :: r => insW_sorted x (sortW_sorted r)
/-- The first n words, each once (of a sorted list). -/
def cmpN (l : List (List Int)) : Nat → List (List Int)
  | 0 => []
  | n + 1 => if 0 < n ∧ ix l (n : Int) = ix l ((n : Int) - 1) then cmpN l n else cmpN l n ++ [ix l (n : Int)]
def compW (l : List (List Int)) : List (List Int) := cmpN l l.length
theorem cmpN_len (l : List (List Int)) : ∀ n, (cmpN l n).length ≤ n
  | 0 => by simp [cmpN]
  | n + 1 => by
    have := cmpN_len l n
    unfold cmpN; split
    · omega
    · simp; omega
theorem cmpN_mem {l : List (List Int)} : ∀ {n : Nat} {w : List Int}, n ≤ l.length → (w ∈ cmpN l n ↔ ∃ j : Int, 0 ≤ j ∧ j < n ∧ ix l j = w)
  | 0, w, _ => by simp [cmpN]; intro j; omega
  | n + 1, w, h => by
    have ih := fun w => cmpN_mem (l := l) (n := n) (w := w) (by omega)
    unfold cmpN
    split
    · rename_i he
      rw [ih]
      constructor
      · rintro ⟨j, j0, j1, e⟩; exact ⟨j, j0, by omega, e⟩
      · rintro ⟨j, j0, j1, e⟩
        by_cases hj : j = (n : Int)
        · subst hj; exact ⟨(n : Int) - 1, by omega, by omega, by rw [← he.2]; exact e⟩
        · exact ⟨j, j0, by omega, e⟩
    · rw [List.mem_append, ih]
      constructor
      · rintro (⟨j, j0, j1, e⟩ | e)
        · exact ⟨j, j0, by omega, e⟩
        · simp at e; exact ⟨n, by omega, by omega, e.symm⟩
      · rintro ⟨j, j0, j1, e⟩
        by_cases hj : j = (n : Int)
        · subst hj; right; simp [e]
        · left; exact ⟨j, j0, by omega, e⟩
theorem compW_mem {l : List (List Int)} {w : List Int} : w ∈ compW l ↔ w ∈ l := by
  unfold compW
  rw [cmpN_mem (Nat.le_refl _)]
  constructor
  · rintro ⟨j, j0, j1, rfl⟩; exact ix_mem j0 j1
  · intro h
    obtain ⟨i, hi, rfl⟩ := List.mem_iff_getElem.1 h
    exact ⟨i, by omega, by omega, ix_nat hi⟩
/-- Strictly sorted. -/
abbrev asc (l : List (List Int)) : Prop := l.Pairwise fun a b => slxC a b < 0
theorem pw_ix {l : List (List Int)} (h : l.Pairwise (fun a b => slxC a b ≤ 0)) {i j : Int} (i0 : 0 ≤ i) (ij : i ≤ j) (j1 : j < l.length) : slxC (ix l i) (ix l j) ≤ 0 := by
  by_cases e : i = j
  · subst e; exact Int.le_of_eq (slxC_ok.refl _)
  · rw [List.pairwise_iff_getElem] at h
    have := h i.toNat j.toNat (by omega) (by omega) (by omega)
    rw [← ix_nat (by omega), ← ix_nat (by omega)] at this
    rwa [show ((i.toNat : Nat) : Int) = i by omega, show ((j.toNat : Nat) : Int) = j by omega] at this
theorem cmpN_asc {l : List (List Int)} (h : l.Pairwise (fun a b => slxC a b ≤ 0)) : ∀ {n : Nat}, n ≤ l.length → asc (cmpN l n)
  | 0, _ => .nil
  | n + 1, hn => by
    have ih := cmpN_asc h (n := n) (by omega)
    unfold cmpN
    split
    · exact ih
    · rename_i hne
      rw [asc, List.pairwise_append]
      refine ⟨ih, by simp, fun a ha b hb => ?_⟩
      simp at hb; subst hb
      obtain ⟨j, j0, j1, rfl⟩ := (cmpN_mem (by omega)).1 ha
      have n0 : 0 < n := by omega
      have h1 := pw_ix h j0 (show j ≤ (n : Int) - 1 by omega) (by omega)
      have h2 := pw_ix h (show 0 ≤ (n : Int) - 1 by omega) (show (n : Int) - 1 ≤ n by omega) (by omega)
      have h3 : ¬ slxC (ix l ((n : Int) - 1)) (ix l n) = 0 := fun e => hne ⟨n0, (slxC_ok.eq _ _ e).symm⟩
      have h4 := slxC_ok.trans _ _ _ h1 h2
      by_cases e : slxC (ix l j) (ix l n) = 0
      · have e' := slxC_ok.eq _ _ e
        rw [e'] at h1
        have := slxC_ok.anti (ix l n) (ix l ((n : Int) - 1))
        omega
      · omega
/-- The words of a list, sorted, each once. -/
def sortU (l : List (List Int)) : List (List Int) := compW (sortW l)
theorem sortU_mem {l : List (List Int)} {w : List Int} : w ∈ sortU l ↔ w ∈ l := by
  unfold sortU; rw [compW_mem, (sortW_perm l).mem_iff]
theorem sortU_asc (l : List (List Int)) : asc (sortU l) := cmpN_asc (sortW_sorted l) (Nat.le_refl _)
theorem slx_irrefl {a : List Int} (h : slxC a a < 0) : False := by have := slxC_ok.refl a; omega
theorem asc_eq : ∀ {l k : List (List Int)}, asc l → asc k → (∀ w, w ∈ l ↔ w ∈ k) → l = k
  | [], [], _, _, _ => rfl
  | [], y :: k, _, _, h => by have := (h y).2 (by simp); simp at this
  | x :: l, [], _, _, h => by have := (h x).1 (by simp); simp at this
  | x :: l, y :: k, h1, h2, h => by
    rw [asc, List.pairwise_cons] at h1 h2
    have e : x = y := by
      rcases List.mem_cons.1 ((h x).1 (by simp)) with e | hx
      · exact e
      · rcases List.mem_cons.1 ((h y).2 (by simp)) with e | hy
        · exact e.symm
        · have a := h2.1 x hx
          have b := h1.1 y hy
          have := slxC_ok.anti x y
          omega
    subst e
    rw [asc_eq h1.2 h2.2 fun w => ?_]
    constructor
    · intro hw
      rcases List.mem_cons.1 ((h w).1 (by simp [hw])) with e | hk
      · subst e; exact (slx_irrefl (h1.1 w hw)).elim
      · exact hk
    · intro hw
      rcases List.mem_cons.1 ((h w).2 (by simp [hw])) with e | hk
      · subst e; exact (slx_irrefl (h2.1 w hw)).elim
      · exact hk
theorem sortU_eq {l k : List (List Int)} (hk : asc k) (h : ∀ w, w ∈ l ↔ w ∈ k) : sortU l = k := asc_eq (sortU_asc l) hk fun w => by rw [sortU_mem, h]
theorem compW_len (l : List (List Int)) : (compW l).length ≤ l.length := cmpN_len l _
theorem sortW_len (l : List (List Int)) : (sortW l).length = l.length := (sortW_perm l).length_eq
end Ab
