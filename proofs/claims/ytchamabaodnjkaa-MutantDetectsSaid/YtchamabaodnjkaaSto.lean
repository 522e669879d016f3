/- Stores: blocks behind others, blocks that are put. Condition: none. -/
import Derived.Test.YtchamabaodnjkaaMutE
set_option linter.all false
set_option maxRecDepth 100000
set_option maxHeartbeats 4000000
namespace Ab
theorem blk_c {x : Blk} {l : List Blk} {n : Nat} : blk (x :: l) (n + 1) = blk l n := rfl
theorem setB_c {x B : Blk} {l : List Blk} {n : Nat} : setB (x :: l) (n + 1) B = x :: setB l n B := rfl
theorem blk_lt {Q : List Blk} {i : Nat} {B : Blk} (h : blk Q i = some B) : i < Q.length := by
  rw [bE] at h
  exact (List.getElem?_eq_some_iff.1 h).1
theorem blk_pre {Q r : List Blk} {i : Nat} {B : Blk} (h : blk Q i = some B) : blk (Q ++ r) i = some B := by
  have := blk_lt h
  rw [bE] at h ⊢
  rw [List.getElem?_append_left this]; exact h
theorem blk_at {Q r : List Blk} {B : Blk} : blk (Q ++ B :: r) Q.length = some B := by rw [bE]; simp
theorem blk_at1 {Q r : List Blk} {A B : Blk} : blk (Q ++ A :: B :: r) (Q.length + 1) = some B := by rw [bE]; simp
theorem blk_at2 {Q r : List Blk} {A B C : Blk} : blk (Q ++ A :: B :: C :: r) (Q.length + 2) = some C := by rw [bE]; simp
theorem setB_len {Q : List Blk} {i : Nat} {B : Blk} : (setB Q i B).length = Q.length := by rw [sE]; simp
theorem setB_pre {Q r : List Blk} {i : Nat} {B : Blk} (h : i < Q.length) : setB (Q ++ r) i B = setB Q i B ++ r := by rw [sE, sE, List.set_append, if_pos h]
theorem setB_at {Q r : List Blk} {B C : Blk} : setB (Q ++ B :: r) Q.length C = Q ++ C :: r := by rw [sE, List.set_append, if_neg (by omega)]; simp
theorem setB_at1 {Q r : List Blk} {A B C : Blk} : setB (Q ++ A :: B :: r) (Q.length + 1) C = Q ++ A :: C :: r := by rw [sE, List.set_append, if_neg (by omega)]; simp
theorem setB_at2 {Q r : List Blk} {A B C D : Blk} : setB (Q ++ A :: B :: C :: r) (Q.length + 2) D = Q ++ A :: B :: D :: r := by rw [sE, List.set_append, if_neg (by omega)]; simp
theorem blk_at' {Q Q' r : List Blk} {B : Blk} (h : Q'.length = Q.length) : blk (Q' ++ B :: r) Q.length = some B := by rw [← h]; exact blk_at
theorem setB_at' {Q Q' r : List Blk} {B C : Blk} (h : Q'.length = Q.length) : setB (Q' ++ B :: r) Q.length C = Q' ++ C :: r := by rw [← h]; exact setB_at
theorem blk_stt {Q : List Blk} {i : Nat} {B : Blk} (h : i < Q.length) : blk (setB Q i B) i = some B := by
  rw [bE, sE, List.getElem?_set, if_pos rfl, if_pos h]
theorem blk_ne {Q : List Blk} {i j : Nat} {B : Blk} (h : i ≠ j) : blk (setB Q i B) j = blk Q j := by
  rw [bE, bE, sE, List.getElem?_set, if_neg h]
theorem view_Zb {σ : List Blk} {b k : Nat} {l : List Int} (h : blk σ b = some (Zb l)) : view σ false (k + 2) (.sl b l.length 0 l.length) = some (iL l) := by
  have hu : upto σ b l.length = some (Zb l) := by
    unfold upto
    rw [h]
    simp
  unfold view
  simp only [hu, kst, List.drop_zero, Nat.zero_add, Nat.mul_one]
  have e : mapO (view σ false (k + 1)) (l.map AV.int) = some (l.map AV.int) := mapO_mp (f := AV.int) (g := AV.int) fun _ _ => rfl
  rw [if_pos (by simp), chunk_n (by simp), e]
/-- Rows that lie somewhere. -/
structure RowsAt (σ : List Blk) (b : Nat) (at' : Nat → Nat) (l : List (List Int)) : Prop where
  tab : blk σ b = some ⟨none, (List.range l.length).map fun (j : Nat) => AV.sl (at' j) (ix l (j : Int)).length 0 (ix l (j : Int)).length, .live⟩
  row : ∀ j : Nat, j < l.length → blk σ (at' j) = some (Zb (ix l (j : Int)))
theorem mapO_rng {σ : List Blk} {at' : Nat → Nat} {k : Nat} {l : List (List Int)} (h : ∀ j : Nat, j < l.length → blk σ (at' j) = some (Zb (ix l (j : Int)))) : mapO (view σ false (k + 2)) ((List.range l.length).map fun (j : Nat) => AV.sl (at' j) (ix l (j : Int)).length 0 (ix l (j : Int)).length) = some (l.map iL) := by
  have e : l.map iL = (List.range l.length).map fun (j : Nat) => iL (ix l (j : Int)) := by
    apply List.ext_getElem
    · simp
    · intro i h1 h2
      simp at h1
      simp only [List.getElem_map, List.getElem_range]
      rw [ix_nat h1]
  rw [e, mapO_mp]
  intro j hj
  exact view_Zb (h j (List.mem_range.1 hj))
theorem vd_rowsAt {σ : List Blk} {b k n : Nat} {at' : Nat → Nat} {l : List (List Int)} (h : RowsAt σ b at' l) (hn : n = l.length) : view σ false (k + 3) (.sl b n 0 n) = some (iLL l) := by
  subst hn
  have hu : upto σ b l.length = some ⟨none, (List.range l.length).map fun (j : Nat) => AV.sl (at' j) (ix l (j : Int)).length 0 (ix l (j : Int)).length, .live⟩ := by
    unfold upto
    rw [h.tab]
    simp
  unfold view
  simp only [hu, kst, List.drop_zero, Nat.zero_add, Nat.mul_one]
  rw [if_pos (by simp), chunk_n (by simp), mapO_rng h.row]
end Ab
