/- Blocks of numbers; stores: blocks behind others, blocks that are put, rows that lie somewhere. Condition: none. -/
import Derived.Test.YtdhncjkhockhjaaGbf
set_option linter.all false
set_option maxRecDepth 100000
set_option maxHeartbeats 4000000
namespace Ab
abbrev Zb (vs : List Int) : Blk := ⟨none, vs.map .int, .live⟩
theorem bE : ∀ (σ : List Blk) (i : Nat), blk σ i = σ[i]?
  | [], i => by simp [blk]
  | x :: r, 0 => rfl
  | x :: r, i + 1 => by simp [blk, bE r i]
theorem sE : ∀ (σ : List Blk) (i : Nat) (B : Blk), setB σ i B = σ.set i B
  | [], i, B => by simp [setB]
  | x :: r, 0, B => rfl
  | x :: r, i + 1, B => by simp [setB, sE r i B]
theorem shL_ints {n : Nat} : ∀ l : List Int, shL n (l.map .int) = l.map .int
  | [] => rfl
  | x :: l => by simp only [List.map_cons, shL, shV, shL_ints l]
def rws (e : Nat) (p : Nat → Nat) (n K : Nat) : List AV := (List.range n).map fun j => .sl (p j + e) K 0 K
theorem rws_succ {e n K : Nat} {p : Nat → Nat} : rws e p (n + 1) K = rws e p n K ++ [.sl (p n + e) K 0 K] := by simp [rws, List.range_succ]
theorem rws_len {e n K : Nat} {p : Nat → Nat} : (rws e p n K).length = n := by simp [rws]
theorem res_box4 {ce : CE} {a b c d : AV} {r : List Blk} : ev ce (⟨some 4, [a, b, c, d], .live⟩ :: r) 0 [] (fun _ => .ptr 0 (kst (some 4)) 0) (.ld (.v 0) (some 4)) = some (.agg [a, b, c, d], none) := (rfl)
theorem blk_at {Q r : List Blk} {B : Blk} : blk (Q ++ B :: r) Q.length = some B := by rw [bE]; simp
theorem blk_at1 {Q r : List Blk} {A B : Blk} : blk (Q ++ A :: B :: r) (Q.length + 1) = some B := by rw [bE]; simp
theorem setB_at {Q r : List Blk} {B C : Blk} : setB (Q ++ B :: r) Q.length C = Q ++ C :: r := by rw [sE, List.set_append, if_neg (by omega)]; simp
theorem setB_at1 {Q r : List Blk} {A B C : Blk} : setB (Q ++ A :: B :: r) (Q.length + 1) C = Q ++ A :: C :: r := by rw [sE, List.set_append, if_neg (by omega)]; simp
theorem view_Zb {σ : List Blk} {b k : Nat} {l : List Int} (h : blk σ b = some (Zb l)) : view σ false (k + 2) (.sl b l.length 0 l.length) = some (iL l) := by
  have hu : upto σ b l.length = some (Zb l) := by
    unfold upto
    rw [h]
    simp
  unfold view
  simp only [hu, kst, List.drop_zero, Nat.zero_add, Nat.mul_one]
  have e : mapO (view σ false (k + 1)) (l.map AV.int) = some (l.map AV.int) := mapO_mp (f := AV.int) (g := AV.int) fun _ _ => rfl
  rw [if_pos (by simp), chunk_n (by simp), e]
/-- Rows that lie somewhere. -/
structure RowsAt (σ : List Blk) (b : Nat) (at' : Nat → Nat) (l : List (List Int)) : Prop where
  tab : blk σ b = some ⟨none, (List.range l.length).map fun (j : Nat) => AV.sl (at' j) (ix l (j : Int)).length 0 (ix l (j : Int)).length, .live⟩
  row : ∀ j : Nat, j < l.length → blk σ (at' j) = some (Zb (ix l (j : Int)))
theorem mapO_rng {σ : List Blk} {at' : Nat → Nat} {k : Nat} {l : List (List Int)} (h : ∀ j : Nat, j < l.length → blk σ (at' j) = some (Zb (ix l (j : Int)))) : mapO (view σ false (k + 2)) ((List.range l.length).map fun (j : Nat) => AV.sl (at' j) (ix l (j : Int)).length 0 (ix l (j : Int)).length) = some (l.map iL) := by
  have e : l.map iL = (List.range l.length).map fun (j : Nat) => iL (ix l (j : Int)) := by
    apply List.ext_getElem
    · simp
    · intro i h1 h2
      simp at h1
      simp only [List.getElem_map, List.getElem_range]
      rw [ix_nat h1]
  rw [e, mapO_mp]
  intro j hj
  exact view_Zb (h j (List.mem_range.1 hj))
theorem vd_rowsAt {σ : List Blk} {b k n : Nat} {at' : Nat → Nat} {l : List (List Int)} (h : RowsAt σ b at' l) (hn : n = l.length) : view σ false (k + 3) (.sl b n 0 n) = some (iLL l) := by
  subst hn
  have hu : upto σ b l.length = some ⟨none, (List.range l.length).map fun (j : Nat) => AV.sl (at' j) (ix l (j : Int)).length 0 (ix l (j : Int)).length, .live⟩ := by
    unfold upto
    rw [h.tab]
    simp
  unfold view
  simp only [hu, kst, List.drop_zero, Nat.zero_add, Nat.mul_one]
  rw [if_pos (by simp), chunk_n (by simp), mapO_rng h.row]
end Ab
