/- Tables of truth values in memory. Condition: none. -/
import Derived.Test.YtmmkhoncblnicaaCovP
set_option linter.all false
set_option maxRecDepth 100000
set_option maxHeartbeats 4000000
namespace Ab
/-- A row of a table, as a block. -/
abbrev brow' (r : List Bool) : Blk := ⟨none, r.map .bool, .live⟩
/-- The references to k rows of C: from block e on. -/
def rfs (e k C : Nat) : List AV := (List.range k).map fun i => AV.sl (e + i) C 0 C
theorem rfs_len {e k C : Nat} : (rfs e k C).length = k := by simp [rfs]
theorem rfs_nil {e C : Nat} : rfs e 0 C = [] := rfs.eq_1 e 0 C
theorem rfs_one {e C : Nat} : rfs e 1 C = [.sl e C 0 C] := rfs.eq_1 e 1 C
attribute [simp] rfs_len rfs_nil rfs_one
/-- A table with the rows so far of N. -/
def grid0 (C N : Nat) (m : List (List Bool)) (rest : List Blk) : List Blk := ⟨none, rfs 1 m.length C ++ List.replicate (N - m.length) .snil, .live⟩ :: (m.map brow' ++ rest)
/-- The same behind a box. -/
def grid1 (box : Blk) (C N : Nat) (m : List (List Bool)) (rest : List Blk) : List Blk := box :: ⟨none, rfs 2 m.length C ++ List.replicate (N - m.length) .snil, .live⟩ :: (m.map brow' ++ rest)
theorem blkS : ∀ (σ : List Blk) (i : Nat), blk σ i = σ[i]?
  | [], i => by simp [blk]
  | x :: r, 0 => rfl
  | x :: r, i + 1 => by simp [blk, blkS r i]
theorem setBS : ∀ (σ : List Blk) (i : Nat) (B : Blk), setB σ i B = σ.set i B
  | [], i, B => by simp [setB]
  | x :: r, 0, B => rfl
  | x :: r, i + 1, B => by simp [setB, setBS r i]
section
variable {box : Blk} {C N : Nat} {m : List (List Bool)} {rest : List Blk}
theorem g0_row {s : Int} (h0 : 0 ≤ s) (h1 : s < m.length) : blk (grid0 C N m rest) (1 + s.toNat) = some (brow' (ix m s)) := by
  rw [blkS, grid0, show 1 + s.toNat = s.toNat + 1 by omega, List.getElem?_cons_succ, List.getElem?_append_left (by simp; omega), List.getElem?_map, ix_eq h0 h1]
  rfl
theorem g1_row {s : Int} (h0 : 0 ≤ s) (h1 : s < m.length) : blk (grid1 box C N m rest) (2 + s.toNat) = some (brow' (ix m s)) := by
  rw [blkS, grid1, show 2 + s.toNat = s.toNat + 1 + 1 by omega, List.getElem?_cons_succ, List.getElem?_cons_succ, List.getElem?_append_left (by simp; omega), List.getElem?_map, ix_eq h0 h1]
  rfl
theorem g1_set {s : Int} {r : List Bool} (h0 : 0 ≤ s) (h1 : s < m.length) : setB (grid1 box C N m rest) (2 + s.toNat) ⟨none, r.map .bool, .live⟩ = grid1 box C N (m.set s.toNat r) rest := by
  rw [setBS, grid1, grid1, show 2 + s.toNat = s.toNat + 1 + 1 by omega, List.set_cons_succ, List.set_cons_succ, List.set_append, if_pos (by simp; omega)]
  simp [List.map_set]
theorem g0_outer : blk (grid0 C N m rest) 0 = some ⟨none, rfs 1 m.length C ++ List.replicate (N - m.length) .snil, .live⟩ := rfl
theorem g1_outer : blk (grid1 box C N m rest) 1 = some ⟨none, rfs 2 m.length C ++ List.replicate (N - m.length) .snil, .live⟩ := rfl
theorem g1_outerN (h : m.length = N) : blk (grid1 box C N m rest) 1 = some ⟨none, rfs 2 N C, .live⟩ := by rw [g1_outer, h]; simp
theorem g1_box : blk (grid1 box C N m rest) 0 = some box := rfl
theorem g0_app {B : Blk} : grid0 C N m rest ++ [B] = grid0 C N m (rest ++ [B]) := by simp [grid0]
theorem g1_app {B : Blk} : grid1 box C N m rest ++ [B] = grid1 box C N m (rest ++ [B]) := by simp [grid1]
theorem g0_len : (grid0 C N m rest).length = 1 + m.length + rest.length := by simp [grid0]; omega
theorem g1_len : (grid1 box C N m rest).length = 2 + m.length + rest.length := by simp [grid1]; omega
theorem g0_next {r : List Bool} (h : m.length < N) : setB (grid0 C N m [brow' r]) 0 ⟨none, (rfs 1 m.length C ++ List.replicate (N - m.length) AV.snil).set m.length (.sl (1 + m.length) C 0 C), .live⟩ = grid0 C N (m ++ [r]) [] := by
  rw [setBS]
  unfold grid0
  simp only [List.set_cons_zero, List.map_append, List.map_cons, List.map_nil, List.append_nil, List.length_append, List.length_cons, List.length_nil, Nat.zero_add]
  congr 2
  rw [List.set_append, if_neg (by simp), show N - m.length = (N - (m.length + 1)) + 1 by omega, List.replicate_succ]
  rw [show rfs 1 (m.length + 1) C = rfs 1 m.length C ++ [AV.sl (1 + m.length) C 0 C] by simp only [rfs, List.range_succ, List.map_append, List.map_cons, List.map_nil], List.append_assoc]
  simp
theorem g0_next' {r : List Bool} (h : m.length < N) : setB (grid0 C N m [brow' r]) 0 ⟨none, rfs 1 m.length C ++ (List.replicate (N - m.length) AV.snil).set 0 (.sl (1 + m.length) C 0 C), .live⟩ = grid0 C N (m ++ [r]) [] := by
  have := g0_next (C := C) (r := r) h
  rwa [List.set_append, if_neg (by simp), show m.length - (rfs 1 m.length C).length = 0 by simp] at this
end
theorem pT_rfs {e C k j : Nat} {s : Int} {K : AV → Prop} {t : Tk K} (h0 : 0 ≤ s) (h1 : s < k) : pT (rfs e k C ++ List.replicate j AV.snil) (0 + s.toNat * 1) none K t = K (.sl (e + s.toNat) C 0 C) := by
  unfold pT part
  rw [show 0 + s.toNat * 1 = s.toNat by omega]
  simp only [elm_eq, List.getElem?_append_left (show s.toNat < (rfs e k C).length by simp; omega)]
  simp only [rfs, List.getElem?_map, List.getElem?_range (show s.toNat < k by omega)]
  rfl
theorem pT_rfsN {e C k : Nat} {s : Int} {K : AV → Prop} {t : Tk K} (h0 : 0 ≤ s) (h1 : s < k) : pT (rfs e k C) (0 + s.toNat * 1) none K t = K (.sl (e + s.toNat) C 0 C) := by
  have := pT_rfs (e := e) (C := C) (k := k) (j := 0) (K := K) (t := t) h0 h1
  rwa [List.replicate_zero, List.append_nil] at this
theorem shL_rfs {e C k n : Nat} : shL n (rfs e k C) = rfs (e + n) k C := by
  have : ∀ l : List Nat, shL n (l.map fun i => AV.sl (e + i) C 0 C) = l.map fun i => AV.sl (e + n + i) C 0 C := by
    intro l
    induction l with
    | nil => rfl
    | cons a l ih => simp only [List.map_cons, shL, shV, ih]; congr 2; omega
  exact this _
theorem shL_bools {n : Nat} : ∀ l : List Bool, shL n (l.map .bool) = l.map .bool
  | [] => rfl
  | x :: l => by simp only [List.map_cons, shL, shV, shL_bools l]
theorem shB_rows {n : Nat} : ∀ m : List (List Bool), (m.map brow').map (shB n) = m.map brow'
  | [] => rfl
  | r :: m => by
    have := shB_rows (n := n) m
    rw [List.map_cons, List.map_cons, this]
    simp only [shB, shL_bools]
/-- The shape of a table. -/
structure Sh (N C : Nat) (T : List (List Bool)) : Prop where
  len : T.length = N
  row : ∀ r ∈ T, r.length = C
theorem Sh.ix {N C : Nat} {T : List (List Bool)} (h : Sh N C T) {s : Int} (s0 : 0 ≤ s) (s1 : s < N) : (ix T s).length = C := h.row _ (ix_mem s0 (by have := h.len; omega))
section
variable {C N : Nat} {T : List (List Bool)} {rest : List Blk}
theorem g0_outerN (h : T.length = N) : blk (grid0 C N T rest) 0 = some ⟨none, rfs 1 N C, .live⟩ := by rw [g0_outer, h]; simp
theorem g0_set {s : Int} {r : List Bool} (h0 : 0 ≤ s) (h1 : s < T.length) : setB (grid0 C N T rest) (1 + s.toNat) ⟨none, r.map .bool, .live⟩ = grid0 C N (T.set s.toNat r) rest := by
  rw [setBS, grid0, grid0, show 1 + s.toNat = s.toNat + 1 by omega, List.set_cons_succ, List.set_append, if_pos (by simp; omega)]
  simp [List.map_set]
theorem g0_rest {B : Blk} (h : T.length = N) : blk (grid0 C N T [B]) (1 + N) = some B := by
  subst h
  rw [blkS, grid0, show 1 + T.length = T.length + 1 by omega, List.getElem?_cons_succ, List.getElem?_append_right (by simp)]
  simp
theorem g0_setrest {B B' : Blk} (h : T.length = N) : setB (grid0 C N T [B]) (1 + N) B' = grid0 C N T [B'] := by
  subst h
  rw [setBS, grid0, grid0, show 1 + T.length = T.length + 1 by omega, List.set_cons_succ, List.set_append, if_neg (by simp)]
  simp
theorem g0_zero (h : T.length = N) : (grid0 C N T []).map (shB 0) = grid0 C N T [] := by
  subst h
  unfold grid0
  simp only [List.map_cons, List.append_nil, shB_rows, shB, Nat.sub_self, List.replicate_zero, shL_rfs]
end
end Ab
