/- Tables of bools in memory, and machines behind an interface. Condition: none. -/
import Derived.Test.YtgaidfgpedibhaaN43Conn
set_option linter.all false
set_option maxRecDepth 100000
set_option maxHeartbeats 4000000
namespace Ab
/-- A row of a table, as a block. -/
abbrev rowB (r : List Bool) : Blk := ⟨none, r.map .bool, .live⟩
/-- The references to the rows: from block 2 on. -/
abbrev refs (k N : Nat) : List AV := (List.range k).map fun i => AV.sl (2 + i) N 0 N
/-- A box, a table with k rows so far of N, and what came later. -/
def mat (box : Blk) (N : Nat) (m : List (List Bool)) (rest : List Blk) : List Blk := box :: ⟨none, refs m.length N ++ List.replicate (N - m.length) .snil, .live⟩ :: (m.map rowB ++ rest)
theorem blk_eq : ∀ (σ : List Blk) (i : Nat), blk σ i = σ[i]?
  | [], i => by simp [blk]
  | x :: r, 0 => rfl
  | x :: r, i + 1 => by simp [blk, blk_eq r i]
theorem setB_eq : ∀ (σ : List Blk) (i : Nat) (B : Blk), setB σ i B = σ.set i B
  | [], i, B => by simp [setB]
  | x :: r, 0, B => rfl
  | x :: r, i + 1, B => by simp [setB, setB_eq r i B]
theorem blk_row {box : Blk} {N : Nat} {m : List (List Bool)} {rest : List Blk} {s : Int} (h0 : 0 ≤ s) (h1 : s < m.length) : blk (mat box N m rest) (2 + s.toNat) = some (rowB (ix m s)) := by
  rw [blk_eq, mat, show 2 + s.toNat = s.toNat + 1 + 1 by omega, List.getElem?_cons_succ, List.getElem?_cons_succ, List.getElem?_append_left (by simp; omega), List.getElem?_map, ix_eq h0 h1]
  rfl
theorem setB_row {box : Blk} {N : Nat} {m : List (List Bool)} {rest : List Blk} {s : Int} {r : List Bool} (h0 : 0 ≤ s) (h1 : s < m.length) : setB (mat box N m rest) (2 + s.toNat) ⟨none, r.map .bool, .live⟩ = mat box N (m.set s.toNat r) rest := by
  rw [setB_eq, mat, mat, show 2 + s.toNat = s.toNat + 1 + 1 by omega, List.set_cons_succ, List.set_cons_succ, List.set_append, if_pos (by simp; omega)]
  simp [List.map_set]
theorem blk_outer {box : Blk} {N : Nat} {m : List (List Bool)} {rest : List Blk} : blk (mat box N m rest) 1 = some ⟨none, refs m.length N ++ List.replicate (N - m.length) .snil, .live⟩ := rfl
theorem blk_outer1 {box : Blk} {N : Nat} {m : List (List Bool)} {rest : List Blk} (h : m.length = N) : blk (mat box N m rest) 1 = some ⟨none, refs N N, .live⟩ := by rw [blk_outer, h]; simp
theorem blk_box {box : Blk} {N : Nat} {m : List (List Bool)} {rest : List Blk} : blk (mat box N m rest) 0 = some box := rfl
theorem ix_range {N : Nat} {s : Int} (h0 : 0 ≤ s) (h1 : s < N) : ix (List.range N) s = s.toNat := by
  unfold ix
  rw [List.getD_eq_getElem?_getD, List.getElem?_range (by omega)]; rfl
/-- What stands behind an interface is the machine. -/
structure MOk (t : Nat) (v : AV) (M : Mch) : Prop where
  loc : noLoc v = true
  wk : Ab.wk v = v
  size : ∃ f, lookT [(T_nested_single, F_nested_single_size), (T_nested_double, F_nested_double_size)] t = some f ∧ PC f [v] = some (.int M.size)
  call : ∃ f, lookT [(T_nested_single, F_nested_single_call), (T_nested_double, F_nested_double_call)] t = some f ∧ ∀ s c, 0 ≤ s → s < (M.size : Int) → 0 ≤ c → c < M.calls → PC f [v, .int s, .int c] = some (.tup [.int (M.call s c).1, .int (M.call s c).2])
  inner : ∃ f, lookT [(T_nested_single, F_nested_single_inner), (T_nested_double, F_nested_double_inner)] t = some f ∧ ∀ s i, 0 ≤ s → s < (M.size : Int) → 0 ≤ i → i < M.inns → PC f [v, .int s, .int i] = some (.int (M.inner s i))
  pop : ∃ f, lookT [(T_nested_single, F_nested_single_pop), (T_nested_double, F_nested_double_pop), (T_Pnested_stack_int, F_nested_stack_int_pop)] t = some f ∧ ∀ s c u r, 0 ≤ s → s < (M.size : Int) → 0 ≤ c → c < M.calls → 0 ≤ u → u < (M.size : Int) → 0 ≤ r → r < M.rets → PC f [v, .int u, .int (M.call s c).2, .int r] = some (.int (M.pop u (M.call s c).2 r))
/-- One automaton as a machine. -/
def Nst.mch (n : Nst) : Mch := ⟨n.accept.length, fun s c => (ix (ix n.call s) c, ix (ix n.push s) c), fun s i => ix (ix n.inner s) i, fun s g r => ix (ix (ix n.pop s) g) r, n.calls, n.inns, n.rets⟩
theorem mch_ok {n : Nst} (h : n.Ok) : n.mch.Ok := by
  have := h.states; have := h.calls; have := h.inns; have := h.rets
  refine ⟨?_, ?_, ?_, ?_, fun s c s0 s1 c0 c1 => h.call s c s0 s1 c0 c1, fun s i s0 s1 c0 c1 => h.inner s i s0 s1 c0 c1, fun s c t r s0 s1 c0 c1 t0 t1 r0 r1 => ?_⟩ <;> simp only [Nst.mch] at * <;> try omega
  have q := h.push s c s0 s1 c0 c1
  exact h.pop t _ r t0 t1 q.1 q.2 r0 r1
theorem mch_mok {n : Nst} (h : n.Ok) : MOk T_nested_single n.av n.mch := by
  have hl := h.lens
  refine ⟨by simp, by simp, ⟨F_nested_single_size, rfl, ssize_s n⟩, ⟨F_nested_single_call, rfl, fun s c s0 s1 c0 c1 => ?_⟩, ⟨F_nested_single_inner, rfl, fun s c s0 s1 c0 c1 => ?_⟩, ⟨F_nested_single_pop, rfl, fun s c u r s0 s1 c0 c1 u0 u1 r0 r1 => ?_⟩⟩
  · simp only [Nst.mch] at s1 c1
    have := h.row s s0 s1
    exact scall_s n s c s0 (by omega) (by omega) c0 (by omega) (by omega)
  · simp only [Nst.mch] at s1 c1
    have := h.row s s0 s1
    exact sinner_s n s c s0 (by omega) c0 (by omega)
  · simp only [Nst.mch] at s1 c1 u1 r1
    have q := h.push s c s0 s1 c0 c1
    have := h.row u u0 u1
    have q2 := h.popl u _ u0 u1 q.1 q.2
    exact spop_s n u _ r u0 (by omega) q.1 (by simp only [Nst.mch]; omega) r0 (by simp only [Nst.mch]; omega)
end Ab
