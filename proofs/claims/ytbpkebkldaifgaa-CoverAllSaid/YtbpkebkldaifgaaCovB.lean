/- Tables in memory, the first transition that was not taken, the order of the reachable states. Condition: none. -/
import Derived.Test.YtbpkebkldaifgaaCovA
set_option linter.all false
set_option maxRecDepth 100000
set_option maxHeartbeats 4000000
namespace Ab
theorem Reach_s (m : Mly) (h : m.fits) (hv : m.validE = 0) : PC F_mealy_Reach [m.av] = some (iL ((m.places m.start).map (·.1))) := by
  have hm := mvalidE_ok hv
  obtain ⟨hi1, hi2⟩ := hm.inputs
  obtain ⟨hs1, hs2⟩ := hm.states
  have hs := hm.start
  refine PCx_of (go_mealy_Reach rfl ?_)
  simp [-List.map_replicate, mValid_s m h, hv]
  refine ⟨by omega, by omega, by omega, ?_⟩
  refine W_iter (fun p : Int × List Pl × List Bool => [(3, .int p.1), (4, .sl 1 p.2.1.length 0 p.2.1.length)]) (fun p => [⟨none, p.2.2.map .bool, .live⟩, ⟨none, (p.2.1.map (·.1)).map .int, .live⟩])
    (fun p => (0 ≤ p.1 ∧ p.1 ≤ p.2.1.length) ∧ Bq m m.start p.2.1 ∧ Sn m.next.length p.2.2 p.2.1 ∧ ∃ f : Nat, bfs m f p.1 p.2.1 = m.places m.start ∧ (m.next.length : Int) + 1 ≤ f + p.1)
    (fun p => (m.next.length - p.1).toNat) (0, [(m.start, [])], (List.replicate m.next.length false).set m.start.toNat true) (by simp [sets]) ⟨by simp, Bq.init hs, ?_, m.next.length + 1, rfl, by simp⟩ ?_
  · have := Sn.add (N := m.next.length) (b := List.replicate m.next.length false) (q := []) (w := []) ⟨by simp, fun t t0 t1 => by rw [ixs_rep t0 t1]; rfl⟩ hs.1 hs.2
    simpa using this
  rintro ⟨i, q, b⟩ ⟨⟨i0, i1⟩, hq, hb, f, hf1, hf2⟩
  dsimp only at i0 i1 hq hb hf1 hf2 ⊢
  have hqn := hq.le
  by_cases hi : i < q.length
  · have hp := hq.rng _ (ix_mem i0 hi)
    have g1 : ix (q.map (·.1)) i = (ix q i).1 := ix_map i0 hi
    have hp' : 0 ≤ ix (q.map (·.1)) i ∧ ix (q.map (·.1)) i < (m.next.length : Int) := by rw [g1]; exact hp
    have hrow := (hm.row _ hp'.1 hp'.2).1
    simp [-More_nor, -List.map_map, hi, i0, hp'.1, hp'.2, hrow]
    refine W_iter (fun p : Int × List Pl × List Bool => [(4, .sl 1 p.2.1.length 0 p.2.1.length), (5, .int p.1)]) (fun p => [⟨none, p.2.2.map .bool, .live⟩, ⟨none, (p.2.1.map (·.1)).map .int, .live⟩])
      (fun p => (0 ≤ p.1 ∧ p.1 ≤ m.inputs) ∧ Bq m m.start p.2.1 ∧ Sn m.next.length p.2.2 p.2.1 ∧ p.2.1 = brow m (ix q i) q p.1 ∧ q.length ≤ p.2.1.length ∧ ix p.2.1 i = ix q i)
      (fun p => (m.inputs - p.1).toNat) (0, q, b) (by simp [-List.map_map, sets]) ⟨by simp; omega, hq, hb, rfl, by simp, rfl⟩ ?_
    rintro ⟨a, q', b'⟩ ⟨⟨a0, a1⟩, gq, gb, ge, gl, gx⟩
    dsimp only at a0 a1 gq gb ge gl gx ⊢
    have gqn := gq.le
    by_cases ha : a < m.inputs
    · have ht := hm.nx _ a hp.1 hp.2 a0 ha
      have ht' := ht
      rw [← g1] at ht'
      have hbk := gb.ok _ ht.1 ht.2
      rw [← g1] at hbk
      have hbl := gb.len
      have hwl := gq.len i i0 (by omega)
      rw [gx] at hwl
      have es : brow m (ix q i) q (a + 1) = bstep m (ix q i) q' a := by rw [brow_succ a0, ← ge]
      cases hh : hasS q' (ix (ix m.next (ix q i).1) a) with
      | true =>
        rw [← g1] at hh
        simp [-More_nor, -List.map_map, ha, a0, i0, hrow, ht'.1, ht'.2, hbl, hbk, hh]
        rw [g1] at hh
        refine ⟨by omega, More_of (a + 1, q', b') (by simp) rfl ⟨by dsimp only; omega, gq, gb, by dsimp only; rw [es, bstep_has hh], gl, gx⟩ (by dsimp only; omega)⟩
      | false =>
        rw [← g1] at hh
        simp [-More_nor, -List.map_map, ha, a0, i0, hrow, ht'.1, ht'.2, hbl, hbk, hh]
        rw [g1] at hh ⊢
        refine ⟨by omega, by omega, More_of (a + 1, q' ++ [(ix (ix m.next (ix q i).1) a, (ix q i).2 ++ [a])], b'.set (ix (ix m.next (ix q i).1) a).toNat true) (by simp [sets]) (by simp [-List.map_map]) ⟨by dsimp only; omega, gq.add ht hh (by simp) (by simp; omega), gb.add ht.1 ht.2, by dsimp only; rw [es, bstep_new hh], by simp; omega, by dsimp only; rw [ixa_app i0 (by omega), gx]⟩ (by dsimp only; omega)⟩
    · have hai : a = m.inputs := by omega
      subst hai
      simp [-More_nor, -List.map_map]
      refine ⟨by omega, More_of (i + 1, q', b') (by simp) rfl ⟨by dsimp only; omega, gq, gb, ?_⟩ (by dsimp only; omega)⟩
      match f, hf1, hf2 with
      | 0, _, hf2 => omega
      | f + 1, hf1, hf2 => exact ⟨f, by dsimp only; rw [bfs_go hi, ← ge] at hf1; exact hf1, by dsimp only; omega⟩
  · have v1 := vd_iL (σ := [⟨none, b.map .bool, .live⟩, ⟨none, (q.map (·.1)).map .int, .live⟩]) (fr := false) (b := 1) (xs := q.map (·.1)) (n := q.length) (st := .live) rfl (by simp) (by simp)
    simp [-List.map_map, hi, v1]
    rw [← hf1, bfs_end hi]
end Ab
namespace Ab
/-- A row of a table, as a block. -/
abbrev brow' (r : List Bool) : Blk := ⟨none, r.map .bool, .live⟩
/-- The references to k rows of C: from block e on. -/
def rfs (e k C : Nat) : List AV := (List.range k).map fun i => AV.sl (e + i) C 0 C
theorem rfs_len {e k C : Nat} : (rfs e k C).length = k := by simp [rfs]
theorem rfs_nil {e C : Nat} : rfs e 0 C = [] := rfs.eq_1 e 0 C
theorem rfs_one {e C : Nat} : rfs e 1 C = [.sl e C 0 C] := rfs.eq_1 e 1 C
attribute [simp] rfs_len rfs_nil rfs_one
/-- A table with the rows so far of N. -/
def grid0 (C N : Nat) (m : List (List Bool)) (rest : List Blk) : List Blk := ⟨none, rfs 1 m.length C ++ List.replicate (N - m.length) .snil, .live⟩ :: (m.map brow' ++ rest)
/-- The same behind a box. -/
def grid1 (box : Blk) (C N : Nat) (m : List (List Bool)) (rest : List Blk) : List Blk := box :: ⟨none, rfs 2 m.length C ++ List.replicate (N - m.length) .snil, .live⟩ :: (m.map brow' ++ rest)
theorem blkS : ∀ (σ : List Blk) (i : Nat), blk σ i = σ[i]?
  | [], i => by simp [blk]
  | x :: r, 0 => rfl
  | x :: r, i + 1 => by simp [blk, blkS r i]
theorem setBS : ∀ (σ : List Blk) (i : Nat) (B : Blk), setB σ i B = σ.set i B
  | [], i, B => by simp [setB]
  | x :: r, 0, B => rfl
  | x :: r, i + 1, B => by simp [setB, setBS r i]
section
variable {box : Blk} {C N : Nat} {m : List (List Bool)} {rest : List Blk}
theorem g0_row {s : Int} (h0 : 0 ≤ s) (h1 : s < m.length) : blk (grid0 C N m rest) (1 + s.toNat) = some (brow' (ix m s)) := by
  rw [blkS, grid0, show 1 + s.toNat = s.toNat + 1 by omega, List.getElem?_cons_succ, List.getElem?_append_left (by simp; omega), List.getElem?_map, ix_eq h0 h1]
  rfl
theorem g1_row {s : Int} (h0 : 0 ≤ s) (h1 : s < m.length) : blk (grid1 box C N m rest) (2 + s.toNat) = some (brow' (ix m s)) := by
  rw [blkS, grid1, show 2 + s.toNat = s.toNat + 1 + 1 by omega, List.getElem?_cons_succ, List.getElem?_cons_succ, List.getElem?_append_left (by simp; omega), List.getElem?_map, ix_eq h0 h1]
  rfl
theorem g1_set {s : Int} {r : List Bool} (h0 : 0 ≤ s) (h1 : s < m.length) : setB (grid1 box C N m rest) (2 + s.toNat) ⟨none, r.map .bool, .live⟩ = grid1 box C N (m.set s.toNat r) rest := by
  rw [setBS, grid1, grid1, show 2 + s.toNat = s.toNat + 1 + 1 by omega, List.set_cons_succ, List.set_cons_succ, List.set_append, if_pos (by simp; omega)]
  simp [List.map_set]
theorem g0_outer : blk (grid0 C N m rest) 0 = some ⟨none, rfs 1 m.length C ++ List.replicate (N - m.length) .snil, .live⟩ := rfl
theorem g1_outer : blk (grid1 box C N m rest) 1 = some ⟨none, rfs 2 m.length C ++ List.replicate (N - m.length) .snil, .live⟩ := rfl
theorem g1_outerN (h : m.length = N) : blk (grid1 box C N m rest) 1 = some ⟨none, rfs 2 N C, .live⟩ := by rw [g1_outer, h]; simp
theorem g1_box : blk (grid1 box C N m rest) 0 = some box := rfl
theorem g0_app {B : Blk} : grid0 C N m rest ++ [B] = grid0 C N m (rest ++ [B]) := by simp [grid0]
theorem g1_app {B : Blk} : grid1 box C N m rest ++ [B] = grid1 box C N m (rest ++ [B]) := by simp [grid1]
theorem g0_len : (grid0 C N m rest).length = 1 + m.length + rest.length := by simp [grid0]; omega
theorem g1_len : (grid1 box C N m rest).length = 2 + m.length + rest.length := by simp [grid1]; omega
theorem g0_next {r : List Bool} (h : m.length < N) : setB (grid0 C N m [brow' r]) 0 ⟨none, (rfs 1 m.length C ++ List.replicate (N - m.length) AV.snil).set m.length (.sl (1 + m.length) C 0 C), .live⟩ = grid0 C N (m ++ [r]) [] := by
  rw [setBS]
  unfold grid0
  simp only [List.set_cons_zero, List.map_append, List.map_cons, List.map_nil, List.append_nil, List.length_append, List.length_cons, List.length_nil, Nat.zero_add]
  congr 2
  rw [List.set_append, if_neg (by simp), show N - m.length = (N - (m.length + 1)) + 1 by omega, List.replicate_succ]
  rw [show rfs 1 (m.length + 1) C = rfs 1 m.length C ++ [AV.sl (1 + m.length) C 0 C] by simp only [rfs, List.range_succ, List.map_append, List.map_cons, List.map_nil], List.append_assoc]
  simp
theorem g0_next' {r : List Bool} (h : m.length < N) : setB (grid0 C N m [brow' r]) 0 ⟨none, rfs 1 m.length C ++ (List.replicate (N - m.length) AV.snil).set 0 (.sl (1 + m.length) C 0 C), .live⟩ = grid0 C N (m ++ [r]) [] := by
  have := g0_next (C := C) (r := r) h
  rwa [List.set_append, if_neg (by simp), show m.length - (rfs 1 m.length C).length = 0 by simp] at this
end
theorem pT_rfs {e C k j : Nat} {s : Int} {K : AV → Prop} {t : Tk K} (h0 : 0 ≤ s) (h1 : s < k) : pT (rfs e k C ++ List.replicate j AV.snil) (0 + s.toNat * 1) none K t = K (.sl (e + s.toNat) C 0 C) := by
  unfold pT part
  rw [show 0 + s.toNat * 1 = s.toNat by omega]
  simp only [elm_eq, List.getElem?_append_left (show s.toNat < (rfs e k C).length by simp; omega)]
  simp only [rfs, List.getElem?_map, List.getElem?_range (show s.toNat < k by omega)]
  rfl
theorem pT_rfsN {e C k : Nat} {s : Int} {K : AV → Prop} {t : Tk K} (h0 : 0 ≤ s) (h1 : s < k) : pT (rfs e k C) (0 + s.toNat * 1) none K t = K (.sl (e + s.toNat) C 0 C) := by
  have := pT_rfs (e := e) (C := C) (k := k) (j := 0) (K := K) (t := t) h0 h1
  rwa [List.replicate_zero, List.append_nil] at this
theorem shL_rfs {e C k n : Nat} : shL n (rfs e k C) = rfs (e + n) k C := by
  have : ∀ l : List Nat, shL n (l.map fun i => AV.sl (e + i) C 0 C) = l.map fun i => AV.sl (e + n + i) C 0 C := by
    intro l
    induction l with
    | nil => rfl
    | cons a l ih => simp only [List.map_cons, shL, shV, ih]; congr 2; omega
  exact this _
theorem shL_bools {n : Nat} : ∀ l : List Bool, shL n (l.map .bool) = l.map .bool
  | [] => rfl
  | x :: l => by simp only [List.map_cons, shL, shV, shL_bools l]
theorem shB_rows {n : Nat} : ∀ m : List (List Bool), (m.map brow').map (shB n) = m.map brow'
  | [] => rfl
  | r :: m => by
    have := shB_rows (n := n) m
    rw [List.map_cons, List.map_cons, this]
    simp only [shB, shL_bools]
/-- The table, nothing taken. -/
abbrev Mly.blank (m : Mly) : List (List Bool) := List.replicate m.next.length (List.replicate m.inputs.toNat false)
theorem marks_l (m : Mly) (hm : m.Ok) : LX L F_cover_marks [m.av] [] (fun v σ' => v = .sl 0 m.next.length 0 m.next.length ∧ σ' = grid0 m.inputs.toNat m.next.length m.blank []) := by
  obtain ⟨hi1, hi2⟩ := hm.inputs
  obtain ⟨hs1, hs2⟩ := hm.states
  refine go_cover_marks rfl ?_
  simp [-List.map_replicate]
  refine ⟨by omega, ?_⟩
  refine W_iter (fun p : Nat => [(3, .int p)]) (fun p => grid0 m.inputs.toNat m.next.length (List.replicate p (List.replicate m.inputs.toNat false)) []) (fun p => p ≤ m.next.length) (fun p => m.next.length - p) 0 (by simp [sets, grid0]) (by simp) ?_
  intro k hk

  by_cases h : k < m.next.length
  · have e := g0_next' (C := m.inputs.toNat) (N := m.next.length) (m := List.replicate k (List.replicate m.inputs.toNat false)) (r := List.replicate m.inputs.toNat false) (by simpa using h)
    simp [-More_nor, -List.map_replicate, -List.map_append, -List.map_set, h, g0_app, g0_len, g0_outer, -pU_lit, ↓pU_sets]
    (repeat' apply And.intro) <;> try omega
    simp only [List.length_replicate] at e
    refine More_of (k + 1) (by simp) (by rw [List.replicate_succ']; exact e) (by omega) (by omega)
  · simp [h, -List.map_replicate]
    have e : k = m.next.length := by omega
    rw [e]
theorem none_l (m : Mly) (hm : m.Ok) : LX L F_ref10_none [m.av] [] (fun v σ' => v = .sl 0 m.next.length 0 m.next.length ∧ σ' = grid0 m.inputs.toNat m.next.length m.blank []) := by
  obtain ⟨hi1, hi2⟩ := hm.inputs
  obtain ⟨hs1, hs2⟩ := hm.states
  refine go_ref10_none rfl ?_
  simp [-List.map_replicate]
  refine W_iter (fun p : Nat => [(1, .int p), (3, .sl 0 p 0 p)]) (fun p => if p = 0 then [⟨none, [], .nul⟩] else grid0 m.inputs.toNat p (List.replicate p (List.replicate m.inputs.toNat false)) []) (fun p => p ≤ m.next.length) (fun p => m.next.length - p) 0 (by simp [sets, grid0]) (by simp) ?_
  intro k hk

  by_cases h : k < m.next.length
  · by_cases k0 : k = 0
    · subst k0
      simp [-More_nor, -List.map_replicate, -List.map_append, -List.map_set, h]
      (repeat' apply And.intro) <;> try omega
      exact More_of 1 (by simp) rfl (by omega) (by omega)
    · simp [-More_nor, -List.map_replicate, -List.map_append, -List.map_set, h, k0, g0_app, g0_len, g0_outer]
      have e : setB (grid0 m.inputs.toNat k (List.replicate k (List.replicate m.inputs.toNat false)) [brow' (List.replicate m.inputs.toNat false)]) 0 ⟨none, rfs 1 k m.inputs.toNat ++ [AV.sl (1 + k) m.inputs.toNat 0 m.inputs.toNat], .live⟩ = grid0 m.inputs.toNat (k + 1) (List.replicate (k + 1) (List.replicate m.inputs.toNat false)) [] := by
        rw [setBS, List.replicate_succ' (n := k)]
        unfold grid0
        simp only [List.set_cons_zero, List.map_append, List.map_cons, List.map_nil, List.append_nil, List.length_append, List.length_cons, List.length_nil, List.length_replicate, Nat.zero_add, Nat.sub_self, List.replicate_zero]
        rw [show rfs 1 (k + 1) m.inputs.toNat = rfs 1 k m.inputs.toNat ++ [AV.sl (1 + k) m.inputs.toNat 0 m.inputs.toNat] by simp only [rfs, List.range_succ, List.map_append, List.map_cons, List.map_nil]]
      (repeat' apply And.intro) <;> try omega
      exact More_of (k + 1) (by simp) (by rw [if_neg (by omega)]; exact e) (by omega) (by omega)
  · have e : k = m.next.length := by omega
    subst e
    simp [-List.map_replicate]
    intro h0
    rw [h0] at hs1
    simp at hs1
end Ab
namespace Ab
/-- The shape of a table. -/
structure Sh (N C : Nat) (T : List (List Bool)) : Prop where
  len : T.length = N
  row : ∀ r ∈ T, r.length = C
theorem Sh.ix {N C : Nat} {T : List (List Bool)} (h : Sh N C T) {s : Int} (s0 : 0 ≤ s) (s1 : s < N) : (ix T s).length = C := h.row _ (ix_mem s0 (by have := h.len; omega))
/-- The first input of a place that was not taken. -/
def Mly.open1 (m : Mly) (T : List (List Bool)) (p : Pl) : Option Int := ((List.range m.inputs.toNat).find? fun (a : Nat) => !(ix (ix T p.1) (a : Int))).map fun (a : Nat) => (a : Int)
theorem ix_rng {n : Nat} {i : Int} (h0 : 0 ≤ i) (h1 : i < n) : ix (List.range n) i = i.toNat := by
  unfold ix
  rw [List.getD_eq_getElem?_getD, List.getElem?_range (by omega)]; rfl
theorem open1_hit {m : Mly} {T : List (List Bool)} {p : Pl} {a : Int} (a0 : 0 ≤ a) (a1 : a < m.inputs) (h : ix (ix T p.1) a = false) (h2 : ∀ b, 0 ≤ b → b < a → ix (ix T p.1) b = true) : m.open1 T p = some a := by
  unfold Mly.open1
  rw [find_hit (i := a) a0 (by simp; omega) (by rw [ix_rng a0 (by omega), show ((a.toNat : Nat) : Int) = a by omega, h]; rfl) (fun j j0 j1 => by rw [ix_rng j0 (by omega), show ((j.toNat : Nat) : Int) = j by omega, h2 j j0 j1]; rfl)]
  rw [ix_rng a0 (by omega)]
  simp; omega
theorem open1_no {m : Mly} {T : List (List Bool)} {p : Pl} (h2 : ∀ b, 0 ≤ b → b < m.inputs → ix (ix T p.1) b = true) : m.open1 T p = none := by
  unfold Mly.open1
  rw [find_no fun j j0 j1 => by simp at j1; rw [ix_rng j0 (by omega), show ((j.toNat : Nat) : Int) = j by omega, h2 j j0 (by omega)]; rfl]
  rfl
theorem open1_some {m : Mly} {T : List (List Bool)} {p : Pl} {a : Int} (h : m.open1 T p = some a) : (0 ≤ a ∧ a < m.inputs) ∧ ix (ix T p.1) a = false := by
  unfold Mly.open1 at h
  obtain ⟨n, h1, rfl⟩ := Option.map_eq_some_iff.1 h
  have h2 := List.find?_some h1
  have h3 := List.mem_of_find?_eq_some h1
  simp at h2 h3
  exact ⟨by omega, h2⟩
theorem open1_none {m : Mly} {T : List (List Bool)} {p : Pl} (h : m.open1 T p = none) : ∀ b, 0 ≤ b → b < m.inputs → ix (ix T p.1) b = true := by
  intro b b0 b1
  unfold Mly.open1 at h
  rw [Option.map_eq_none_iff, List.find?_eq_none] at h
  have := h b.toNat (by simp; omega)
  rw [show ((b.toNat : Nat) : Int) = b by omega] at this
  simpa using this
def Mly.fresh (m : Mly) (s : Int) (T : List (List Bool)) : Option (Pl × Int) := (m.places s).findSome? fun p => (m.open1 T p).map fun a => (p, a)
theorem findSome_hit {α β : Type} [Inhabited α] {f : α → Option β} {xs : List α} {i : Int} {b : β} (h0 : 0 ≤ i) (h1 : i < xs.length) (h : f (ix xs i) = some b) (h2 : ∀ j, 0 ≤ j → j < i → f (ix xs j) = none) : xs.findSome? f = some b := by
  rw [List.findSome?_eq_some_iff]
  refine ⟨xs.take i.toNat, ix xs i, xs.drop (i + 1).toNat, ?_, h, fun x hx => ?_⟩
  · rw [← drop_ix h0 h1, List.take_append_drop]
  · obtain ⟨j, hj, rfl⟩ := List.mem_iff_getElem.1 hx
    simp at hj
    have := h2 j (by omega) (by omega)
    rw [ix_nat (by omega)] at this
    simpa using this
theorem findSome_inv {α β : Type} [Inhabited α] {f : α → Option β} {b : β} : ∀ {xs : List α}, xs.findSome? f = some b → ∃ i : Int, 0 ≤ i ∧ i < xs.length ∧ f (ix xs i) = some b ∧ ∀ j, 0 ≤ j → j < i → f (ix xs j) = none := by
  intro xs h
  rw [List.findSome?_eq_some_iff] at h
  obtain ⟨l1, x, l2, rfl, h2, h3⟩ := h
  have e : ix (l1 ++ x :: l2) (l1.length : Int) = x := by
    unfold ix
    rw [List.getD_eq_getElem?_getD, Int.toNat_natCast, List.getElem?_append_right (Nat.le_refl _)]; simp
  refine ⟨(l1.length : Int), by omega, by simp; omega, by rw [e]; exact h2, fun j j0 j1 => ?_⟩
  rw [ixa_app j0 j1]
  exact h3 _ (ix_mem j0 j1)
theorem fresh_hit {m : Mly} {s i a : Int} {T : List (List Bool)} (h0 : 0 ≤ i) (h1 : i < (m.places s).length) (h : m.open1 T (ix (m.places s) i) = some a) (h2 : ∀ j, 0 ≤ j → j < i → m.open1 T (ix (m.places s) j) = none) : m.fresh s T = some (ix (m.places s) i, a) := by
  unfold Mly.fresh
  exact findSome_hit h0 h1 (by rw [h]; rfl) fun j a b => by rw [h2 j a b]; rfl
theorem fresh_no {m : Mly} {s : Int} {T : List (List Bool)} (h2 : ∀ j, 0 ≤ j → j < ((m.places s).length : Int) → m.open1 T (ix (m.places s) j) = none) : m.fresh s T = none := by
  unfold Mly.fresh
  rw [List.findSome?_eq_none_iff]
  intro x hx
  obtain ⟨i, hi, rfl⟩ := List.mem_iff_getElem.1 hx
  rw [← ix_nat hi, h2 i (by omega) (by omega)]; rfl
theorem fresh_some {m : Mly} {s : Int} {T : List (List Bool)} {p : Pl} {a : Int} (h : m.fresh s T = some (p, a)) : ∃ i : Int, 0 ≤ i ∧ i < (m.places s).length ∧ p = ix (m.places s) i ∧ m.open1 T p = some a ∧ ∀ j : Int, 0 ≤ j → j < i → m.open1 T (ix (m.places s) j) = none := by
  obtain ⟨i, i0, i1, h1, h2⟩ := findSome_inv h
  obtain ⟨a', h3, h4⟩ := Option.map_eq_some_iff.1 h1
  injection h4 with h4 h5
  subst h4 h5
  exact ⟨i, i0, i1, rfl, h3, fun j a b => by simpa using h2 j a b⟩
/-- What the program's function returns. -/
def freshA : Option (Pl × Int) → AV
  | none => .tup [.snil, .bool false]
  | some (p, a) => .tup [iL (p.2 ++ [a]), .bool true]
theorem untaken_l (m : Mly) (hm : m.Ok) (s : Int) (hs : 0 ≤ s ∧ s < (m.next.length : Int)) (box : Blk) (T : List (List Bool)) (rest : List Blk) (hT : Sh m.next.length m.inputs.toNat T) :
    LX L F_cover_untaken [m.av, .int s, .sl 1 m.next.length 0 m.next.length] (grid1 box m.inputs.toNat m.next.length T rest) (fun v τ => τ = grid1 box m.inputs.toNat m.next.length T rest ∧ v = freshA (m.fresh s T)) := by
  obtain ⟨hi1, hi2⟩ := hm.inputs
  obtain ⟨hs1, hs2⟩ := hm.states
  have hp := places_s m hm s hs
  have hq := places_ok m hm s hs
  have hqn := hq.le
  have b1 := g1_outerN (box := box) (C := m.inputs.toNat) (rest := rest) hT.len
  have hmx : max m.inputs 0 = m.inputs := by omega
  refine go_cover_untaken rfl ?_
  simp [hp]
  (repeat' apply And.intro) <;> try omega
  refine W_iter (fun i : Int => [(4, .int i)]) (fun _ => grid1 box m.inputs.toNat m.next.length T rest) (fun i => (0 ≤ i ∧ i ≤ (m.places s).length) ∧ ∀ j, 0 ≤ j → j < i → m.open1 T (ix (m.places s) j) = none) (fun i => ((m.places s).length - i).toNat) 0 rfl ⟨by omega, upto_zero⟩ fun i ⟨⟨i0, i1⟩, i2⟩ => ?_
  by_cases hi : i < (m.places s).length
  · have hr := hq.rng _ (ix_mem i0 hi)
    have hln := hq.len i i0 hi
    have b2 := g1_row (box := box) (C := m.inputs.toNat) (N := m.next.length) (rest := rest) (m := T) hr.1 (by rw [hT.len]; exact hr.2)
    have hrl := hT.ix hr.1 hr.2
    have p1 := fun (K : AV → Prop) (t : Tk K) => pT_rfsN (e := 2) (C := m.inputs.toNat) (k := m.next.length) (K := K) (t := t) hr.1 hr.2
    simp [-More_nor, hi, i0, b1, b2, hr.1, hr.2, ↓p1, hrl, hmx]
    (repeat' apply And.intro) <;> try omega
    refine W_iter (fun a : Int => [(8, .int a)]) (fun _ => grid1 box m.inputs.toNat m.next.length T rest) (fun a => (0 ≤ a ∧ a ≤ m.inputs) ∧ ∀ b, 0 ≤ b → b < a → ix (ix T (ix (m.places s) i).1) b = true) (fun a => (m.inputs - a).toNat) 0 rfl ⟨by omega, upto_zero⟩ fun a ⟨⟨a0, a1⟩, a2⟩ => ?_
    by_cases ha : a < m.inputs
    · have hj := join_l (ix (m.places s) i).2 a (by omega)
      have hax : max a 0 = a := by omega
      cases hb : ix (ix T (ix (m.places s) i).1) a with
      | true =>
        simp [-More_nor, ha, a0, b1, b2, hb, hrl, hmx, hax]
        refine ⟨by omega, More_of (a + 1) (by simp) rfl ⟨by omega, upto_succ hb a2⟩ (by omega)⟩
      | false =>
        simp [-More_nor, ha, a0, b1, b2, hb, hrl, hmx, hax, hj]
        rw [fresh_hit i0 hi (open1_hit a0 ha hb a2) i2]
        simp [freshA]
    · simp [-More_nor, ha]
      refine ⟨by omega, More_of (i + 1) (by simp) rfl ⟨by omega, upto_succ (open1_no fun b b0 b1 => a2 b b0 (by omega)) i2⟩ (by omega)⟩
  · rw [fresh_no fun j a b => i2 j a (by omega)]
    simp [hi, freshA]
/-- What the document's function returns. -/
def Mly.freshR (m : Mly) : Option (Pl × Int) → AV
  | none => .tup [.snil, .int 0, .bool false]
  | some (p, a) => .tup [iL (p.2 ++ [a]), .int (ix (ix m.next p.1) a), .bool true]
theorem fresh_l (m : Mly) (h : m.fits) (hv : m.validE = 0) (x s : Int) (hs : 0 ≤ s ∧ s < (m.next.length : Int)) (box : Blk) (T : List (List Bool)) (rest : List Blk) (hT : Sh m.next.length m.inputs.toNat T) :
    LX L F_ref10_fresh [(m.at x).av, .int s, .sl 1 m.next.length 0 m.next.length] (grid1 box m.inputs.toNat m.next.length T rest) (fun v τ => τ = grid1 box m.inputs.toNat m.next.length T rest ∧ v = m.freshR (m.fresh s T)) := by
  have hm := mvalidE_ok hv
  obtain ⟨hi1, hi2⟩ := hm.inputs
  obtain ⟨hs1, hs2⟩ := hm.states
  have hp := RAt_s m h hv s hs
  have hq := places_ok m hm s hs
  have hqn := hq.le
  have b1 := g1_outerN (box := box) (C := m.inputs.toNat) (rest := rest) hT.len
  have hmx : max m.inputs 0 = m.inputs := by omega
  refine go_ref10_fresh rfl ?_
  simp [-List.map_map, hp]
  refine W_iter (fun i : Int => [(4, .int i)]) (fun _ => grid1 box m.inputs.toNat m.next.length T rest) (fun i => (0 ≤ i ∧ i ≤ (m.places s).length) ∧ ∀ j, 0 ≤ j → j < i → m.open1 T (ix (m.places s) j) = none) (fun i => ((m.places s).length - i).toNat) 0 rfl ⟨by omega, upto_zero⟩ fun i ⟨⟨i0, i1⟩, i2⟩ => ?_
  by_cases hi : i < (m.places s).length
  · have hr := hq.rng _ (ix_mem i0 hi)
    have hln := hq.len i i0 hi
    have g1 : ix ((m.places s).map (·.1)) i = (ix (m.places s) i).1 := ix_map i0 hi
    have g2 : ix ((m.places s).map (·.2)) i = (ix (m.places s) i).2 := ix_map i0 hi
    have hr' : 0 ≤ ix ((m.places s).map (·.1)) i ∧ ix ((m.places s).map (·.1)) i < (m.next.length : Int) := by rw [g1]; exact hr
    have b2 := g1_row (box := box) (C := m.inputs.toNat) (N := m.next.length) (rest := rest) (m := T) hr'.1 (by rw [hT.len]; exact hr'.2)
    have hrl := hT.ix hr'.1 hr'.2
    have hrow := (hm.row _ hr'.1 hr'.2).1
    have p1 := fun (K : AV → Prop) (t : Tk K) => pT_rfsN (e := 2) (C := m.inputs.toNat) (k := m.next.length) (K := K) (t := t) hr'.1 hr'.2
    simp [-More_nor, -List.map_map, hi, i0]
    (repeat' apply And.intro) <;> try omega
    refine W_iter (fun a : Int => [(6, .int a)]) (fun _ => grid1 box m.inputs.toNat m.next.length T rest) (fun a => (0 ≤ a ∧ a ≤ m.inputs) ∧ ∀ b, 0 ≤ b → b < a → ix (ix T (ix (m.places s) i).1) b = true) (fun a => (m.inputs - a).toNat) 0 rfl ⟨by omega, upto_zero⟩ fun a ⟨⟨a0, a1⟩, a2⟩ => ?_
    by_cases ha : a < m.inputs
    · have hj := Ext_s (ix ((m.places s).map (·.2)) i) a (by rw [g2]; omega)
      have hax : max a 0 = a := by omega
      cases hb : ix (ix T (ix (m.places s) i).1) a with
      | true =>
        rw [← g1] at hb
        simp [-More_nor, -List.map_map, hi, i0, ha, a0, b1, b2, hb, hrl, hmx, hax, hr'.1, hr'.2, ↓p1]
        refine ⟨by omega, More_of (a + 1) (by simp) rfl ⟨by omega, upto_succ (by rw [← g1]; exact hb) a2⟩ (by omega)⟩
      | false =>
        rw [← g1] at hb
        simp [-More_nor, -List.map_map, hi, i0, ha, a0, b1, b2, hb, hrl, hmx, hax, hj, hr'.1, hr'.2, ↓p1, hrow]
        rw [fresh_hit i0 hi (open1_hit a0 ha (by rw [← g1]; exact hb) a2) i2]
        simp [Mly.freshR, g1, g2]
    · simp [-More_nor, -List.map_map, ha]
      refine ⟨by omega, More_of (i + 1) (by simp) rfl ⟨by omega, upto_succ (open1_no fun b b0 b1 => a2 b b0 (by omega)) i2⟩ (by omega)⟩
  · rw [fresh_no fun j a b => i2 j a (by omega)]
    simp [-List.map_map, hi, Mly.freshR]
end Ab
namespace Ab
theorem lexC_app : ∀ {u v a b : List Int}, u.length = v.length → lexC (u ++ a) (v ++ b) = if lexC u v = 0 then lexC a b else lexC u v
  | [], [], a, b, _ => by simp [lexC]
  | x :: u, y :: v, a, b, h => by
    have e := lexC_app (u := u) (v := v) (a := a) (b := b) (by simpa using h)
    simp only [List.cons_append, lexC, e]
    split
    · simp
    · split
      · simp
      · rfl
theorem slx_app {u v : List Int} {a b : Int} (h : slxC u v < 0) : slxC (u ++ [a]) (v ++ [b]) < 0 := by
  unfold slxC at h ⊢
  simp only [List.length_append, List.length_cons, List.length_nil]
  by_cases h1 : u.length < v.length
  · rw [if_pos (by omega)]; omega
  · rw [if_neg h1] at h
    by_cases h2 : v.length < u.length
    · rw [if_pos h2] at h; omega
    · rw [if_neg h2] at h
      rw [if_neg (by omega), if_neg (by omega), lexC_app (by omega), if_neg (by omega)]
      exact h
theorem slx_same {u : List Int} {a b : Int} (h : a < b) : slxC (u ++ [a]) (u ++ [b]) < 0 := by
  unfold slxC
  rw [if_neg (by simp), if_neg (by simp), lexC_app rfl, lexC_refl, if_pos rfl]
  simp only [lexC, if_pos h]; omega
theorem slx_nil {w : List Int} (h : w ≠ []) : slxC [] w < 0 := by
  unfold slxC
  rw [if_pos (by simpa using List.length_pos_iff.2 h)]; omega
theorem slx_leapp {u v : List Int} {a : Int} (h : slxC u v ≤ 0) : slxC (u ++ [a]) (v ++ [a]) ≤ 0 := by
  by_cases e : slxC u v = 0
  · have := slxC_ok.eq u v e
    rw [this]
    have := slxC_ok.refl (v ++ [a]); omega
  · have := slx_app (a := a) (b := a) (show slxC u v < 0 by omega); omega
theorem slx_lt_le {u v w : List Int} (h : slxC u v < 0) (k : slxC v w ≤ 0) : slxC u w < 0 := by
  have h1 := slxC_ok.trans u v w (by omega) k
  by_cases e : slxC u w = 0
  · have e' := slxC_ok.eq u w e
    subst e'
    have := slxC_ok.anti u v
    omega
  · omega
/-- The queue when input a of place i is next. -/
structure Bi (m : Mly) (s i a : Int) (q : List Pl) : Prop where
  bq : Bq m s q
  par : ∀ k, 0 < k → k < (q.length : Int) → ∃ j b, 0 ≤ j ∧ (j < i ∨ j = i ∧ b < a) ∧ j < k ∧ (0 ≤ b ∧ b < m.inputs) ∧ ix q k = (ix (ix m.next (ix q j).1) b, (ix q j).2 ++ [b])
  asc : ∀ j k, 0 ≤ j → j < k → k < (q.length : Int) → slxC (ix q j).2 (ix q k).2 < 0
  done : ∀ j b, 0 ≤ j → j < (q.length : Int) → (j < i ∨ j = i ∧ b < a) → 0 ≤ b → b < m.inputs → ∃ k, 0 ≤ k ∧ k < (q.length : Int) ∧ (ix q k).1 = ix (ix m.next (ix q j).1) b ∧ slxC (ix q k).2 ((ix q j).2 ++ [b]) ≤ 0
theorem Bi.lt_new {m : Mly} {s i a : Int} {q : List Pl} (h : Bi m s i a q) (i1 : i < q.length) : ∀ k, 0 ≤ k → k < (q.length : Int) → slxC (ix q k).2 ((ix q i).2 ++ [a]) < 0 := by
  intro k k0 k1
  by_cases e : k = 0
  · subst e
    rw [h.bq.head]
    exact slx_nil (by simp)
  · obtain ⟨j, b, j0, j1, j2, b0, e⟩ := h.par k (by omega) k1
    rw [e]
    rcases j1 with j1 | ⟨rfl, j1⟩
    · exact slx_app (h.asc j i j0 j1 i1)
    · exact slx_same j1
theorem Bi.step {m : Mly} (hm : m.Ok) {s i a : Int} {q : List Pl} (h : Bi m s i a q) (i0 : 0 ≤ i) (i1 : i < q.length) (a0 : 0 ≤ a) (a1 : a < m.inputs) : Bi m s i (a + 1) (bstep m (ix q i) q a) := by
  have hr := h.bq.rng _ (ix_mem i0 i1)
  have hl := h.bq.len i i0 i1
  have hlt := h.lt_new i1
  have hbq := h.bq.step hm hr (by omega) a0 a1
  cases hh : hasS q (ix (ix m.next (ix q i).1) a) with
  | true =>
    rw [bstep_has hh] at hbq ⊢
    refine ⟨hbq, fun k k0 k1 => ?_, h.asc, fun j b j0 j1 jb b0 b1 => ?_⟩
    · obtain ⟨j, b, j0, j1, j2, b0, e⟩ := h.par k k0 k1
      exact ⟨j, b, j0, by omega, j2, b0, e⟩
    · by_cases e : j = i ∧ b = a
      · obtain ⟨rfl, rfl⟩ := e
        rw [hasS_iff] at hh
        obtain ⟨p, hp, e⟩ := List.mem_map.1 hh
        obtain ⟨k, hk, rfl⟩ := List.mem_iff_getElem.1 hp
        rw [← ix_nat hk] at e
        exact ⟨(k : Int), by omega, by omega, e, by have := hlt (k : Int) (by omega) (by omega); omega⟩
      · exact h.done j b j0 j1 (by omega) b0 b1
  | false =>
    rw [bstep_new hh] at hbq ⊢
    have hlen : ((q ++ [(ix (ix m.next (ix q i).1) a, (ix q i).2 ++ [a])]).length : Int) = q.length + 1 := by simp
    refine ⟨hbq, fun k k0 k1 => ?_, fun j k j0 jk k1 => ?_, fun j b j0 j1 jb b0 b1 => ?_⟩
    · rw [hlen] at k1
      by_cases e : k < (q.length : Int)
      · obtain ⟨j, b, j0, j1, j2, b0, e'⟩ := h.par k k0 e
        exact ⟨j, b, j0, by omega, j2, b0, by rw [ixa_app (by omega) e, ixa_app j0 (by omega)]; exact e'⟩
      · have : k = (q.length : Int) := by omega
        subst this
        exact ⟨i, a, i0, by omega, i1, ⟨a0, a1⟩, by rw [ixa_last, ixa_app i0 i1]⟩
    · rw [hlen] at k1
      by_cases e : k < (q.length : Int)
      · rw [ixa_app (by omega) e, ixa_app j0 (by omega)]
        exact h.asc j k j0 jk e
      · have : k = (q.length : Int) := by omega
        subst this
        rw [ixa_last, ixa_app j0 jk]
        exact hlt j j0 jk
    · rw [hlen] at j1 ⊢
      have j1' : j < (q.length : Int) := by omega
      rw [ixa_app j0 j1']
      by_cases e : j = i ∧ b = a
      · obtain ⟨rfl, rfl⟩ := e
        exact ⟨q.length, by omega, by omega, by rw [ixa_last], by rw [ixa_last]; exact Int.le_of_eq (slxC_ok.refl _)⟩
      · obtain ⟨k, k0, k1, e1, e2⟩ := h.done j b j0 j1' (by omega) b0 b1
        exact ⟨k, k0, by omega, by rw [ixa_app k0 k1]; exact e1, by rw [ixa_app k0 k1]; exact e2⟩
theorem places_bi (m : Mly) (hm : m.Ok) (s : Int) (hs : 0 ≤ s ∧ s < (m.next.length : Int)) : ∃ i, ((m.places s).length : Int) ≤ i ∧ Bi m s i 0 (m.places s) := by
  have hin := hm.inputs
  have row : ∀ (q : List Pl) (i : Int) (k : Nat), 0 ≤ i → i < (q.length : Int) → (k : Int) ≤ m.inputs → Bi m s i 0 q → Bi m s i k (brow m (ix q i) q k) ∧ (∀ j, 0 ≤ j → j < (q.length : Int) → ix (brow m (ix q i) q k) j = ix q j) ∧ q.length ≤ (brow m (ix q i) q k).length := by
    intro q i k i0 i1
    induction k with
    | zero => intro _ h; exact ⟨h, fun _ _ _ => rfl, Nat.le_refl _⟩
    | succ k ih =>
      intro hk h
      obtain ⟨h1, h2, h3⟩ := ih (by omega) h
      rw [show ((k + 1 : Nat) : Int) = (k : Int) + 1 by omega, brow_succ (by omega)]
      have e := h2 i i0 i1
      have st := h1.step hm i0 (by omega) (by omega) (by omega)
      rw [e] at st
      obtain ⟨l, el⟩ := bstep_pre (m := m) (p := ix q i) (q := brow m (ix q i) q k) (a := k)
      refine ⟨st, fun j j0 j1 => ?_, by rw [el]; simp; omega⟩
      rw [el, ixa_app j0 (by omega)]
      exact h2 j j0 j1
  have go : ∀ (f : Nat) (i : Int) (q : List Pl), 0 ≤ i → (m.next.length : Int) + 1 ≤ f + i → Bi m s i 0 q → ∃ i', ((bfs m f i q).length : Int) ≤ i' ∧ Bi m s i' 0 (bfs m f i q) := by
    intro f
    induction f with
    | zero => intro i q _ hf h; exact ⟨i, by have := h.bq.le; show (q.length : Int) ≤ i; omega, h⟩
    | succ f ih =>
      intro i q i0 hf h
      by_cases hi : i < q.length
      · rw [bfs_go hi]
        have := (row q i m.inputs.toNat i0 hi (by omega) h).1
        rw [show ((m.inputs.toNat : Nat) : Int) = m.inputs by omega] at this
        refine ih _ _ (by omega) (by omega) ⟨this.bq, fun k k0 k1 => ?_, this.asc, fun j b j0 j1 jb b0 b1 => this.done j b j0 j1 (by omega) b0 b1⟩
        obtain ⟨j, b, j0, j1, r⟩ := this.par k k0 k1
        exact ⟨j, b, j0, by omega, r⟩
      · rw [bfs_end hi]; exact ⟨i, by omega, h⟩
  refine go _ 0 _ (by omega) (by omega) ⟨Bq.init hs, fun k k0 k1 => ?_, fun j k j0 jk k1 => ?_, fun j b j0 j1 jb => ?_⟩
  · simp at k1; omega
  · simp at k1; omega
  · omega
/-- The state after a word. -/
def Mly.run (m : Mly) : Int → List Int → Int
  | s, [] => s
  | s, a :: w => m.run (ix (ix m.next s) a) w
theorem run_app {m : Mly} : ∀ {u v : List Int} {s : Int}, m.run s (u ++ v) = m.run (m.run s u) v
  | [], _, _ => rfl
  | a :: u, v, s => run_app (u := u)
/-- The words of the places. -/
structure Bf (m : Mly) (s : Int) (q : List Pl) : Prop where
  bq : Bq m s q
  run : ∀ k, 0 ≤ k → k < (q.length : Int) → m.run s (ix q k).2 = (ix q k).1 ∧ ∀ x ∈ (ix q k).2, 0 ≤ x ∧ x < m.inputs
  par : ∀ k, 0 < k → k < (q.length : Int) → ∃ j b, 0 ≤ j ∧ j < k ∧ (0 ≤ b ∧ b < m.inputs) ∧ ix q k = (ix (ix m.next (ix q j).1) b, (ix q j).2 ++ [b])
  pre : ∀ k n, 0 ≤ k → k < (q.length : Int) → n ≤ (ix q k).2.length → ∃ j, 0 ≤ j ∧ j ≤ k ∧ (n < (ix q k).2.length → j < k) ∧ (ix q j).2 = (ix q k).2.take n
  asc : ∀ j k, 0 ≤ j → j < k → k < (q.length : Int) → slxC (ix q j).2 (ix q k).2 < 0
  all : ∀ w, (∀ x ∈ w, 0 ≤ x ∧ x < m.inputs) → ∃ k, 0 ≤ k ∧ k < (q.length : Int) ∧ (ix q k).1 = m.run s w ∧ slxC (ix q k).2 w ≤ 0
theorem places_bf (m : Mly) (hm : m.Ok) (s : Int) (hs : 0 ≤ s ∧ s < (m.next.length : Int)) : Bf m s (m.places s) := by
  obtain ⟨i, hi, h⟩ := places_bi m hm s hs
  have par : ∀ k, 0 < k → k < ((m.places s).length : Int) → ∃ j b, 0 ≤ j ∧ j < k ∧ (0 ≤ b ∧ b < m.inputs) ∧ ix (m.places s) k = (ix (ix m.next (ix (m.places s) j).1) b, (ix (m.places s) j).2 ++ [b]) := fun k k0 k1 => by
    obtain ⟨j, b, j0, _, j2, b0, e⟩ := h.par k k0 k1
    exact ⟨j, b, j0, j2, b0, e⟩
  refine ⟨h.bq, ?_, par, ?_, h.asc, ?_⟩
  · have : ∀ n : Nat, ∀ k : Int, k < n → 0 ≤ k → k < ((m.places s).length : Int) → m.run s (ix (m.places s) k).2 = (ix (m.places s) k).1 ∧ ∀ x ∈ (ix (m.places s) k).2, 0 ≤ x ∧ x < m.inputs := by
      intro n
      induction n with
      | zero => intro k; omega
      | succ n ih =>
        intro k kn k0 k1
        by_cases e : k = 0
        · subst e; rw [h.bq.head]; exact ⟨rfl, by simp⟩
        · obtain ⟨j, b, j0, j2, b0, e⟩ := par k (by omega) k1
          obtain ⟨r1, r2⟩ := ih j (by omega) j0 (by omega)
          rw [e]
          refine ⟨by rw [run_app, r1]; rfl, fun x hx => ?_⟩
          rcases List.mem_append.1 hx with hx | hx
          · exact r2 x hx
          · simp at hx; subst hx; exact b0
    exact fun k k0 k1 => this (k.toNat + 1) k (by omega) k0 k1
  · have : ∀ n : Nat, ∀ (k : Int) (l : Nat), k < n → 0 ≤ k → k < ((m.places s).length : Int) → l ≤ (ix (m.places s) k).2.length → ∃ j, 0 ≤ j ∧ j ≤ k ∧ (l < (ix (m.places s) k).2.length → j < k) ∧ (ix (m.places s) j).2 = (ix (m.places s) k).2.take l := by
      intro n
      induction n with
      | zero => intro k; omega
      | succ n ih =>
        intro k l kn k0 k1 hl
        by_cases hle : l = (ix (m.places s) k).2.length
        · exact ⟨k, k0, by omega, by omega, by rw [hle, List.take_length]⟩
        · by_cases e : k = 0
          · subst e; rw [h.bq.head] at hl hle; simp at hl hle; omega
          · obtain ⟨j, b, j0, j2, b0, e⟩ := par k (by omega) k1
            rw [e] at hl hle
            simp at hl hle
            obtain ⟨j', a0, a1, _, a2⟩ := ih j l (by omega) j0 (by omega) (by omega)
            exact ⟨j', a0, by omega, fun _ => by omega, by rw [a2, e]; simp only; rw [List.take_append_of_le_length (by omega)]⟩
    exact fun k l k0 k1 hl => this (k.toNat + 1) k l (by omega) k0 k1 hl
  · intro w
    have : ∀ n : Nat, ∀ w : List Int, w.length = n → (∀ x ∈ w, 0 ≤ x ∧ x < m.inputs) → ∃ k, 0 ≤ k ∧ k < ((m.places s).length : Int) ∧ (ix (m.places s) k).1 = m.run s w ∧ slxC (ix (m.places s) k).2 w ≤ 0 := by
      intro n
      induction n with
      | zero =>
        intro w hw _
        have : w = [] := List.eq_nil_of_length_eq_zero hw
        subst this
        exact ⟨0, by omega, by have := h.bq.pos; omega, by rw [h.bq.head]; rfl, by rw [h.bq.head]; exact Int.le_of_eq (slxC_ok.refl _)⟩
      | succ n ih =>
        intro w hw hx
        have hne : w ≠ [] := by intro e; subst e; simp at hw
        have e : w = w.dropLast ++ [w.getLast hne] := (List.dropLast_concat_getLast hne).symm
        generalize w.dropLast = u at e
        generalize w.getLast hne = a at e
        subst e
        obtain ⟨j, j0, j1, e1, e2⟩ := ih u (by simpa using hw) fun x h => hx x (by simp [h])
        have ha := hx a (by simp)
        obtain ⟨k, k0, k1, e3, e4⟩ := h.done j a j0 j1 (by omega) ha.1 ha.2
        exact ⟨k, k0, k1, by rw [e3, run_app, e1]; rfl, slxC_ok.trans _ _ _ e4 (slx_leapp e2)⟩
    exact this w.length w rfl
theorem mul_nat {P : Nat} {c : Int} (h0 : 0 ≤ c) : (P : Int) * c = ((P * c.toNat : Nat) : Int) := by
  rw [Int.natCast_mul, show ((c.toNat : Nat) : Int) = c by omega]
theorem mul_small {P : Nat} {c : Int} (h0 : 0 ≤ c) (h1 : c ≤ 64) (h2 : P ≤ 128) : P * c.toNat ≤ 8192 := by have := Nat.mul_le_mul h2 (show c.toNat ≤ 64 by omega); omega
end Ab
