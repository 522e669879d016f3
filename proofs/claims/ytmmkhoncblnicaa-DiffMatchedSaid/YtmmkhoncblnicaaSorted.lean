/- The reachable states with their first words; paths. Comparisons, sorted words, in memory. Condition: none. -/
import Derived.Test.YtmmkhoncblnicaaBfsOrd
set_option linter.all false
set_option maxRecDepth 100000
set_option maxHeartbeats 4000000
namespace Ab
theorem places_s (m : Mly) (hm : m.Ok) (s : Int) (hs : 0 ≤ s ∧ s < (m.next.length : Int)) : PC F_cover_places [m.av, .int s] = some (.imm false ((m.places s).map fun p => .agg [.int p.1, iL p.2])) := by
  obtain ⟨hi1, hi2⟩ := hm.inputs
  obtain ⟨hs1, hs2⟩ := hm.states
  refine PCx_of (go_cover_places rfl ?_)
  simp [-List.map_replicate]
  refine ⟨by omega, by omega, by omega, ?_⟩
  refine W_iter (fun p : Int × List Pl × List Bool => [(4, .int p.1), (5, .sl 1 (2 * p.2.1.length) 0 p.2.1.length)]) (fun p => [⟨none, p.2.2.map .bool, .live⟩, ⟨some 2, pc p.2.1, .live⟩])
    (fun p => (0 ≤ p.1 ∧ p.1 ≤ p.2.1.length) ∧ Bq m s p.2.1 ∧ Sn m.next.length p.2.2 p.2.1 ∧ ∃ f : Nat, bfs m f p.1 p.2.1 = m.places s ∧ (m.next.length : Int) + 1 ≤ f + p.1)
    (fun p => (m.next.length - p.1).toNat) (0, [(s, [])], (List.replicate m.next.length false).set s.toNat true) (by simp [sets, pc, wB, catR]) ⟨by simp, Bq.init hs, ?_, m.next.length + 1, rfl, by simp⟩ ?_
  · have := Sn.add (N := m.next.length) (b := List.replicate m.next.length false) (q := []) (w := []) ⟨by simp, fun t t0 t1 => by rw [ixs_rep t0 t1]; rfl⟩ hs.1 hs.2
    simpa using this
  rintro ⟨i, q, b⟩ ⟨⟨i0, i1⟩, hq, hb, f, hf1, hf2⟩
  dsimp only at i0 i1 hq hb hf1 hf2 ⊢
  have hqn := hq.le
  by_cases hi : i < q.length
  · have hp := hq.rng _ (ix_mem i0 hi)
    have hrow := (hm.row _ hp.1 hp.2).1
    have hel := elm_pc i0 hi
    simp [-More_nor, hi, i0, hel, pc_len, hp.1, hp.2, hrow]
    (repeat' apply And.intro) <;> try omega
    refine W_iter (fun p : Int × List Pl × List Bool => [(5, .sl 1 (2 * p.2.1.length) 0 p.2.1.length), (6, .int p.1)]) (fun p => [⟨none, p.2.2.map .bool, .live⟩, ⟨some 2, pc p.2.1, .live⟩])
      (fun p => (0 ≤ p.1 ∧ p.1 ≤ m.inputs) ∧ Bq m s p.2.1 ∧ Sn m.next.length p.2.2 p.2.1 ∧ p.2.1 = brow m (ix q i) q p.1 ∧ q.length ≤ p.2.1.length ∧ ix p.2.1 i = ix q i)
      (fun p => (m.inputs - p.1).toNat) (0, q, b) (by simp [sets]) ⟨by simp; omega, hq, hb, rfl, by simp, rfl⟩ ?_
    rintro ⟨a, q', b'⟩ ⟨⟨a0, a1⟩, gq, gb, ge, gl, gx⟩
    dsimp only at a0 a1 gq gb ge gl gx ⊢
    have gqn := gq.le
    by_cases ha : a < m.inputs
    · have ht := hm.nx _ a hp.1 hp.2 a0 ha
      have hbk := gb.ok _ ht.1 ht.2
      have hbl := gb.len
      have gel := elm_pc (q := q') i0 (by omega)
      rw [gx] at gel
      have hwl := gq.len i i0 (by omega)
      rw [gx] at hwl
      have hj := join_p (ix q i) a (by omega)
      have es : brow m (ix q i) q (a + 1) = bstep m (ix q i) q' a := by rw [brow_succ a0, ← ge]
      cases hh : hasS q' (ix (ix m.next (ix q i).1) a) with
      | true =>
        simp [-More_nor, ha, a0, i0, hp.1, hp.2, hrow, ht.1, ht.2, hbl, hbk, gel, pc_len, show i < (q'.length : Int) by omega, hh]
        refine ⟨by omega, More_of (a + 1, q', b') (by simp) rfl ⟨by dsimp only; omega, gq, gb, by dsimp only; rw [es, bstep_has hh], gl, gx⟩ (by dsimp only; omega)⟩
      | false =>
        simp [-More_nor, ha, a0, i0, hp.1, hp.2, hrow, ht.1, ht.2, hbl, hbk, gel, pc_len, show i < (q'.length : Int) by omega, hh, noLoc_wB, cells_wB, hj]
        have hne : (ix q i).2 ++ [a] ≠ [] := by simp
        refine ⟨notUnd_pW, by omega, fun _ => ⟨by omega, More_of (a + 1, q' ++ [(ix (ix m.next (ix q i).1) a, (ix q i).2 ++ [a])], b'.set (ix (ix m.next (ix q i).1) a).toNat true) (by simp [sets]; omega) (by simp [pc_add]) ⟨by dsimp only; omega, gq.add ht hh hne (by simp; omega), gb.add ht.1 ht.2, by dsimp only; rw [es, bstep_new hh], by simp; omega, by dsimp only; rw [ixa_app i0 (by omega), gx]⟩ (by dsimp only; omega)⟩, fun hc => (hc (by simp only [kst]; omega)).elim⟩
    · have hai : a = m.inputs := by omega
      subst hai
      simp [-More_nor]
      refine ⟨by omega, More_of (i + 1, q', b') (by simp) rfl ⟨by dsimp only; omega, gq, gb, ?_⟩ (by dsimp only; omega)⟩
      match f, hf1, hf2 with
      | 0, _, hf2 => omega
      | f + 1, hf1, hf2 => exact ⟨f, by dsimp only; rw [bfs_go hi, ← ge] at hf1; exact hf1, by dsimp only; omega⟩
  · have hv := view_pc (σ := [⟨none, b.map .bool, .live⟩, ⟨some 2, pc q, .live⟩]) (b := 1) (n := q.length) (q := q) (fr := false) (st := .live) rfl (by simp) rfl rfl
    simp [hi, hv]
    rw [← hf1, bfs_end hi]
end Ab
namespace Ab
def cI (x y : Int) : Int := if x < y then -1 else if y < x then 1 else 0
theorem isNaN_s (x : Int) : PC F_cmp_isNaN_int [.int x] = some (.bool false) := by
  refine PCx_of (go_cmp_isNaN_int rfl ?_)
  simp
theorem cmpI_s (x y : Int) : PC F_cmp_Compare_int [.int x, .int y] = some (.int (cI x y)) := by
  refine PCx_of (go_cmp_Compare_int rfl ?_)
  simp [isNaN_s]
  refine ⟨fun h => by simp [cI, h], fun h => ⟨fun k => ?_, fun k => ?_⟩⟩
  · simp [cI, k]; omega
  · simp [cI]; omega
theorem or_s (x y : Int) : PC F_cmp_Or_int [.imm false [.int x, .int y]] = some (.int (if x = 0 then y else x)) := by
  refine PCx_of (go_cmp_Or_int rfl ?_)
  have e : (.imm false [.int x, .int y] : AV) = iL [x, y] := rfl
  rw [e]
  simp only [iL]
  generalize hl : [x, y] = l
  have hlen : l.length = 2 := by rw [← hl]; rfl
  simp [hlen]
  refine W_iter (fun i : Int => [(1, .int i)]) (fun _ => []) (fun i => 0 ≤ i ∧ i ≤ 2 ∧ ∀ j, 0 ≤ j → j < i → ix l j = 0) (fun i => (2 - i).toNat) 0 rfl ⟨by omega, by omega, upto_zero⟩ fun i ⟨i0, i1, i2⟩ => ?_
  have e0 : ix l 0 = x := by rw [← hl]; rfl
  have e1 : ix l 1 = y := by rw [← hl]; rfl
  by_cases hi : i < 2
  · simp [-More_nor, hi, i0, hlen]
    refine ⟨fun h => ⟨by omega, More_of (i + 1) rfl rfl ⟨by omega, by omega, upto_succ h i2⟩ (by omega)⟩, fun h => ?_⟩
    by_cases e : i = 0
    · subst e; rw [e0] at h ⊢; simp [h]
    · have : i = 1 := by omega
      subst this
      have := i2 0 (by omega) (by omega)
      rw [e0] at this
      rw [e1]; simp [this]
  · have h0 := i2 0 (by omega) (by omega)
    have h1 := i2 1 (by omega) (by omega)
    rw [e0] at h0; rw [e1] at h1
    simp [hi, h0, h1]
theorem lex_drop {a b : List Int} {i : Int} (h0 : 0 ≤ i) (h1 : i < a.length) (h2 : i < b.length) : lexC (a.drop i.toNat) (b.drop i.toNat) = if cI (ix a i) (ix b i) = 0 then lexC (a.drop (i + 1).toNat) (b.drop (i + 1).toNat) else cI (ix a i) (ix b i) := by
  rw [drop_ix h0 h1, drop_ix h0 h2]
  unfold cI
  simp only [lexC]
  split
  · simp
  · split <;> simp
theorem scmp_s (a b : List Int) (ha : (a.length : Int) ≤ 9223372036854775807) (hb : (b.length : Int) ≤ 9223372036854775807) : PC F_slices_Compare_Sint_int [iL a, iL b] = some (.int (lexC a b)) := by
  refine PCx_of (go_slices_Compare_Sint_int rfl ?_)
  simp
  refine W_iter (fun i : Int => [(2, .int i)]) (fun _ => []) (fun i => 0 ≤ i ∧ i ≤ a.length ∧ i ≤ b.length ∧ lexC (a.drop i.toNat) (b.drop i.toNat) = lexC a b) (fun i => (a.length - i).toNat) 0 rfl ⟨by omega, by omega, by omega, rfl⟩ fun i ⟨i0, i1, i2, i3⟩ => ?_
  by_cases hi : i < a.length
  · by_cases hj : i < b.length
    · have e := lex_drop i0 hi hj
      rw [i3] at e
      simp [-More_nor, hi, hj, i0, cmpI_s, show ¬ (b.length : Int) ≤ i by omega]
      refine ⟨fun h => ⟨by omega, More_of (i + 1) rfl rfl ⟨by omega, by omega, by omega, by rw [if_pos h] at e; exact e.symm⟩ (by omega)⟩, fun h => by rw [if_neg h] at e; exact e.symm⟩
    · have e : b.drop i.toNat = [] := drop_end (by omega)
      rw [e, drop_ix i0 hi] at i3
      have i3 : (1 : Int) = lexC a b := i3
      simp [-More_nor, hi, hj, i0, show (b.length : Int) ≤ i by omega]
      exact i3
  · have e : a.drop i.toNat = [] := drop_end (by omega)
    rw [e] at i3
    simp [hi]
    by_cases hj : i < b.length
    · rw [drop_ix i0 hj] at i3
      have i3 : (-1 : Int) = lexC a b := i3
      exact ⟨fun _ => i3, fun h => by omega⟩
    · rw [drop_end (by omega)] at i3
      have i3 : (0 : Int) = lexC a b := i3
      exact ⟨fun h => by omega, fun _ => i3⟩
theorem wcmp_s (a b : List Int) (ha : (a.length : Int) ≤ 9223372036854775807) (hb : (b.length : Int) ≤ 9223372036854775807) : PC F_word_Compare [iL a, iL b] = some (.int (slxC a b)) := by
  refine PCx_of (go_word_Compare rfl ?_)
  simp [cmpI_s, scmp_s a b ha hb, or_s]
  unfold slxC cI
  (repeat' split) <;> first | rfl | omega
/-- A comparison. -/
abbrev Cmp := List Int → List Int → Int
section
variable {K : Cmp}
def insG (K : Cmp) (x : List Int) : List (List Int) → List (List Int)
  | [] => [x]
  | y :: r => if K x y ≤ 0 then x :: y :: r else y :: insG K x r
def sortG (K : Cmp) : List (List Int) → List (List Int)
  | [] => []
  | x :: r => insG K x (sortG K r)
theorem insG_perm (x : List Int) : ∀ l, (insG K x l).Perm (x :: l)
  | [] => .refl _
  | y :: r => by
    unfold insG
    split
    · exact .refl _
    · exact ((insG_perm x r).cons y).trans (.swap x y r)
theorem sortG_perm : ∀ l, (sortG K l).Perm l
  | [] => .refl _
  | x :: r => (insG_perm x _).trans ((sortG_perm r).cons x)
theorem k_total (hK : KOk K) {u v : List Int} (h : ¬ K u v ≤ 0) : K v u ≤ 0 := by have := hK.anti u v; omega
theorem insG_sorted (hK : KOk K) (x : List Int) : ∀ {l : List (List Int)}, l.Pairwise (fun a b => K a b ≤ 0) → (insG K x l).Pairwise (fun a b => K a b ≤ 0)
  | [], _ => by simp [insG]
  | y :: r, h => by
    rw [List.pairwise_cons] at h
    unfold insG
    split
    · rename_i hx
      rw [List.pairwise_cons, List.pairwise_cons]
      refine ⟨fun a ha => ?_, h⟩
      rcases List.mem_cons.1 ha with rfl | ha
      · exact hx
      · exact hK.trans _ _ _ hx (h.1 a ha)
    · rename_i hx
      rw [List.pairwise_cons]
      refine ⟨fun a ha => ?_, insG_sorted hK x h.2⟩
      rcases List.mem_cons.1 ((insG_perm x r).mem_iff.1 ha) with rfl | ha
      · exact k_total hK hx
      · exact h.1 a ha
theorem sortG_sorted (hK : KOk K) : ∀ l, (sortG K l).Pairwise (fun a b => K a b ≤ 0)
  | [] => .nil
  | x :: r => insG_sorted hK x (sortG_sorted hK r)
/-- The first n words, each once (of a sorted list). -/
def cmpN (l : List (List Int)) : Nat → List (List Int)
  | 0 => []
  | n + 1 => if 0 < n ∧ ix l (n : Int) = ix l ((n : Int) - 1) then cmpN l n else cmpN l n ++ [ix l (n : Int)]
def compW (l : List (List Int)) : List (List Int) := cmpN l l.length
theorem cmpN_mem {l : List (List Int)} : ∀ {n : Nat} {w : List Int}, n ≤ l.length → (w ∈ cmpN l n ↔ ∃ j : Int, 0 ≤ j ∧ j < n ∧ ix l j = w)
  | 0, w, _ => by simp [cmpN]; intro j; omega
  | n + 1, w, h => by
    have ih := fun w => cmpN_mem (l := l) (n := n) (w := w) (by omega)
    unfold cmpN
    split
    · rename_i he
      rw [ih]
      constructor
      · rintro ⟨j, j0, j1, e⟩; exact ⟨j, j0, by omega, e⟩
      · rintro ⟨j, j0, j1, e⟩
        by_cases hj : j = (n : Int)
        · subst hj; exact ⟨(n : Int) - 1, by omega, by omega, by rw [← he.2]; exact e⟩
        · exact ⟨j, j0, by omega, e⟩
    · rw [List.mem_append, ih]
      constructor
      · rintro (⟨j, j0, j1, e⟩ | e)
        · exact ⟨j, j0, by omega, e⟩
        · simp at e; exact ⟨n, by omega, by omega, e.symm⟩
      · rintro ⟨j, j0, j1, e⟩
        by_cases hj : j = (n : Int)
        · subst hj; right; simp [e]
        · left; exact ⟨j, j0, by omega, e⟩
theorem compW_mem {l : List (List Int)} {w : List Int} : w ∈ compW l ↔ w ∈ l := by
  unfold compW
  rw [cmpN_mem (Nat.le_refl _)]
  constructor
  · rintro ⟨j, j0, j1, rfl⟩; exact ix_mem j0 j1
  · intro h
    obtain ⟨i, hi, rfl⟩ := List.mem_iff_getElem.1 h
    exact ⟨i, by omega, by omega, ix_nat hi⟩
/-- Strictly sorted. -/
abbrev ascG (K : Cmp) (l : List (List Int)) : Prop := l.Pairwise fun a b => K a b < 0
theorem pw_ix (hK : KOk K) {l : List (List Int)} (h : l.Pairwise (fun a b => K a b ≤ 0)) {i j : Int} (i0 : 0 ≤ i) (ij : i ≤ j) (j1 : j < l.length) : K (ix l i) (ix l j) ≤ 0 := by
  by_cases e : i = j
  · subst e; exact Int.le_of_eq (hK.refl _)
  · rw [List.pairwise_iff_getElem] at h
    have := h i.toNat j.toNat (by omega) (by omega) (by omega)
    rw [← ix_nat (by omega), ← ix_nat (by omega)] at this
    rwa [show ((i.toNat : Nat) : Int) = i by omega, show ((j.toNat : Nat) : Int) = j by omega] at this
theorem cmpN_ascG (hK : KOk K) {l : List (List Int)} (h : l.Pairwise (fun a b => K a b ≤ 0)) : ∀ {n : Nat}, n ≤ l.length → ascG K (cmpN l n)
  | 0, _ => .nil
  | n + 1, hn => by
    have ih := cmpN_ascG hK h (n := n) (by omega)
    unfold cmpN
    split
    · exact ih
    · rename_i hne
      rw [ascG, List.pairwise_append]
      refine ⟨ih, by simp, fun a ha b hb => ?_⟩
      simp at hb; subst hb
      obtain ⟨j, j0, j1, rfl⟩ := (cmpN_mem (by omega)).1 ha
      have n0 : 0 < n := by omega
      have h1 := pw_ix hK h j0 (show j ≤ (n : Int) - 1 by omega) (by omega)
      have h2 := pw_ix hK h (show 0 ≤ (n : Int) - 1 by omega) (show (n : Int) - 1 ≤ n by omega) (by omega)
      have h3 : ¬ K (ix l ((n : Int) - 1)) (ix l n) = 0 := fun e => hne ⟨n0, (hK.eq _ _ e).symm⟩
      have h4 := hK.trans _ _ _ h1 h2
      by_cases e : K (ix l j) (ix l n) = 0
      · have e' := hK.eq _ _ e
        rw [e'] at h1
        have := hK.anti (ix l n) (ix l ((n : Int) - 1))
        omega
      · omega
/-- The words of a list, sorted, each once. -/
def sortUG (K : Cmp) (l : List (List Int)) : List (List Int) := compW (sortG K l)
theorem sortUG_mem {l : List (List Int)} {w : List Int} : w ∈ sortUG K l ↔ w ∈ l := by
  unfold sortUG; rw [compW_mem, (sortG_perm l).mem_iff]
theorem sortUG_asc (hK : KOk K) (l : List (List Int)) : ascG K (sortUG K l) := cmpN_ascG hK (sortG_sorted hK l) (Nat.le_refl _)
theorem k_irrefl (hK : KOk K) {a : List Int} (h : K a a < 0) : False := by have := hK.refl a; omega
theorem ascG_eq (hK : KOk K) : ∀ {l k : List (List Int)}, ascG K l → ascG K k → (∀ w, w ∈ l ↔ w ∈ k) → l = k
  | [], [], _, _, _ => rfl
  | [], y :: k, _, _, h => by have := (h y).2 (by simp); simp at this
  | x :: l, [], _, _, h => by have := (h x).1 (by simp); simp at this
  | x :: l, y :: k, h1, h2, h => by
    rw [ascG, List.pairwise_cons] at h1 h2
    have e : x = y := by
      rcases List.mem_cons.1 ((h x).1 (by simp)) with e | hx
      · exact e
      · rcases List.mem_cons.1 ((h y).2 (by simp)) with e | hy
        · exact e.symm
        · have a := h2.1 x hx
          have b := h1.1 y hy
          have := hK.anti x y
          omega
    subst e
    rw [ascG_eq hK h1.2 h2.2 fun w => ?_]
    constructor
    · intro hw
      rcases List.mem_cons.1 ((h w).1 (by simp [hw])) with e | hk
      · subst e; exact (k_irrefl hK (h1.1 w hw)).elim
      · exact hk
    · intro hw
      rcases List.mem_cons.1 ((h w).2 (by simp [hw])) with e | hk
      · subst e; exact (k_irrefl hK (h2.1 w hw)).elim
      · exact hk
theorem sortUG_eq (hK : KOk K) {l k : List (List Int)} (hk : ascG K k) (h : ∀ w, w ∈ l ↔ w ∈ k) : sortUG K l = k := ascG_eq hK (sortUG_asc hK l) hk fun w => by rw [sortUG_mem, h]
end
abbrev asc (l : List (List Int)) : Prop := ascG slxC l
abbrev sortU (l : List (List Int)) : List (List Int) := sortUG slxC l
theorem sortU_eq {l k : List (List Int)} (hk : asc k) (h : ∀ w, w ∈ l ↔ w ∈ k) : sortU l = k := sortUG_eq slxC_ok hk h
/-- The comparison is this function. -/
structure CmpF (f : Nat) (K : Cmp) : Prop where
  ok : KOk K
  run : ∀ a b : List Int, (a.length : Int) ≤ 1000000 → (b.length : Int) ≤ 1000000 → PC f [iL a, iL b] = some (.int (K a b))
  one : K = slxC ∨ K = lexC
section
variable {K : Cmp}
theorem wclone_s (w : List Int) (h : (w.length : Int) ≤ 1000000) : PC F_slices_Clone_Sint_int [iL w] = some (iL w) := by
  have e : pClone1 (cN G Q 0) [iL w] = some (iL w) := by
    simp only [pClone1, iL]
    rw [if_pos]
    simp [isScalar]
    try omega
  have := go_slices_Clone_Sint_int e
  unfold PC PCx
  rw [this]
  rfl
end
section
variable {f : Nat} {K : Cmp} (hF : CmpF f K)
include hF
end
end Ab
