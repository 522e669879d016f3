/- The reachable states with their first words: the program's. Condition: none. -/
import Derived.Test.YtbpkebkldaifgaaBfs
import Derived.Test.YtbpkebkldaifgaaWords
set_option linter.all false
set_option maxRecDepth 100000
set_option maxHeartbeats 4000000
namespace Ab
/-- The first word of a place. -/
abbrev pW (p : Pl) : AV := wB (true, p.2)
/-- The places as a value. -/
abbrev pA (p : Pl) : AV := .agg [.int p.1, pW p]
/-- A queue in memory. -/
def pc (q : List Pl) : List AV := q.flatMap fun p => [.int p.1, pW p]
theorem notUnd_pW {p : Pl} : notUnd (pW p) = true := by
  rcases wB_cases (true, p.2) with h | h
  · rw [pW, h.1]; rfl
  · rw [pW, h]; rfl
theorem pc_add {q : List Pl} {t : Int} {w : List Int} {a : Int} : pc (q ++ [(t, w ++ [a])]) = pc q ++ [.int t, .imm false (w.map .int ++ [.int a])] := by
  simp [pc, pW, wB]
theorem pc_len {q : List Pl} : (pc q).length = 2 * q.length := by
  induction q with
  | nil => rfl
  | cons p q ih => simp only [pc, List.flatMap_cons, List.length_append, List.length_cons, List.length_nil] at ih ⊢; omega
theorem pc_get : ∀ {q : List Pl} {n : Nat}, n < q.length → (pc q)[n * 2]? = some (.int (ix q (n : Int)).1) ∧ (pc q)[n * 2 + 1]? = some (pW (ix q (n : Int)))
  | p :: q, 0, _ => ⟨rfl, rfl⟩
  | p :: q, n + 1, h => by
    have := pc_get (q := q) (n := n) (by simpa using h)
    have e : ix (p :: q) ((n + 1 : Nat) : Int) = ix q (n : Int) := by simp [ix]
    rw [e, show (n + 1) * 2 = n * 2 + 1 + 1 by omega]
    exact this
theorem elm_pc {q : List Pl} {n : Int} (h0 : 0 ≤ n) (h1 : n < q.length) : elm (pc q) (n.toNat * 2) = some (.int (ix q n).1) ∧ elm (pc q) (n.toNat * 2 + 1) = some (pW (ix q n)) := by
  have := pc_get (q := q) (n := n.toNat) (by omega)
  rw [show ((n.toNat : Nat) : Int) = n by omega] at this
  rw [elm_eq, elm_eq]; exact this
theorem chunk_pc : ∀ {q : List Pl}, chunk (some 2) q.length (pc q) = q.map pA
  | [] => rfl
  | p :: q => by
    have e := chunk_pc (q := q)
    rw [List.map_cons, ← e]; rfl
theorem view_pc {σ : List Blk} {fr : Bool} {b n u : Nat} {q : List Pl} {st : BSt} (h : blk σ b = some ⟨some 2, pc q, st⟩) (hs : st ≠ .dead) (hn : n = q.length) (hu : u = 2 * n) :
    view σ false vd (.sl b u 0 n) = some (.imm false (q.map fun p => .agg [.int p.1, iL p.2])) := by
  subst hu hn
  have hu : upto σ b (2 * q.length) = some ⟨some 2, pc q, st⟩ := by
    unfold upto
    rw [h]
    cases st <;> simp [pc_len] at hs ⊢
  show view σ false (11 + 1) _ = _
  unfold view
  simp only [hu, kst, pc_len, List.drop_zero]
  rw [if_pos (by omega), chunk_pc, mapO_mp (g := fun p => .agg [.int p.1, iL p.2])]
  intro p _
  rcases wB_cases (true, p.2) with h | h
  · simp [h.1, show p.2 = [] from h.2]
  · simp [h]
theorem pT_pc0 {q : List Pl} {n : Int} {K : AV → Prop} {t : Tk K} (h0 : 0 ≤ n) (h1 : n < q.length) : pT (pc q) (0 + n.toNat * 2) none K t = K (.int (ix q n).1) := by
  have := (pc_get (q := q) (n := n.toNat) (by omega)).1
  rw [show ((n.toNat : Nat) : Int) = n by omega] at this
  unfold pT part
  simp only [Nat.zero_add, elm_eq, this]; rfl
theorem pT_pc1 {q : List Pl} {n : Int} {K : AV → Prop} {t : Tk K} (h0 : 0 ≤ n) (h1 : n < q.length) : pT (pc q) (0 + n.toNat * 2 + 1) none K t = K (pW (ix q n)) := by
  have := (pc_get (q := q) (n := n.toNat) (by omega)).2
  rw [show ((n.toNat : Nat) : Int) = n by omega] at this
  unfold pT part
  simp only [Nat.zero_add, elm_eq, this]; rfl
theorem ixs_set {α : Type} [Inhabited α] {l : List α} {n : Nat} {i : Int} {x : α} (h0 : 0 ≤ i) (h1 : i < l.length) : ix (l.set n x) i = if i = n then x else ix l i := by
  unfold ix
  rw [List.getD_eq_getElem?_getD, List.getD_eq_getElem?_getD, List.getElem?_set]
  by_cases e : i = n
  · rw [if_pos (by omega), if_pos (by omega), if_pos e]; rfl
  · rw [if_neg (by omega), if_neg e]
theorem ixs_rep {α : Type} [Inhabited α] {n : Nat} {x : α} {i : Int} (h0 : 0 ≤ i) (h1 : i < n) : ix (List.replicate n x) i = x := by
  unfold ix
  rw [List.getD_eq_getElem?_getD, List.getElem?_replicate, if_pos (by omega)]; rfl
/-- The states that were seen. -/
structure Sn (N : Nat) (b : List Bool) (q : List Pl) : Prop where
  len : b.length = N
  ok : ∀ t, 0 ≤ t → t < (N : Int) → ix b t = hasS q t
theorem Sn.add {N : Nat} {b : List Bool} {q : List Pl} (h : Sn N b q) {t : Int} {w : List Int} (t0 : 0 ≤ t) (t1 : t < N) : Sn N (b.set t.toNat true) (q ++ [(t, w)]) := by
  refine ⟨by simp [h.len], fun u u0 u1 => ?_⟩
  rw [ixs_set u0 (by have := h.len; omega)]
  by_cases e : u = (t.toNat : Int)
  · rw [if_pos e]; simp [hasS]; right; omega
  · rw [if_neg e, h.ok u u0 u1]
    simp [hasS]
    omega
theorem join_p (p : Pl) (a : Int) (h : p.2.length ≤ 100000) : PCx L F_word_Join [.imm false [pW p, .imm false [.int a]]] = some (iL (p.2 ++ [a])) := by
  have := Join_s [(true, p.2), (false, [a])] (by simp) (by simp [cat]; omega)
  simp [cat] at this
  rw [← this]
  rfl
theorem places_s (m : Mly) (hm : m.Ok) (s : Int) (hs : 0 ≤ s ∧ s < (m.next.length : Int)) : PC F_cover_places [m.av, .int s] = some (.imm false ((m.places s).map fun p => .agg [.int p.1, iL p.2])) := by
  obtain ⟨hi1, hi2⟩ := hm.inputs
  obtain ⟨hs1, hs2⟩ := hm.states
  refine PCx_of (go_cover_places rfl ?_)
  simp [-List.map_replicate]
  refine ⟨by omega, by omega, by omega, ?_⟩
  refine W_iter (fun p : Int × List Pl × List Bool => [(4, .int p.1), (5, .sl 1 (2 * p.2.1.length) 0 p.2.1.length)]) (fun p => [⟨none, p.2.2.map .bool, .live⟩, ⟨some 2, pc p.2.1, .live⟩])
    (fun p => (0 ≤ p.1 ∧ p.1 ≤ p.2.1.length) ∧ Bq m s p.2.1 ∧ Sn m.next.length p.2.2 p.2.1 ∧ ∃ f : Nat, bfs m f p.1 p.2.1 = m.places s ∧ (m.next.length : Int) + 1 ≤ f + p.1)
    (fun p => (m.next.length - p.1).toNat) (0, [(s, [])], (List.replicate m.next.length false).set s.toNat true) (by simp [sets, pc, wB, catR]) ⟨by simp, Bq.init hs, ?_, m.next.length + 1, rfl, by simp⟩ ?_
  · have := Sn.add (N := m.next.length) (b := List.replicate m.next.length false) (q := []) (w := []) ⟨by simp, fun t t0 t1 => by rw [ixs_rep t0 t1]; rfl⟩ hs.1 hs.2
    simpa using this
  rintro ⟨i, q, b⟩ ⟨⟨i0, i1⟩, hq, hb, f, hf1, hf2⟩
  dsimp only at i0 i1 hq hb hf1 hf2 ⊢
  have hqn := hq.le
  by_cases hi : i < q.length
  · have hp := hq.rng _ (ix_mem i0 hi)
    have hrow := (hm.row _ hp.1 hp.2).1
    have hel := elm_pc i0 hi
    simp [-More_nor, hi, i0, hel, pc_len, hp.1, hp.2, hrow]
    (repeat' apply And.intro) <;> try omega
    refine W_iter (fun p : Int × List Pl × List Bool => [(5, .sl 1 (2 * p.2.1.length) 0 p.2.1.length), (6, .int p.1)]) (fun p => [⟨none, p.2.2.map .bool, .live⟩, ⟨some 2, pc p.2.1, .live⟩])
      (fun p => (0 ≤ p.1 ∧ p.1 ≤ m.inputs) ∧ Bq m s p.2.1 ∧ Sn m.next.length p.2.2 p.2.1 ∧ p.2.1 = brow m (ix q i) q p.1 ∧ q.length ≤ p.2.1.length ∧ ix p.2.1 i = ix q i)
      (fun p => (m.inputs - p.1).toNat) (0, q, b) (by simp [sets]) ⟨by simp; omega, hq, hb, rfl, by simp, rfl⟩ ?_
    rintro ⟨a, q', b'⟩ ⟨⟨a0, a1⟩, gq, gb, ge, gl, gx⟩
    dsimp only at a0 a1 gq gb ge gl gx ⊢
    have gqn := gq.le
    by_cases ha : a < m.inputs
    · have ht := hm.nx _ a hp.1 hp.2 a0 ha
      have hbk := gb.ok _ ht.1 ht.2
      have hbl := gb.len
      have gel := elm_pc (q := q') i0 (by omega)
      rw [gx] at gel
      have hwl := gq.len i i0 (by omega)
      rw [gx] at hwl
      have hj := join_p (ix q i) a (by omega)
      have es : brow m (ix q i) q (a + 1) = bstep m (ix q i) q' a := by rw [brow_succ a0, ← ge]
      cases hh : hasS q' (ix (ix m.next (ix q i).1) a) with
      | true =>
        simp [-More_nor, ha, a0, i0, hp.1, hp.2, hrow, ht.1, ht.2, hbl, hbk, gel, pc_len, show i < (q'.length : Int) by omega, hh]
        refine ⟨by omega, More_of (a + 1, q', b') (by simp) rfl ⟨by dsimp only; omega, gq, gb, by dsimp only; rw [es, bstep_has hh], gl, gx⟩ (by dsimp only; omega)⟩
      | false =>
        simp [-More_nor, ha, a0, i0, hp.1, hp.2, hrow, ht.1, ht.2, hbl, hbk, gel, pc_len, show i < (q'.length : Int) by omega, hh, noLoc_wB, cells_wB, hj]
        have hne : (ix q i).2 ++ [a] ≠ [] := by simp
        refine ⟨notUnd_pW, by omega, fun _ => ⟨by omega, More_of (a + 1, q' ++ [(ix (ix m.next (ix q i).1) a, (ix q i).2 ++ [a])], b'.set (ix (ix m.next (ix q i).1) a).toNat true) (by simp [sets]; omega) (by simp [pc_add]) ⟨by dsimp only; omega, gq.add ht hh hne (by simp; omega), gb.add ht.1 ht.2, by dsimp only; rw [es, bstep_new hh], by simp; omega, by dsimp only; rw [ixa_app i0 (by omega), gx]⟩ (by dsimp only; omega)⟩, fun hc => (hc (by simp only [kst]; omega)).elim⟩
    · have hai : a = m.inputs := by omega
      subst hai
      simp [-More_nor]
      refine ⟨by omega, More_of (i + 1, q', b') (by simp) rfl ⟨by dsimp only; omega, gq, gb, ?_⟩ (by dsimp only; omega)⟩
      match f, hf1, hf2 with
      | 0, _, hf2 => omega
      | f + 1, hf1, hf2 => exact ⟨f, by dsimp only; rw [bfs_go hi, ← ge] at hf1; exact hf1, by dsimp only; omega⟩
  · have hv := view_pc (σ := [⟨none, b.map .bool, .live⟩, ⟨some 2, pc q, .live⟩]) (b := 1) (n := q.length) (q := q) (fr := false) (st := .live) rfl (by simp) rfl rfl
    simp [hi, hv]
    rw [← hf1, bfs_end hi]
end Ab
