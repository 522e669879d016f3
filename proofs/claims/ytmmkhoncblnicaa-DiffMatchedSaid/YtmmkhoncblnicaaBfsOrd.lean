/- Functions on words that many layers use. Lists in memory, places, tables: what needs no cover. The order of the reachable states: each after those with smaller words; all are there. Condition: none. -/
import Derived.Test.YtmmkhoncblnicaaBfs
set_option linter.all false
set_option maxRecDepth 100000
set_option maxHeartbeats 4000000
namespace Ab
/-- A list of numbers, or nil. -/
def wB (p : Bool × List Int) : AV := if p.1 = true ∧ p.2 = [] then .snil else iL p.2
theorem wB_cases (p : Bool × List Int) : wB p = .snil ∧ p.2 = [] ∨ wB p = iL p.2 := by
  unfold wB
  split
  · rename_i h; exact .inl ⟨rfl, h.2⟩
  · exact .inr rfl
theorem noLoc_wB (p : Bool × List Int) : noLoc (wB p) = true := by
  rcases wB_cases p with h | h
  · rw [h.1]; rfl
  · rw [h]; rfl
theorem cells_wB (p : Bool × List Int) : (wB p).cells = [wB p] := by
  rcases wB_cases p with h | h
  · rw [h.1]
  · rw [h]
theorem shL_rep {k n : Nat} {z : Int} : shL k (List.replicate n (.int z)) = List.replicate n (.int z) := by
  induction n with
  | zero => rfl
  | succ n ih => simp only [List.replicate_succ, shL, shV, ih]
theorem Grow_s (n : Nat) (h : 0 < n) (hb : (n : Int) ≤ 1073741824) : L F_slices_Grow_Sint_int [.snil, .int n] [] = some (.sl 0 n 0 0, [⟨none, List.replicate n (.int 0), .live⟩]) := by
  refine go_slices_Grow_Sint_int (N := 0) ?_
  simp only [pGrow]
  rw [if_neg (by simp; omega), if_pos ⟨by omega, by rw [show (big : Int) = 1073741824 from rfl]; exact hb⟩]
  simp
theorem Grow_z : L F_slices_Grow_Sint_int [.snil, .int 0] [] = some (.snil, []) := go_slices_Grow_Sint_int (N := 0) rfl
/-- The concatenation. -/
def cat (ps : List (Bool × List Int)) : List Int := ps.flatMap (·.2)
theorem cat_take {ps : List (Bool × List Int)} {i : Int} (h0 : 0 ≤ i) (h1 : i < ps.length) : cat (ps.take (i + 1).toNat) = cat (ps.take i.toNat) ++ (ix ps i).2 := by
  have e : ps.take (i + 1).toNat = ps.take i.toNat ++ [ix ps i] := by
    rw [show (i + 1).toNat = i.toNat + 1 by omega, List.take_add_one, ix_eq h0 h1]
    rfl
  rw [e]; simp [cat]
theorem cat_le {ps : List (Bool × List Int)} (i : Nat) : (cat (ps.take i)).length ≤ (cat ps).length := by
  have : cat ps = cat (ps.take i) ++ cat (ps.drop i) := by
    unfold cat; rw [← List.flatMap_append, List.take_append_drop]
  rw [this]; simp
theorem putAt_fill {a b : List Int} {n : Nat} (h : a.length + b.length ≤ n) : putAt (a.map .int ++ List.replicate (n - a.length) (.int 0)) a.length (b.map .int) = (a ++ b).map .int ++ List.replicate (n - (a.length + b.length)) (.int 0) := by
  unfold putAt
  rw [List.take_left' (by simp), List.drop_append, List.drop_of_length_le (by simp)]
  simp
  omega
theorem chunk_n : ∀ {n : Nat} {cs : List AV}, cs.length ≤ n → chunk none n cs = cs
  | 0, cs, h => by
    have : cs = [] := List.eq_nil_of_length_eq_zero (by omega)
    subst this; rfl
  | n + 1, [], h => rfl
  | n + 1, c :: cs, h => by simp only [chunk]; rw [chunk_n (by simpa using h)]
theorem mapO_mp {α : Type} {f g : α → AV} {v : AV → Option AV} : ∀ {xs : List α}, (∀ x ∈ xs, v (f x) = some (g x)) → mapO v (xs.map f) = some (xs.map g)
  | [], _ => rfl
  | x :: xs, h => by
    have e := mapO_mp (f := f) (g := g) (v := v) (xs := xs) fun y hy => h y (by simp [hy])
    simp only [List.map_cons, mapO, h x (by simp), e]
/-- A slice over a whole block reads as its elements. -/
theorem view_sm {α : Type} {f g : α → AV} {σ : List Blk} {fr : Bool} {b k n : Nat} {xs : List α} {st : BSt} (h : blk σ b = some ⟨none, xs.map f, st⟩) (hs : st.isArr = true) (hn : n = xs.length) (hf : ∀ x ∈ xs, view σ fr k (f x) = some (g x)) :
    view σ fr (k + 1) (.sl b n 0 n) = some (.imm false (xs.map g)) := by
  subst hn
  have hu : upto σ b xs.length = some ⟨none, xs.map f, st⟩ := by
    unfold upto
    rw [h]
    cases st <;> simp at hs ⊢
  unfold view
  simp only [hu, kst, List.length_map, List.drop_zero, Nat.zero_add, Nat.mul_one, Nat.le_refl, if_true]
  rw [chunk_n (by simp), mapO_mp hf]
theorem vd_iL {σ : List Blk} {fr : Bool} {b n : Nat} {xs : List Int} {st : BSt} (h : blk σ b = some ⟨none, xs.map .int, st⟩) (hs : st.isArr = true) (hn : n = xs.length) : view σ fr vd (.sl b n 0 n) = some (iL xs) := view_sm (k := 11) h hs hn fun _ _ => rfl
theorem Concat_s (ps : List (Bool × List Int)) (hp : (ps.length : Int) ≤ 1000000) (h : ((cat ps).length : Int) ≤ 1000000) : PC F_slices_Concat_Sint_int [.imm false (ps.map wB)] = some (iL (cat ps)) := by
  refine PCx_of (go_slices_Concat_Sint_int rfl ?_)
  simp
  refine W_iter (fun i : Int => [(1, .int i), (4, .int ((cat (ps.take i.toNat)).length : Int))]) (fun _ => []) (fun i => 0 ≤ i ∧ i ≤ ps.length) (fun i => (ps.length - i).toNat) 0 rfl (by simp) fun i ⟨i0, i1⟩ => ?_
  by_cases hi : i < ps.length
  · have e := cat_take i0 hi
    have l1 := cat_le (ps := ps) i.toNat
    have l2 := cat_le (ps := ps) (i + 1).toNat
    rw [e] at l2
    simp at l2
    rcases wB_cases (ix ps i) with ⟨h1, h2⟩ | h1
    · simp [-More_nor, hi, i0, h1]
      refine ⟨by omega, by omega, More_of (i + 1) (by simp [e, h2]) rfl ⟨by omega, by omega⟩ (by omega)⟩
    · simp [-More_nor, hi, i0, h1]
      refine ⟨by omega, by omega, fun _ => ⟨by omega, More_of (i + 1) (by simp [e]) rfl ⟨by omega, by omega⟩ (by omega)⟩⟩
  · have hit : ps.take i.toNat = ps := List.take_of_length_le (by omega)
    rw [hit]
    by_cases hz : (cat ps).length = 0
    · have hc : cat ps = [] := List.eq_nil_of_length_eq_zero hz
      simp [-More_nor, hi, hc, Grow_z, shV]
      refine W_iter (fun i : Int => [(6, .int i)]) (fun _ => []) (fun i => 0 ≤ i ∧ i ≤ ps.length) (fun i => (ps.length - i).toNat) 0 rfl (by simp) fun j ⟨j0, j1⟩ => ?_
      by_cases hj : j < ps.length
      · have hix : (ix ps j).2 = [] := by
          have := cat_take j0 hj
          have l2 := cat_le (ps := ps) (j + 1).toNat
          rw [this] at l2
          simp at l2
          exact List.eq_nil_of_length_eq_zero (by omega)
        rcases wB_cases (ix ps j) with ⟨h1, h2⟩ | h1
        · simp [hj, j0, h1]; omega
        · rw [hix] at h1
          simp [hj, j0, h1]; omega
      · simp [hj]
    · have hg := Grow_s (cat ps).length (by omega) (by omega)
      simp [-More_nor, -List.map_replicate, hi, hg, shV, shB, shL_rep]
      refine W_iter (fun i : Int => [(6, .int i), (9, .sl 0 (cat ps).length 0 (cat (ps.take i.toNat)).length)]) (fun i => [⟨none, (cat (ps.take i.toNat)).map .int ++ List.replicate ((cat ps).length - (cat (ps.take i.toNat)).length) (.int 0), .live⟩]) (fun i => 0 ≤ i ∧ i ≤ ps.length) (fun i => (ps.length - i).toNat) 0 (by simp [sets, cat]) (by simp) fun j ⟨j0, j1⟩ => ?_
      by_cases hj : j < ps.length
      · have e := cat_take j0 hj
        have l1 := cat_le (ps := ps) j.toNat
        have l2 := cat_le (ps := ps) (j + 1).toNat
        rw [e] at l2
        simp at l2
        have hp := putAt_fill (a := cat (ps.take j.toNat)) (b := (ix ps j).2) (n := (cat ps).length) l2
        have done : (ix ps j).2 = [] → cat (ps.take (j + 1).toNat) = cat (ps.take j.toNat) := fun h => by rw [e, h]; simp
        rcases wB_cases (ix ps j) with ⟨h1, h2⟩ | h1
        · simp [-More_nor, -List.map_replicate, hj, j0, h1]
          refine ⟨by omega, by omega, by omega, More_of (j + 1) (by simp [done h2]) (by simp only [done h2]) ⟨by omega, by omega⟩ (by omega)⟩
        · by_cases hn : (ix ps j).2 = []
          · rw [hn] at h1
            simp [-More_nor, -List.map_replicate, hj, j0, h1]
            refine ⟨by omega, by omega, by omega, More_of (j + 1) (by simp [done hn]) (by simp only [done hn]) ⟨by omega, by omega⟩ (by omega)⟩
          · have hnl : 0 < (ix ps j).2.length := List.length_pos_iff.2 hn
            simp [-More_nor, -List.map_replicate, hj, j0, h1, hn]
            refine ⟨by omega, by omega, fun hc => by omega, fun _ => ⟨by omega, by omega, More_of (j + 1) (by simp [e]) (by simp only [e, List.length_append]; rw [← hp]) ⟨by omega, by omega⟩ (by omega)⟩⟩
      · have hjt : ps.take j.toNat = ps := List.take_of_length_le (by omega)
        rw [hjt]
        have hv := vd_iL (σ := [⟨none, (cat ps).map .int, .live⟩]) (fr := false) (b := 0) (xs := cat ps) (st := .live) rfl (by simp) rfl
        simp [hj, hv]
/-- A word with one more symbol. -/
theorem Join_s (ps : List (Bool × List Int)) (hp : (ps.length : Int) ≤ 1000000) (h : ((cat ps).length : Int) ≤ 1000000) : PC F_word_Join [.imm false (ps.map wB)] = some (iL (cat ps)) := by
  refine PCx_of (go_word_Join rfl ?_)
  have e := Concat_s ps hp h
  have hl : noLocs (ps.map wB) = true := by
    clear e hp h
    induction ps with
    | nil => rfl
    | cons a r ih => simp only [List.map_cons, noLocs, noLoc_wB, Bool.true_and]; exact ih
  simp [hl, e]
theorem pU_sets {cs : List AV} {o : Nat} {x : AV} {K : List AV → Prop} {t : Tk K} : pU cs o [x] K t = (o < cs.length ∧ K (cs.set o x)) := by
  have e := pU_map (f := id) (xs := cs) (o := o) (y := x) (K := K) (t := t)
  simpa using e
end Ab
namespace Ab
theorem any_ix {α : Type} [Inhabited α] {p : α → Bool} {xs : List α} {i : Int} (h0 : 0 ≤ i) (h1 : i < xs.length) (h : p (ix xs i) = true) : xs.any p = true := List.any_eq_true.2 ⟨_, ix_mem h0 h1, h⟩
theorem any_no {α : Type} [Inhabited α] {p : α → Bool} {xs : List α} (h2 : ∀ j, 0 ≤ j → j < (xs.length : Int) → p (ix xs j) = false) : xs.any p = false := by
  rw [List.any_eq_false]
  intro x hx
  obtain ⟨i, hi, rfl⟩ := List.mem_iff_getElem.1 hx
  rw [← ix_nat hi]; simp [h2 i (by omega) (by omega)]
theorem vd_LL {σ : List Blk} {fr : Bool} {b n : Nat} {xs : List (List Int)} {st : BSt} (h : blk σ b = some ⟨none, xs.map iL, st⟩) (hs : st.isArr = true) (hn : n = xs.length) : view σ false vd (.sl b n 0 n) = some (iLL xs) := view_sm (k := 11) (f := iL) (g := iL) h hs hn fun _ _ => rfl
theorem ix_map {α β : Type} [Inhabited α] [Inhabited β] {f : α → β} {l : List α} {i : Int} (h0 : 0 ≤ i) (h1 : i < l.length) : ix (l.map f) i = f (ix l i) := by
  unfold ix
  rw [List.getD_eq_getElem?_getD, List.getD_eq_getElem?_getD, List.getElem?_map, List.getElem?_eq_getElem (by omega)]
  simp
/-- The machine that starts elsewhere. -/
abbrev Mly.at (m : Mly) (s : Int) : Mly := ⟨m.inputs, s, m.next, m.out⟩
/-- The first word of a place. -/
abbrev pW (p : Pl) : AV := wB (true, p.2)
/-- The places as a value. -/
abbrev pA (p : Pl) : AV := .agg [.int p.1, pW p]
/-- A queue in memory. -/
def pc (q : List Pl) : List AV := q.flatMap fun p => [.int p.1, pW p]
theorem notUnd_pW {p : Pl} : notUnd (pW p) = true := by
  rcases wB_cases (true, p.2) with h | h
  · rw [pW, h.1]; rfl
  · rw [pW, h]; rfl
theorem pc_add {q : List Pl} {t : Int} {w : List Int} {a : Int} : pc (q ++ [(t, w ++ [a])]) = pc q ++ [.int t, .imm false (w.map .int ++ [.int a])] := by
  simp [pc, pW, wB]
theorem pc_len {q : List Pl} : (pc q).length = 2 * q.length := by
  induction q with
  | nil => rfl
  | cons p q ih => simp only [pc, List.flatMap_cons, List.length_append, List.length_cons, List.length_nil] at ih ⊢; omega
theorem pc_get : ∀ {q : List Pl} {n : Nat}, n < q.length → (pc q)[n * 2]? = some (.int (ix q (n : Int)).1) ∧ (pc q)[n * 2 + 1]? = some (pW (ix q (n : Int)))
  | p :: q, 0, _ => ⟨rfl, rfl⟩
  | p :: q, n + 1, h => by
    have := pc_get (q := q) (n := n) (by simpa using h)
    have e : ix (p :: q) ((n + 1 : Nat) : Int) = ix q (n : Int) := by simp [ix]
    rw [e, show (n + 1) * 2 = n * 2 + 1 + 1 by omega]
    exact this
theorem elm_pc {q : List Pl} {n : Int} (h0 : 0 ≤ n) (h1 : n < q.length) : elm (pc q) (n.toNat * 2) = some (.int (ix q n).1) ∧ elm (pc q) (n.toNat * 2 + 1) = some (pW (ix q n)) := by
  have := pc_get (q := q) (n := n.toNat) (by omega)
  rw [show ((n.toNat : Nat) : Int) = n by omega] at this
  rw [elm_eq, elm_eq]; exact this
theorem chunk_pc : ∀ {q : List Pl}, chunk (some 2) q.length (pc q) = q.map pA
  | [] => rfl
  | p :: q => by
    have e := chunk_pc (q := q)
    rw [List.map_cons, ← e]; rfl
theorem view_pc {σ : List Blk} {fr : Bool} {b n u : Nat} {q : List Pl} {st : BSt} (h : blk σ b = some ⟨some 2, pc q, st⟩) (hs : st.isArr = true) (hn : n = q.length) (hu : u = 2 * n) :
    view σ false vd (.sl b u 0 n) = some (.imm false (q.map fun p => .agg [.int p.1, iL p.2])) := by
  subst hu hn
  have hu : upto σ b (2 * q.length) = some ⟨some 2, pc q, st⟩ := by
    unfold upto
    rw [h]
    cases st <;> simp [pc_len] at hs ⊢
  show view σ false (11 + 1) _ = _
  unfold view
  simp only [hu, kst, pc_len, List.drop_zero]
  rw [if_pos (by omega), chunk_pc, mapO_mp (g := fun p => .agg [.int p.1, iL p.2])]
  intro p _
  rcases wB_cases (true, p.2) with h | h
  · simp [h.1, show p.2 = [] from h.2]
  · simp [h]
theorem ixs_set {α : Type} [Inhabited α] {l : List α} {n : Nat} {i : Int} {x : α} (h0 : 0 ≤ i) (h1 : i < l.length) : ix (l.set n x) i = if i = n then x else ix l i := by
  unfold ix
  rw [List.getD_eq_getElem?_getD, List.getD_eq_getElem?_getD, List.getElem?_set]
  by_cases e : i = n
  · rw [if_pos (by omega), if_pos (by omega), if_pos e]; rfl
  · rw [if_neg (by omega), if_neg e]
theorem ixs_rep {α : Type} [Inhabited α] {n : Nat} {x : α} {i : Int} (h0 : 0 ≤ i) (h1 : i < n) : ix (List.replicate n x) i = x := by
  unfold ix
  rw [List.getD_eq_getElem?_getD, List.getElem?_replicate, if_pos (by omega)]; rfl
/-- The states that were seen. -/
structure Sn (N : Nat) (b : List Bool) (q : List Pl) : Prop where
  len : b.length = N
  ok : ∀ t, 0 ≤ t → t < (N : Int) → ix b t = hasS q t
theorem Sn.add {N : Nat} {b : List Bool} {q : List Pl} (h : Sn N b q) {t : Int} {w : List Int} (t0 : 0 ≤ t) (t1 : t < N) : Sn N (b.set t.toNat true) (q ++ [(t, w)]) := by
  refine ⟨by simp [h.len], fun u u0 u1 => ?_⟩
  rw [ixs_set u0 (by have := h.len; omega)]
  by_cases e : u = (t.toNat : Int)
  · rw [if_pos e]; simp [hasS]; right; omega
  · rw [if_neg e, h.ok u u0 u1]
    simp [hasS]
    omega
theorem join_p (p : Pl) (a : Int) (h : p.2.length ≤ 100000) : PCx L F_word_Join [.imm false [pW p, .imm false [.int a]]] = some (iL (p.2 ++ [a])) := by
  have := Join_s [(true, p.2), (false, [a])] (by simp) (by simp [cat]; omega)
  simp [cat] at this
  rw [← this]
  rfl
/-- What stands in the queue for good. -/
theorem places_ok (m : Mly) (hm : m.Ok) (s : Int) (hs : 0 ≤ s ∧ s < (m.next.length : Int)) : Bq m s (m.places s) := by
  have row : ∀ (q : List Pl) (p : Pl) (k : Nat), (k : Int) ≤ m.inputs → 0 ≤ p.1 ∧ p.1 < (m.next.length : Int) → p.2.length < q.length → Bq m s q → Bq m s (brow m p q k) ∧ q.length ≤ (brow m p q k).length := by
    intro q p k
    induction k with
    | zero => intro _ _ _ h; exact ⟨h, Nat.le_refl _⟩
    | succ k ih =>
      intro hk hp hl h
      obtain ⟨h1, h2⟩ := ih (by omega) hp hl h
      rw [show ((k + 1 : Nat) : Int) = (k : Int) + 1 by omega, brow_succ (by omega)]
      refine ⟨h1.step hm hp (by omega) (by omega) (by omega), ?_⟩
      obtain ⟨l, e⟩ := bstep_pre (m := m) (p := p) (q := brow m p q k) (a := k)
      rw [e]; simp; omega
  have go : ∀ (f : Nat) (i : Int) (q : List Pl), 0 ≤ i → Bq m s q → Bq m s (bfs m f i q) := by
    intro f
    induction f with
    | zero => intro i q _ h; exact h
    | succ f ih =>
      intro i q i0 h
      by_cases hi : i < q.length
      · rw [bfs_go hi]
        have hl := h.len i i0 hi
        have hin := hm.inputs
        have := (row q (ix q i) m.inputs.toNat (by omega) (h.rng _ (ix_mem i0 hi)) (by omega) h).1
        rw [show ((m.inputs.toNat : Nat) : Int) = m.inputs by omega] at this
        exact ih _ _ (by omega) this
      · rw [bfs_end hi]; exact h
  exact go _ _ _ (by omega) (Bq.init hs)
/-- The word from a state to another. -/
def Mly.way (m : Mly) (s t : Int) : List Int × Bool × Int := match (m.places s).find? fun p => p.1 == t with
  | some p => (p.2, true, 0)
  | none => ([], false, 0)
def Mly.path (m : Mly) (s t : Int) : List Int × Bool × Int :=
  if m.validE ≠ 0 then ([], false, m.validE)
  else if s < 0 ∨ (m.next.length : Int) ≤ s ∨ t < 0 ∨ (m.next.length : Int) ≤ t then ([], false, 2)
  else m.way s t
end Ab
namespace Ab
theorem lexC_app : ∀ {u v a b : List Int}, u.length = v.length → lexC (u ++ a) (v ++ b) = if lexC u v = 0 then lexC a b else lexC u v
  | [], [], a, b, _ => by simp [lexC]
  | x :: u, y :: v, a, b, h => by
    have e := lexC_app (u := u) (v := v) (a := a) (b := b) (by simpa using h)
    simp only [List.cons_append, lexC, e]
    split
    · simp
    · split
      · simp
      · rfl
theorem slx_app {u v : List Int} {a b : Int} (h : slxC u v < 0) : slxC (u ++ [a]) (v ++ [b]) < 0 := by
  unfold slxC at h ⊢
  simp only [List.length_append, List.length_cons, List.length_nil]
  by_cases h1 : u.length < v.length
  · rw [if_pos (by omega)]; omega
  · rw [if_neg h1] at h
    by_cases h2 : v.length < u.length
    · rw [if_pos h2] at h; omega
    · rw [if_neg h2] at h
      rw [if_neg (by omega), if_neg (by omega), lexC_app (by omega), if_neg (by omega)]
      exact h
theorem slx_same {u : List Int} {a b : Int} (h : a < b) : slxC (u ++ [a]) (u ++ [b]) < 0 := by
  unfold slxC
  rw [if_neg (by simp), if_neg (by simp), lexC_app rfl, lexC_refl, if_pos rfl]
  simp only [lexC, if_pos h]; omega
theorem slx_nil {w : List Int} (h : w ≠ []) : slxC [] w < 0 := by
  unfold slxC
  rw [if_pos (by simpa using List.length_pos_iff.2 h)]; omega
theorem slx_leapp {u v : List Int} {a : Int} (h : slxC u v ≤ 0) : slxC (u ++ [a]) (v ++ [a]) ≤ 0 := by
  by_cases e : slxC u v = 0
  · have := slxC_ok.eq u v e
    rw [this]
    have := slxC_ok.refl (v ++ [a]); omega
  · have := slx_app (a := a) (b := a) (show slxC u v < 0 by omega); omega
/-- The queue when input a of place i is next. -/
structure Bi (m : Mly) (s i a : Int) (q : List Pl) : Prop where
  bq : Bq m s q
  par : ∀ k, 0 < k → k < (q.length : Int) → ∃ j b, 0 ≤ j ∧ (j < i ∨ j = i ∧ b < a) ∧ j < k ∧ (0 ≤ b ∧ b < m.inputs) ∧ ix q k = (ix (ix m.next (ix q j).1) b, (ix q j).2 ++ [b])
  asc : ∀ j k, 0 ≤ j → j < k → k < (q.length : Int) → slxC (ix q j).2 (ix q k).2 < 0
  done : ∀ j b, 0 ≤ j → j < (q.length : Int) → (j < i ∨ j = i ∧ b < a) → 0 ≤ b → b < m.inputs → ∃ k, 0 ≤ k ∧ k < (q.length : Int) ∧ (ix q k).1 = ix (ix m.next (ix q j).1) b ∧ slxC (ix q k).2 ((ix q j).2 ++ [b]) ≤ 0
theorem Bi.lt_new {m : Mly} {s i a : Int} {q : List Pl} (h : Bi m s i a q) (i1 : i < q.length) : ∀ k, 0 ≤ k → k < (q.length : Int) → slxC (ix q k).2 ((ix q i).2 ++ [a]) < 0 := by
  intro k k0 k1
  by_cases e : k = 0
  · subst e
    rw [h.bq.head]
    exact slx_nil (by simp)
  · obtain ⟨j, b, j0, j1, j2, b0, e⟩ := h.par k (by omega) k1
    rw [e]
    rcases j1 with j1 | ⟨rfl, j1⟩
    · exact slx_app (h.asc j i j0 j1 i1)
    · exact slx_same j1
theorem Bi.step {m : Mly} (hm : m.Ok) {s i a : Int} {q : List Pl} (h : Bi m s i a q) (i0 : 0 ≤ i) (i1 : i < q.length) (a0 : 0 ≤ a) (a1 : a < m.inputs) : Bi m s i (a + 1) (bstep m (ix q i) q a) := by
  have hr := h.bq.rng _ (ix_mem i0 i1)
  have hl := h.bq.len i i0 i1
  have hlt := h.lt_new i1
  have hbq := h.bq.step hm hr (by omega) a0 a1
  cases hh : hasS q (ix (ix m.next (ix q i).1) a) with
  | true =>
    rw [bstep_has hh] at hbq ⊢
    refine ⟨hbq, fun k k0 k1 => ?_, h.asc, fun j b j0 j1 jb b0 b1 => ?_⟩
    · obtain ⟨j, b, j0, j1, j2, b0, e⟩ := h.par k k0 k1
      exact ⟨j, b, j0, by omega, j2, b0, e⟩
    · by_cases e : j = i ∧ b = a
      · obtain ⟨rfl, rfl⟩ := e
        rw [hasS_iff] at hh
        obtain ⟨p, hp, e⟩ := List.mem_map.1 hh
        obtain ⟨k, hk, rfl⟩ := List.mem_iff_getElem.1 hp
        rw [← ix_nat hk] at e
        exact ⟨(k : Int), by omega, by omega, e, by have := hlt (k : Int) (by omega) (by omega); omega⟩
      · exact h.done j b j0 j1 (by omega) b0 b1
  | false =>
    rw [bstep_new hh] at hbq ⊢
    have hlen : ((q ++ [(ix (ix m.next (ix q i).1) a, (ix q i).2 ++ [a])]).length : Int) = q.length + 1 := by simp
    refine ⟨hbq, fun k k0 k1 => ?_, fun j k j0 jk k1 => ?_, fun j b j0 j1 jb b0 b1 => ?_⟩
    · rw [hlen] at k1
      by_cases e : k < (q.length : Int)
      · obtain ⟨j, b, j0, j1, j2, b0, e'⟩ := h.par k k0 e
        exact ⟨j, b, j0, by omega, j2, b0, by rw [ixa_app (by omega) e, ixa_app j0 (by omega)]; exact e'⟩
      · have : k = (q.length : Int) := by omega
        subst this
        exact ⟨i, a, i0, by omega, i1, ⟨a0, a1⟩, by rw [ixa_last, ixa_app i0 i1]⟩
    · rw [hlen] at k1
      by_cases e : k < (q.length : Int)
      · rw [ixa_app (by omega) e, ixa_app j0 (by omega)]
        exact h.asc j k j0 jk e
      · have : k = (q.length : Int) := by omega
        subst this
        rw [ixa_last, ixa_app j0 jk]
        exact hlt j j0 jk
    · rw [hlen] at j1 ⊢
      have j1' : j < (q.length : Int) := by omega
      rw [ixa_app j0 j1']
      by_cases e : j = i ∧ b = a
      · obtain ⟨rfl, rfl⟩ := e
        exact ⟨q.length, by omega, by omega, by rw [ixa_last], by rw [ixa_last]; exact Int.le_of_eq (slxC_ok.refl _)⟩
      · obtain ⟨k, k0, k1, e1, e2⟩ := h.done j b j0 j1' (by omega) b0 b1
        exact ⟨k, k0, by omega, by rw [ixa_app k0 k1]; exact e1, by rw [ixa_app k0 k1]; exact e2⟩
theorem places_bi (m : Mly) (hm : m.Ok) (s : Int) (hs : 0 ≤ s ∧ s < (m.next.length : Int)) : ∃ i, ((m.places s).length : Int) ≤ i ∧ Bi m s i 0 (m.places s) := by
  have hin := hm.inputs
  have row : ∀ (q : List Pl) (i : Int) (k : Nat), 0 ≤ i → i < (q.length : Int) → (k : Int) ≤ m.inputs → Bi m s i 0 q → Bi m s i k (brow m (ix q i) q k) ∧ (∀ j, 0 ≤ j → j < (q.length : Int) → ix (brow m (ix q i) q k) j = ix q j) ∧ q.length ≤ (brow m (ix q i) q k).length := by
    intro q i k i0 i1
    induction k with
    | zero => intro _ h; exact ⟨h, fun _ _ _ => rfl, Nat.le_refl _⟩
    | succ k ih =>
      intro hk h
      obtain ⟨h1, h2, h3⟩ := ih (by omega) h
      rw [show ((k + 1 : Nat) : Int) = (k : Int) + 1 by omega, brow_succ (by omega)]
      have e := h2 i i0 i1
      have st := h1.step hm i0 (by omega) (by omega) (by omega)
      rw [e] at st
      obtain ⟨l, el⟩ := bstep_pre (m := m) (p := ix q i) (q := brow m (ix q i) q k) (a := k)
      refine ⟨st, fun j j0 j1 => ?_, by rw [el]; simp; omega⟩
      rw [el, ixa_app j0 (by omega)]
      exact h2 j j0 j1
  have go : ∀ (f : Nat) (i : Int) (q : List Pl), 0 ≤ i → (m.next.length : Int) + 1 ≤ f + i → Bi m s i 0 q → ∃ i', ((bfs m f i q).length : Int) ≤ i' ∧ Bi m s i' 0 (bfs m f i q) := by
    intro f
    induction f with
    | zero => intro i q _ hf h; exact ⟨i, by have := h.bq.le; show (q.length : Int) ≤ i; omega, h⟩
    | succ f ih =>
      intro i q i0 hf h
      by_cases hi : i < q.length
      · rw [bfs_go hi]
        have := (row q i m.inputs.toNat i0 hi (by omega) h).1
        rw [show ((m.inputs.toNat : Nat) : Int) = m.inputs by omega] at this
        refine ih _ _ (by omega) (by omega) ⟨this.bq, fun k k0 k1 => ?_, this.asc, fun j b j0 j1 jb b0 b1 => this.done j b j0 j1 (by omega) b0 b1⟩
        obtain ⟨j, b, j0, j1, r⟩ := this.par k k0 k1
        exact ⟨j, b, j0, by omega, r⟩
      · rw [bfs_end hi]; exact ⟨i, by omega, h⟩
  refine go _ 0 _ (by omega) (by omega) ⟨Bq.init hs, fun k k0 k1 => ?_, fun j k j0 jk k1 => ?_, fun j b j0 j1 jb => ?_⟩
  · simp at k1; omega
  · simp at k1; omega
  · omega
/-- The state after a word. -/
def Mly.run (m : Mly) : Int → List Int → Int
  | s, [] => s
  | s, a :: w => m.run (ix (ix m.next s) a) w
theorem run_app {m : Mly} : ∀ {u v : List Int} {s : Int}, m.run s (u ++ v) = m.run (m.run s u) v
  | [], _, _ => rfl
  | a :: u, v, s => run_app (u := u)
/-- The words of the places. -/
structure Bf (m : Mly) (s : Int) (q : List Pl) : Prop where
  bq : Bq m s q
  run : ∀ k, 0 ≤ k → k < (q.length : Int) → m.run s (ix q k).2 = (ix q k).1 ∧ ∀ x ∈ (ix q k).2, 0 ≤ x ∧ x < m.inputs
  par : ∀ k, 0 < k → k < (q.length : Int) → ∃ j b, 0 ≤ j ∧ j < k ∧ (0 ≤ b ∧ b < m.inputs) ∧ ix q k = (ix (ix m.next (ix q j).1) b, (ix q j).2 ++ [b])
  pre : ∀ k n, 0 ≤ k → k < (q.length : Int) → n ≤ (ix q k).2.length → ∃ j, 0 ≤ j ∧ j ≤ k ∧ (n < (ix q k).2.length → j < k) ∧ (ix q j).2 = (ix q k).2.take n
  asc : ∀ j k, 0 ≤ j → j < k → k < (q.length : Int) → slxC (ix q j).2 (ix q k).2 < 0
  all : ∀ w, (∀ x ∈ w, 0 ≤ x ∧ x < m.inputs) → ∃ k, 0 ≤ k ∧ k < (q.length : Int) ∧ (ix q k).1 = m.run s w ∧ slxC (ix q k).2 w ≤ 0
theorem places_bf (m : Mly) (hm : m.Ok) (s : Int) (hs : 0 ≤ s ∧ s < (m.next.length : Int)) : Bf m s (m.places s) := by
  obtain ⟨i, hi, h⟩ := places_bi m hm s hs
  have par : ∀ k, 0 < k → k < ((m.places s).length : Int) → ∃ j b, 0 ≤ j ∧ j < k ∧ (0 ≤ b ∧ b < m.inputs) ∧ ix (m.places s) k = (ix (ix m.next (ix (m.places s) j).1) b, (ix (m.places s) j).2 ++ [b]) := fun k k0 k1 => by
    obtain ⟨j, b, j0, _, j2, b0, e⟩ := h.par k k0 k1
    exact ⟨j, b, j0, j2, b0, e⟩
  refine ⟨h.bq, ?_, par, ?_, h.asc, ?_⟩
  · have : ∀ n : Nat, ∀ k : Int, k < n → 0 ≤ k → k < ((m.places s).length : Int) → m.run s (ix (m.places s) k).2 = (ix (m.places s) k).1 ∧ ∀ x ∈ (ix (m.places s) k).2, 0 ≤ x ∧ x < m.inputs := by
      intro n
      induction n with
      | zero => intro k; omega
      | succ n ih =>
        intro k kn k0 k1
        by_cases e : k = 0
        · subst e; rw [h.bq.head]; exact ⟨rfl, by simp⟩
        · obtain ⟨j, b, j0, j2, b0, e⟩ := par k (by omega) k1
          obtain ⟨r1, r2⟩ := ih j (by omega) j0 (by omega)
          rw [e]
          refine ⟨by rw [run_app, r1]; rfl, fun x hx => ?_⟩
          rcases List.mem_append.1 hx with hx | hx
          · exact r2 x hx
          · simp at hx; subst hx; exact b0
    exact fun k k0 k1 => this (k.toNat + 1) k (by omega) k0 k1
  · have : ∀ n : Nat, ∀ (k : Int) (l : Nat), k < n → 0 ≤ k → k < ((m.places s).length : Int) → l ≤ (ix (m.places s) k).2.length → ∃ j, 0 ≤ j ∧ j ≤ k ∧ (l < (ix (m.places s) k).2.length → j < k) ∧ (ix (m.places s) j).2 = (ix (m.places s) k).2.take l := by
      intro n
      induction n with
      | zero => intro k; omega
      | succ n ih =>
        intro k l kn k0 k1 hl
        by_cases hle : l = (ix (m.places s) k).2.length
        · exact ⟨k, k0, by omega, by omega, by rw [hle, List.take_length]⟩
        · by_cases e : k = 0
          · subst e; rw [h.bq.head] at hl hle; simp at hl hle; omega
          · obtain ⟨j, b, j0, j2, b0, e⟩ := par k (by omega) k1
            rw [e] at hl hle
            simp at hl hle
            obtain ⟨j', a0, a1, _, a2⟩ := ih j l (by omega) j0 (by omega) (by omega)
            exact ⟨j', a0, by omega, fun _ => by omega, by rw [a2, e]; simp only; rw [List.take_append_of_le_length (by omega)]⟩
    exact fun k l k0 k1 hl => this (k.toNat + 1) k l (by omega) k0 k1 hl
  · intro w
    have : ∀ n : Nat, ∀ w : List Int, w.length = n → (∀ x ∈ w, 0 ≤ x ∧ x < m.inputs) → ∃ k, 0 ≤ k ∧ k < ((m.places s).length : Int) ∧ (ix (m.places s) k).1 = m.run s w ∧ slxC (ix (m.places s) k).2 w ≤ 0 := by
      intro n
      induction n with
      | zero =>
        intro w hw _
        have : w = [] := List.eq_nil_of_length_eq_zero hw
        subst this
        exact ⟨0, by omega, by have := h.bq.pos; omega, by rw [h.bq.head]; rfl, by rw [h.bq.head]; exact Int.le_of_eq (slxC_ok.refl _)⟩
      | succ n ih =>
        intro w hw hx
        have hne : w ≠ [] := by intro e; subst e; simp at hw
        have e : w = w.dropLast ++ [w.getLast hne] := (List.dropLast_concat_getLast hne).symm
        generalize w.dropLast = u at e
        generalize w.getLast hne = a at e
        subst e
        obtain ⟨j, j0, j1, e1, e2⟩ := ih u (by simpa using hw) fun x h => hx x (by simp [h])
        have ha := hx a (by simp)
        obtain ⟨k, k0, k1, e3, e4⟩ := h.done j a j0 j1 (by omega) ha.1 ha.2
        exact ⟨k, k0, k1, by rw [e3, run_app, e1]; rfl, slxC_ok.trans _ _ _ e4 (slx_leapp e2)⟩
    exact this w.length w rfl
end Ab
