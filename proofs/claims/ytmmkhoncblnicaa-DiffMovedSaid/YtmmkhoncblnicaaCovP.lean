/- Lists in memory, places, tables: what needs no cover. Condition: none. -/
import Derived.Test.YtmmkhoncblnicaaBfs
import Derived.Test.YtmmkhoncblnicaaWords
import Derived.Test.YtmmkhoncblnicaaMlyValid
set_option linter.all false
set_option maxRecDepth 100000
set_option maxHeartbeats 4000000
namespace Ab
theorem any_ix {α : Type} [Inhabited α] {p : α → Bool} {xs : List α} {i : Int} (h0 : 0 ≤ i) (h1 : i < xs.length) (h : p (ix xs i) = true) : xs.any p = true := List.any_eq_true.2 ⟨_, ix_mem h0 h1, h⟩
theorem any_no {α : Type} [Inhabited α] {p : α → Bool} {xs : List α} (h2 : ∀ j, 0 ≤ j → j < (xs.length : Int) → p (ix xs j) = false) : xs.any p = false := by
  rw [List.any_eq_false]
  intro x hx
  obtain ⟨i, hi, rfl⟩ := List.mem_iff_getElem.1 hx
  rw [← ix_nat hi]; simp [h2 i (by omega) (by omega)]
theorem vd_LL {σ : List Blk} {fr : Bool} {b n : Nat} {xs : List (List Int)} {st : BSt} (h : blk σ b = some ⟨none, xs.map iL, st⟩) (hs : st.isArr = true) (hn : n = xs.length) : view σ false vd (.sl b n 0 n) = some (iLL xs) := view_sm (k := 11) (f := iL) (g := iL) h hs hn fun _ _ => rfl
theorem ix_map {α β : Type} [Inhabited α] [Inhabited β] {f : α → β} {l : List α} {i : Int} (h0 : 0 ≤ i) (h1 : i < l.length) : ix (l.map f) i = f (ix l i) := by
  unfold ix
  rw [List.getD_eq_getElem?_getD, List.getD_eq_getElem?_getD, List.getElem?_map, List.getElem?_eq_getElem (by omega)]
  simp
theorem has_map {q : List Pl} {t : Int} : ((q.map (·.1)).any fun x => x == t) = hasS q t := by
  unfold hasS; rw [List.any_map]; rfl
/-- The machine that starts elsewhere. -/
abbrev Mly.at (m : Mly) (s : Int) : Mly := ⟨m.inputs, s, m.next, m.out⟩
theorem at_ok {m : Mly} (h : m.fits) (hv : m.validE = 0) {s : Int} (hs : 0 ≤ s ∧ s < (m.next.length : Int)) : (m.at s).fits ∧ (m.at s).validE = 0 := by
  have hm := mvalidE_ok hv
  have hst := hm.states
  refine ⟨⟨h.inputs, by rw [inR_iff]; show _ ∧ _; dsimp only [Mly.at]; omega, h.next, h.out⟩, ?_⟩
  have h1 : m.sizeE = 0 := by
    unfold Mly.validE at hv
    split at hv
    · rename_i a; exact absurd hv a
    · rename_i a; simpa using a
  have h2 : (m.at s).sizeE = 0 := by
    have := msizeE_zero h1
    have hne : m.next ≠ [] := by intro e; rw [e] at hst; simp at hst
    unfold Mly.sizeE
    dsimp only [Mly.at]
    rw [if_neg (by omega), if_neg (by omega), if_neg hne, if_neg (by omega), if_neg (by omega), if_neg (by omega), if_neg (by omega)]
  unfold Mly.validE at hv ⊢
  rw [if_neg (by simpa using h1)] at hv
  rw [if_neg (by simpa using h2)]
  exact hv
theorem at_places {m : Mly} {s x : Int} : (m.at s).places x = m.places x := by
  have hb : ∀ p q a, bstep (m.at s) p q a = bstep m p q a := fun _ _ _ => rfl
  have hr : ∀ p q k, brow (m.at s) p q k = brow m p q k := fun _ _ _ => rfl
  have : ∀ f i q, bfs (m.at s) f i q = bfs m f i q := by
    intro f
    induction f with
    | zero => intro i q; rfl
    | succ f ih => intro i q; unfold bfs; rw [hr, ih]
  exact this _ _ _
/-- The first word of a place. -/
abbrev pW (p : Pl) : AV := wB (true, p.2)
/-- The places as a value. -/
abbrev pA (p : Pl) : AV := .agg [.int p.1, pW p]
/-- A queue in memory. -/
def pc (q : List Pl) : List AV := q.flatMap fun p => [.int p.1, pW p]
theorem notUnd_pW {p : Pl} : notUnd (pW p) = true := by
  rcases wB_cases (true, p.2) with h | h
  · rw [pW, h.1]; rfl
  · rw [pW, h]; rfl
theorem pc_add {q : List Pl} {t : Int} {w : List Int} {a : Int} : pc (q ++ [(t, w ++ [a])]) = pc q ++ [.int t, .imm false (w.map .int ++ [.int a])] := by
  simp [pc, pW, wB]
theorem pc_len {q : List Pl} : (pc q).length = 2 * q.length := by
  induction q with
  | nil => rfl
  | cons p q ih => simp only [pc, List.flatMap_cons, List.length_append, List.length_cons, List.length_nil] at ih ⊢; omega
theorem pc_get : ∀ {q : List Pl} {n : Nat}, n < q.length → (pc q)[n * 2]? = some (.int (ix q (n : Int)).1) ∧ (pc q)[n * 2 + 1]? = some (pW (ix q (n : Int)))
  | p :: q, 0, _ => ⟨rfl, rfl⟩
  | p :: q, n + 1, h => by
    have := pc_get (q := q) (n := n) (by simpa using h)
    have e : ix (p :: q) ((n + 1 : Nat) : Int) = ix q (n : Int) := by simp [ix]
    rw [e, show (n + 1) * 2 = n * 2 + 1 + 1 by omega]
    exact this
theorem elm_pc {q : List Pl} {n : Int} (h0 : 0 ≤ n) (h1 : n < q.length) : elm (pc q) (n.toNat * 2) = some (.int (ix q n).1) ∧ elm (pc q) (n.toNat * 2 + 1) = some (pW (ix q n)) := by
  have := pc_get (q := q) (n := n.toNat) (by omega)
  rw [show ((n.toNat : Nat) : Int) = n by omega] at this
  rw [elm_eq, elm_eq]; exact this
theorem chunk_pc : ∀ {q : List Pl}, chunk (some 2) q.length (pc q) = q.map pA
  | [] => rfl
  | p :: q => by
    have e := chunk_pc (q := q)
    rw [List.map_cons, ← e]; rfl
theorem view_pc {σ : List Blk} {fr : Bool} {b n u : Nat} {q : List Pl} {st : BSt} (h : blk σ b = some ⟨some 2, pc q, st⟩) (hs : st.isArr = true) (hn : n = q.length) (hu : u = 2 * n) :
    view σ false vd (.sl b u 0 n) = some (.imm false (q.map fun p => .agg [.int p.1, iL p.2])) := by
  subst hu hn
  have hu : upto σ b (2 * q.length) = some ⟨some 2, pc q, st⟩ := by
    unfold upto
    rw [h]
    cases st <;> simp [pc_len] at hs ⊢
  show view σ false (11 + 1) _ = _
  unfold view
  simp only [hu, kst, pc_len, List.drop_zero]
  rw [if_pos (by omega), chunk_pc, mapO_mp (g := fun p => .agg [.int p.1, iL p.2])]
  intro p _
  rcases wB_cases (true, p.2) with h | h
  · simp [h.1, show p.2 = [] from h.2]
  · simp [h]
theorem pT_pc0 {q : List Pl} {n : Int} {K : AV → Prop} {t : Tk K} (h0 : 0 ≤ n) (h1 : n < q.length) : pT (pc q) (0 + n.toNat * 2) none K t = K (.int (ix q n).1) := by
  have := (pc_get (q := q) (n := n.toNat) (by omega)).1
  rw [show ((n.toNat : Nat) : Int) = n by omega] at this
  unfold pT part
  simp only [Nat.zero_add, elm_eq, this]; rfl
theorem pT_pc1 {q : List Pl} {n : Int} {K : AV → Prop} {t : Tk K} (h0 : 0 ≤ n) (h1 : n < q.length) : pT (pc q) (0 + n.toNat * 2 + 1) none K t = K (pW (ix q n)) := by
  have := (pc_get (q := q) (n := n.toNat) (by omega)).2
  rw [show ((n.toNat : Nat) : Int) = n by omega] at this
  unfold pT part
  simp only [Nat.zero_add, elm_eq, this]; rfl
theorem ixs_set {α : Type} [Inhabited α] {l : List α} {n : Nat} {i : Int} {x : α} (h0 : 0 ≤ i) (h1 : i < l.length) : ix (l.set n x) i = if i = n then x else ix l i := by
  unfold ix
  rw [List.getD_eq_getElem?_getD, List.getD_eq_getElem?_getD, List.getElem?_set]
  by_cases e : i = n
  · rw [if_pos (by omega), if_pos (by omega), if_pos e]; rfl
  · rw [if_neg (by omega), if_neg e]
theorem ixs_rep {α : Type} [Inhabited α] {n : Nat} {x : α} {i : Int} (h0 : 0 ≤ i) (h1 : i < n) : ix (List.replicate n x) i = x := by
  unfold ix
  rw [List.getD_eq_getElem?_getD, List.getElem?_replicate, if_pos (by omega)]; rfl
/-- The states that were seen. -/
structure Sn (N : Nat) (b : List Bool) (q : List Pl) : Prop where
  len : b.length = N
  ok : ∀ t, 0 ≤ t → t < (N : Int) → ix b t = hasS q t
theorem Sn.add {N : Nat} {b : List Bool} {q : List Pl} (h : Sn N b q) {t : Int} {w : List Int} (t0 : 0 ≤ t) (t1 : t < N) : Sn N (b.set t.toNat true) (q ++ [(t, w)]) := by
  refine ⟨by simp [h.len], fun u u0 u1 => ?_⟩
  rw [ixs_set u0 (by have := h.len; omega)]
  by_cases e : u = (t.toNat : Int)
  · rw [if_pos e]; simp [hasS]; right; omega
  · rw [if_neg e, h.ok u u0 u1]
    simp [hasS]
    omega
theorem join_p (p : Pl) (a : Int) (h : p.2.length ≤ 100000) : PCx L F_word_Join [.imm false [pW p, .imm false [.int a]]] = some (iL (p.2 ++ [a])) := by
  have := Join_s [(true, p.2), (false, [a])] (by simp) (by simp [cat]; omega)
  simp [cat] at this
  rw [← this]
  rfl
theorem find_hit {α : Type} [Inhabited α] {p : α → Bool} {xs : List α} {i : Int} (h0 : 0 ≤ i) (h1 : i < xs.length) (h : p (ix xs i) = true) (h2 : ∀ j, 0 ≤ j → j < i → p (ix xs j) = false) : xs.find? p = some (ix xs i) := by
  rw [List.find?_eq_some_iff_getElem]
  refine ⟨h, i.toNat, by omega, ?_, fun j hj => ?_⟩
  · rw [← ix_nat (by omega), show ((i.toNat : Nat) : Int) = i by omega]
  · have := h2 j (by omega) (by omega)
    rw [ix_nat (by omega)] at this
    simp [this]
theorem find_no {α : Type} [Inhabited α] {p : α → Bool} {xs : List α} (h2 : ∀ j, 0 ≤ j → j < (xs.length : Int) → p (ix xs j) = false) : xs.find? p = none := by
  rw [List.find?_eq_none]
  intro x hx
  obtain ⟨i, hi, rfl⟩ := List.mem_iff_getElem.1 hx
  rw [← ix_nat hi]; simp [h2 i (by omega) (by omega)]
/-- What stands in the queue for good. -/
theorem places_ok (m : Mly) (hm : m.Ok) (s : Int) (hs : 0 ≤ s ∧ s < (m.next.length : Int)) : Bq m s (m.places s) := by
  have row : ∀ (q : List Pl) (p : Pl) (k : Nat), (k : Int) ≤ m.inputs → 0 ≤ p.1 ∧ p.1 < (m.next.length : Int) → p.2.length < q.length → Bq m s q → Bq m s (brow m p q k) ∧ q.length ≤ (brow m p q k).length := by
    intro q p k
    induction k with
    | zero => intro _ _ _ h; exact ⟨h, Nat.le_refl _⟩
    | succ k ih =>
      intro hk hp hl h
      obtain ⟨h1, h2⟩ := ih (by omega) hp hl h
      rw [show ((k + 1 : Nat) : Int) = (k : Int) + 1 by omega, brow_succ (by omega)]
      refine ⟨h1.step hm hp (by omega) (by omega) (by omega), ?_⟩
      obtain ⟨l, e⟩ := bstep_pre (m := m) (p := p) (q := brow m p q k) (a := k)
      rw [e]; simp; omega
  have go : ∀ (f : Nat) (i : Int) (q : List Pl), 0 ≤ i → Bq m s q → Bq m s (bfs m f i q) := by
    intro f
    induction f with
    | zero => intro i q _ h; exact h
    | succ f ih =>
      intro i q i0 h
      by_cases hi : i < q.length
      · rw [bfs_go hi]
        have hl := h.len i i0 hi
        have hin := hm.inputs
        have := (row q (ix q i) m.inputs.toNat (by omega) (h.rng _ (ix_mem i0 hi)) (by omega) h).1
        rw [show ((m.inputs.toNat : Nat) : Int) = m.inputs by omega] at this
        exact ih _ _ (by omega) this
      · rw [bfs_end hi]; exact h
  exact go _ _ _ (by omega) (Bq.init hs)
/-- The word from a state to another. -/
def Mly.way (m : Mly) (s t : Int) : List Int × Bool × Int := match (m.places s).find? fun p => p.1 == t with
  | some p => (p.2, true, 0)
  | none => ([], false, 0)
def Mly.path (m : Mly) (s t : Int) : List Int × Bool × Int :=
  if m.validE ≠ 0 then ([], false, m.validE)
  else if s < 0 ∨ (m.next.length : Int) ≤ s ∨ t < 0 ∨ (m.next.length : Int) ≤ t then ([], false, 2)
  else m.way s t
abbrev pathA (p : List Int × Bool × Int) : AV := .tup [iL p.1, .bool p.2.1, .int p.2.2]
theorem path_far {m : Mly} {s t : Int} (hv : m.validE = 0) (h : ¬ (0 ≤ s ∧ s < (m.next.length : Int) ∧ 0 ≤ t ∧ t < (m.next.length : Int))) : m.path s t = ([], false, 2) := by
  unfold Mly.path; rw [if_neg (by simpa using hv), if_pos (by omega)]
theorem path_in {m : Mly} {s t : Int} (hv : m.validE = 0) (h : 0 ≤ s ∧ s < (m.next.length : Int) ∧ 0 ≤ t ∧ t < (m.next.length : Int)) : m.path s t = m.way s t := by
  unfold Mly.path; rw [if_neg (by simpa using hv), if_neg (by omega)]
theorem way_hit {m : Mly} {s t i : Int} (h0 : 0 ≤ i) (h1 : i < (m.places s).length) (h : (ix (m.places s) i).1 = t) (h2 : ∀ j, 0 ≤ j → j < i → ¬ (ix (m.places s) j).1 = t) : m.way s t = ((ix (m.places s) i).2, true, 0) := by
  unfold Mly.way
  rw [find_hit h0 h1 (by simpa using h) fun j a b => by simpa using h2 j a b]
theorem way_no {m : Mly} {s t : Int} (h2 : ∀ j, 0 ≤ j → j < ((m.places s).length : Int) → ¬ (ix (m.places s) j).1 = t) : m.way s t = ([], false, 0) := by
  unfold Mly.way
  rw [find_no fun j a b => by simpa using h2 j a b]
theorem path_len (m : Mly) (h : m.fits) (s t : Int) : ((m.path s t).1.length : Int) ≤ 1000000 := by
  by_cases hv : m.validE = 0
  · by_cases hr : 0 ≤ s ∧ s < (m.next.length : Int) ∧ 0 ≤ t ∧ t < (m.next.length : Int)
    · rw [path_in hv hr]
      have hm := mvalidE_ok hv
      have hq := places_ok m hm s ⟨hr.1, hr.2.1⟩
      have hqn := hq.le
      have hst := hm.states
      unfold Mly.way
      split
      · rename_i p hp
        have := List.mem_of_find?_eq_some hp
        obtain ⟨i, hi, rfl⟩ := List.mem_iff_getElem.1 this
        have := hq.len i (by omega) (by omega)
        rw [ix_nat hi] at this
        dsimp only; omega
      · simp
    · rw [path_far hv hr]; simp
  · have : m.path s t = ([], false, m.validE) := by unfold Mly.path; rw [if_pos hv]
    rw [this]; simp
theorem join_l (w : List Int) (a : Int) (h : w.length ≤ 100000) : PCx L F_word_Join [.imm false [.imm false (w.map .int), .imm false [.int a]]] = some (iL (w ++ [a])) := by
  have := Join_s [(false, w), (false, [a])] (by simp) (by simp [cat]; omega)
  simp [cat, wB] at this
  rw [← this]; rfl
end Ab
