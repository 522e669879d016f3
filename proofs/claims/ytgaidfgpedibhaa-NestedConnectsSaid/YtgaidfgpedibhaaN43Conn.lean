/- Which states well-matched words connect. Condition: none. -/
import Derived.Test.YtgaidfgpedibhaaN43Run
set_option linter.all false
set_option maxRecDepth 100000
set_option maxHeartbeats 4000000
namespace Ab
theorem chunk_none : ∀ {n : Nat} {cs : List AV}, cs.length ≤ n → chunk none n cs = cs
  | 0, cs, h => by
    have : cs = [] := List.eq_nil_of_length_eq_zero (by omega)
    subst this; rfl
  | n + 1, [], h => rfl
  | n + 1, c :: cs, h => by simp only [chunk]; rw [chunk_none (by simpa using h)]
theorem mapO_map {α : Type} {f g : α → AV} {v : AV → Option AV} (h : ∀ x, v (f x) = some (g x)) : ∀ {xs : List α}, mapO v (xs.map f) = some (xs.map g)
  | [] => rfl
  | x :: xs => by simp only [List.map_cons, mapO, h x, mapO_map h (xs := xs)]
theorem view_slm {α : Type} {f g : α → AV} {σ : List Blk} {fr : Bool} {b k n : Nat} {xs : List α} {st : BSt} (h : blk σ b = some ⟨none, xs.map f, st⟩) (hs : st ≠ .dead) (hn : n = xs.length) (hf : ∀ x, view σ fr k (f x) = some (g x)) :
    view σ fr (k + 1) (.sl b n 0 n) = some (.imm false (xs.map g)) := by
  subst hn
  have hu : upto σ b xs.length = some ⟨none, xs.map f, st⟩ := by
    unfold upto
    rw [h]
    cases st <;> simp at hs ⊢
  unfold view
  simp only [hu, kst, List.length_map, List.drop_zero, Nat.zero_add, Nat.mul_one, Nat.le_refl, if_true]
  rw [chunk_none (by simp), mapO_map hf]
theorem vd_bools {σ : List Blk} {fr : Bool} {b n : Nat} {xs : List Bool} {st : BSt} (h : blk σ b = some ⟨none, xs.map .bool, st⟩) (hs : st ≠ .dead) (hn : n = xs.length) : view σ fr vd (.sl b n 0 n) = some (bL xs) := view_slm (k := 11) h hs hn fun _ => rfl
theorem vd_ints {σ : List Blk} {fr : Bool} {b n : Nat} {xs : List Int} {st : BSt} (h : blk σ b = some ⟨none, xs.map .int, st⟩) (hs : st ≠ .dead) (hn : n = xs.length) : view σ fr vd (.sl b n 0 n) = some (iL xs) := view_slm (k := 11) h hs hn fun _ => rfl
/-- What executes symbols. -/
structure Mch where
  size : Nat
  call : Int → Int → Int × Int
  inner : Int → Int → Int
  pop : Int → Int → Int → Int
  calls : Int
  inns : Int
  rets : Int
/-- Everything stays among the states. -/
structure Mch.Ok (M : Mch) : Prop where
  size : (M.size : Int) ≤ 100000
  calls : 0 ≤ M.calls ∧ M.calls ≤ 100000
  inns : 0 ≤ M.inns ∧ M.inns ≤ 100000
  rets : 0 ≤ M.rets ∧ M.rets ≤ 100000
  call : ∀ s c, 0 ≤ s → s < (M.size : Int) → 0 ≤ c → c < M.calls → 0 ≤ (M.call s c).1 ∧ (M.call s c).1 < (M.size : Int)
  inner : ∀ s i, 0 ≤ s → s < (M.size : Int) → 0 ≤ i → i < M.inns → 0 ≤ M.inner s i ∧ M.inner s i < (M.size : Int)
  pop : ∀ s c t r, 0 ≤ s → s < (M.size : Int) → 0 ≤ c → c < M.calls → 0 ≤ t → t < (M.size : Int) → 0 ≤ r → r < M.rets → 0 ≤ M.pop t (M.call s c).2 r ∧ M.pop t (M.call s c).2 r < (M.size : Int)
inductive Conn (M : Mch) : Int → Int → Prop
  | refl (s : Int) : Conn M s s
  | inn (s i t : Int) : 0 ≤ i → i < M.inns → Conn M (M.inner s i) t → Conn M s t
  | call (s c p r t : Int) : 0 ≤ c → c < M.calls → 0 ≤ r → r < M.rets → Conn M (M.call s c).1 p → Conn M (M.pop p (M.call s c).2 r) t → Conn M s t
theorem Conn.trans {M : Mch} {a b c : Int} (h : Conn M a b) (k : Conn M b c) : Conn M a c := by
  induction h with
  | refl s => exact k
  | inn s i t h0 h1 _ ih => exact .inn s i c h0 h1 (ih k)
  | call s x p r t h0 h1 h2 h3 h4 _ _ ih => exact .call s x p r c h0 h1 h2 h3 h4 (ih k)
theorem Conn.range {M : Mch} (hM : M.Ok) {a b : Int} (h : Conn M a b) (ha : 0 ≤ a ∧ a < (M.size : Int)) : 0 ≤ b ∧ b < (M.size : Int) := by
  induction h with
  | refl s => exact ha
  | inn s i t h0 h1 _ ih => exact ih (hM.inner s i ha.1 ha.2 h0 h1)
  | call s x p r t h0 h1 h2 h3 h4 _ ih1 ih2 =>
    have hp := ih1 (hM.call s x ha.1 ha.2 h0 h1)
    exact ih2 (hM.pop s x p r ha.1 ha.2 h0 h1 hp.1 hp.2 h2 h3)
/-- Steps, one after the other. -/
inductive Star (S : Int → Int → Prop) : Int → Int → Prop
  | refl (s : Int) : Star S s s
  | tail (s t u : Int) : Star S s t → S t u → Star S s u
theorem Star.trans {S : Int → Int → Prop} {a b c : Int} (h : Star S a b) (k : Star S b c) : Star S a c := by
  induction k with
  | refl => exact h
  | tail t u _ h2 ih => exact .tail a t u ih h2
theorem Star.head {S : Int → Int → Prop} {a b c : Int} (h : S a b) (k : Star S b c) : Star S a c := (Star.tail a a b (.refl a) h).trans k
/-- A set of steps that is sound, holds the inner ones and is closed gives just what is connected. -/
theorem star_conn {M : Mch} (hM : M.Ok) {S : Int → Int → Prop} (sound : ∀ s t, 0 ≤ s → s < (M.size : Int) → S s t → Conn M s t)
    (inn : ∀ s i, 0 ≤ s → s < (M.size : Int) → 0 ≤ i → i < M.inns → S s (M.inner s i))
    (cl : ∀ s c p r, 0 ≤ s → s < (M.size : Int) → 0 ≤ c → c < M.calls → 0 ≤ r → r < M.rets → Star S (M.call s c).1 p → S s (M.pop p (M.call s c).2 r))
    {a b : Int} (ha : 0 ≤ a ∧ a < (M.size : Int)) : Star S a b ↔ Conn M a b := by
  constructor
  · intro h
    have key : Conn M a b ∧ (0 ≤ b ∧ b < (M.size : Int)) := by
      induction h with
      | refl => exact ⟨.refl a, ha⟩
      | tail t u _ h2 ih =>
        have := sound t u ih.2.1 ih.2.2 h2
        exact ⟨ih.1.trans this, this.range hM ih.2⟩
    exact key.1
  · intro h
    induction h with
    | refl s => exact .refl s
    | inn s i t h0 h1 _ ih =>
      exact Star.head (inn s i ha.1 ha.2 h0 h1) (ih (hM.inner s i ha.1 ha.2 h0 h1))
    | call s x p r t h0 h1 h2 h3 h4 _ ih1 ih2 =>
      have q := hM.call s x ha.1 ha.2 h0 h1
      have hp := h4.range hM q
      exact Star.head (cl s x p r ha.1 ha.2 h0 h1 h2 h3 (ih1 q)) (ih2 (hM.pop s x p r ha.1 ha.2 h0 h1 hp.1 hp.2 h2 h3))
/-- A table that is sound and closed says just what is connected. -/
theorem table_conn {M : Mch} (hM : M.Ok) {T : Int → Int → Prop} (sound : ∀ s t, T s t → Conn M s t) (rf : ∀ s, 0 ≤ s → s < (M.size : Int) → T s s)
    (inn : ∀ s i t, 0 ≤ s → s < (M.size : Int) → 0 ≤ i → i < M.inns → 0 ≤ t → t < (M.size : Int) → T (M.inner s i) t → T s t)
    (cl : ∀ s c p r t, 0 ≤ s → s < (M.size : Int) → 0 ≤ c → c < M.calls → 0 ≤ p → p < (M.size : Int) → 0 ≤ r → r < M.rets → 0 ≤ t → t < (M.size : Int) → T (M.call s c).1 p → T (M.pop p (M.call s c).2 r) t → T s t)
    {a b : Int} (ha : 0 ≤ a ∧ a < (M.size : Int)) : T a b ↔ Conn M a b := by
  refine ⟨sound a b, fun h => ?_⟩
  induction h with
  | refl s => exact rf s ha.1 ha.2
  | inn s i t h0 h1 h2 ih =>
    have q := hM.inner s i ha.1 ha.2 h0 h1
    have ht := h2.range hM q
    exact inn s i t ha.1 ha.2 h0 h1 ht.1 ht.2 (ih q)
  | call s x p r t h0 h1 h2 h3 h4 h5 ih1 ih2 =>
    have q := hM.call s x ha.1 ha.2 h0 h1
    have hp := h4.range hM q
    have q2 := hM.pop s x p r ha.1 ha.2 h0 h1 hp.1 hp.2 h2 h3
    have ht := h5.range hM q2
    exact cl s x p r t ha.1 ha.2 h0 h1 hp.1 hp.2 h2 h3 ht.1 ht.2 (ih1 q) (ih2 q2)
/-! ### Spread -/
/-- A table of bools as a relation. -/
def rel (m : List (List Bool)) (s t : Int) : Prop := 0 ≤ s ∧ s < m.length ∧ 0 ≤ t ∧ t < m.length ∧ ix (ix m s) t = true
theorem ix_set {l : List Bool} {i : Nat} {x : Bool} {j : Int} (hj : 0 ≤ j) (hi : i < l.length) : ix (l.set i x) j = if j = i then x else ix l j := by
  unfold ix
  rw [List.getD_eq_getElem?_getD, List.getD_eq_getElem?_getD, List.getElem?_set]
  by_cases h : i = j.toNat
  · rw [if_pos h, if_pos hi, if_pos (by omega)]; rfl
  · rw [if_neg h, if_neg (by omega)]
theorem count_set_false {l : List Bool} {i : Nat} (h : i < l.length) (hv : ix l i = false) : (l.set i true).count false + 1 = l.count false := by
  rw [ix_nat h] at hv
  rw [List.count_set h]
  simp [hv]
  have : 0 < l.count false := List.count_pos_iff.2 (by rw [← hv]; exact List.getElem_mem h)
  omega
/-- The states of a queue so far: those that are marked. -/
structure Spr (m : List (List Bool)) (a : Int) (seen : List Bool) (l : List Int) : Prop where
  len : seen.length = m.length
  mem : ∀ t, 0 ≤ t → t < (m.length : Int) → (ix seen t = true ↔ t ∈ l)
  rng : ∀ t ∈ l, 0 ≤ t ∧ t < (m.length : Int)
  star : ∀ t ∈ l, Star (rel m) a t
  start : a ∈ l
  cnt : l.length + seen.count false = m.length
theorem ix_app {α : Type} [Inhabited α] {l m : List α} {j : Int} (h0 : 0 ≤ j) (h1 : j < l.length) : ix (l ++ m) j = ix l j := by
  unfold ix
  rw [List.getD_eq_getElem?_getD, List.getD_eq_getElem?_getD, List.getElem?_append_left (by omega)]
theorem ix_replicate {n : Nat} {x : Bool} {j : Int} (h0 : 0 ≤ j) (h1 : j < n) : ix (List.replicate n x) j = x := by
  unfold ix
  rw [List.getD_eq_getElem?_getD, List.getElem?_replicate, if_pos (by omega)]; rfl
theorem Spr.begin {m : List (List Bool)} {a : Int} (ha : 0 ≤ a ∧ a < m.length) : Spr m a ((List.replicate m.length false).set a.toNat true) [a] := by
  have hr : a.toNat < (List.replicate m.length false).length := by simp; omega
  refine ⟨by simp, fun t t0 t1 => ?_, by simpa using ha, by simpa using Star.refl a, by simp, ?_⟩
  · rw [ix_set t0 hr]
    by_cases h : t = a.toNat
    · rw [if_pos h]; simp; omega
    · rw [if_neg h, ix_replicate t0 (by omega)]; simp; omega
  · have := count_set_false hr (by rw [ix_replicate (by omega) (by omega)])
    simp at this ⊢
    omega
theorem Spr.more {m : List (List Bool)} {a s t : Int} {seen : List Bool} {l : List Int} (h : Spr m a seen l) (hs : s ∈ l) (hst : rel m s t) (hn : ix seen t = false) : Spr m a (seen.set t.toNat true) (l ++ [t]) := by
  have hst' := hst
  obtain ⟨_, _, t0, t1, _⟩ := hst
  have hr : t.toNat < seen.length := by rw [h.len]; omega
  refine ⟨by rw [List.length_set]; exact h.len, fun u u0 u1 => ?_, fun u hu => ?_, fun u hu => ?_, by simp [h.start], ?_⟩
  · rw [ix_set u0 hr]
    by_cases hut : u = t.toNat
    · rw [if_pos hut]; simp; right; omega
    · rw [if_neg hut, h.mem u u0 u1]; simp; intro; omega
  · rcases List.mem_append.1 hu with hu | hu
    · exact h.rng u hu
    · simp at hu; subst hu; exact ⟨t0, t1⟩
  · rcases List.mem_append.1 hu with hu | hu
    · exact h.star u hu
    · simp at hu; subst hu; exact .tail a s u (h.star s hs) hst'
  · have := count_set_false hr (by rw [show ((t.toNat : Nat) : Int) = t by omega]; exact hn)
    have := h.cnt
    simp; omega
theorem spread_s (m : List (List Bool)) (a : Int) (hm : (m.length : Int) ≤ 100000) (hr : ∀ r ∈ m, r.length = m.length) (ha : 0 ≤ a ∧ a < m.length) :
    LX L F_nested_spread [.imm false (m.map bL), .int a] [] (fun v σ' => ∃ seen : List Bool, viewT σ' true v = some (bL seen) ∧ seen.length = m.length ∧ ∀ t, 0 ≤ t → t < (m.length : Int) → (ix seen t = true ↔ Star (rel m) a t)) := by
  refine go_nested_spread rfl ?_
  simp [-List.map_replicate, -List.map_append, -List.map_set, ha]
  (repeat' apply And.intro) <;> try omega
  refine W_iter (fun p : Int × List Bool × List Int => [(3, .int p.1), (4, .sl 1 p.2.2.length 0 p.2.2.length)]) (fun p => [⟨none, p.2.1.map .bool, .live⟩, ⟨none, p.2.2.map .int, .live⟩])
    (fun p => (0 ≤ p.1 ∧ p.1 ≤ p.2.2.length) ∧ Spr m a p.2.1 p.2.2 ∧ ∀ k, 0 ≤ k → k < p.1 → ∀ t, rel m (ix p.2.2 k) t → t ∈ p.2.2)
    (fun p => 2 * p.2.1.count false + (p.2.2.length - p.1).toNat) (0, (List.replicate m.length false).set a.toNat true, [a]) (by simp [sets]) ⟨by simp, Spr.begin ha, fun k k0 k1 => by simp at k1; omega⟩ ?_
  rintro ⟨i, seen, l⟩ ⟨⟨i0, i1⟩, h1, h2⟩
  dsimp only at i0 i1 h1 h2 ⊢
  have hcnt := h1.cnt
  by_cases hi : i < l.length
  · have hs := ix_mem i0 hi
    have hsr := h1.rng _ hs
    have hrow := hr _ (ix_mem hsr.1 hsr.2)
    have hlen := h1.len
    simp [-List.map_replicate, -List.map_append, -List.map_set, -More_nor, hi, i0, hsr.1, hsr.2]
    refine W_iter (fun p : Int × List Bool × List Int => [(5, .int p.1), (4, .sl 1 p.2.2.length 0 p.2.2.length)]) (fun p => [⟨none, p.2.1.map .bool, .live⟩, ⟨none, p.2.2.map .int, .live⟩])
      (fun p => (0 ≤ p.1 ∧ p.1 ≤ m.length) ∧ Spr m a p.2.1 p.2.2 ∧ (∃ more, p.2.2 = l ++ more) ∧ (∀ t, 0 ≤ t → t < p.1 → rel m (ix l i) t → t ∈ p.2.2) ∧ 2 * p.2.1.count false + p.2.2.length ≤ 2 * seen.count false + l.length)
      (fun p => (m.length - p.1).toNat) (0, seen, l) (by simp [sets]) ⟨by simp, h1, ⟨[], by simp⟩, fun t t0 t1 => by simp at t1; omega, Nat.le_refl _⟩ ?_
    rintro ⟨j, seen', l'⟩ ⟨⟨j0, j1⟩, g1, ⟨more, g2⟩, g3, g4⟩
    dsimp only at j0 j1 g1 g2 g3 g4 ⊢
    have gcnt := g1.cnt
    have glen := g1.len
    have gn := g1.len
    by_cases hj : j < m.length
    · have hj' : j < (ix m (ix l i)).length := by omega
      by_cases c1 : ix (ix m (ix l i)) j = true
      · by_cases c2 : ix seen' j = true
        · simp [-List.map_replicate, -List.map_append, -List.map_set, -More_nor, hj', j0, c1, c2, show j.toNat < seen'.length by omega, show j < (m.length : Int) by omega]
          (repeat' apply And.intro) <;> try omega
          refine More_of (j + 1, seen', l') (by simp) (by simp) ⟨⟨by dsimp only; omega, by dsimp only; omega⟩, g1, ⟨more, g2⟩, upto_succ (fun _ => (g1.mem j j0 hj).1 c2) g3, g4⟩ (by dsimp only; omega)
        · have hrel : rel m (ix l i) j := ⟨hsr.1, hsr.2, j0, hj, c1⟩
          have c2' : ix seen' j = false := by simpa using c2
          have q := g1.more (s := ix l i) (by rw [g2]; exact List.mem_append.2 (.inl hs)) hrel c2'
          have qc := count_set_false (l := seen') (i := j.toNat) (by omega) (by rw [show ((j.toNat : Nat) : Int) = j by omega]; exact c2')
          simp [-List.map_replicate, -List.map_append, -List.map_set, -More_nor, hj', j0, c1, c2', show j.toNat < seen'.length by omega, show j < (m.length : Int) by omega]
          (repeat' apply And.intro) <;> try omega
          refine More_of (j + 1, seen'.set j.toNat true, l' ++ [j]) (by simp) (by simp) ⟨⟨by dsimp only; omega, by dsimp only; omega⟩, q, ⟨more ++ [j], by simp [g2]⟩, ?_, ?_⟩ (by dsimp only; omega)
          · exact upto_succ (fun _ => by simp) fun t t0 t1 h => List.mem_append.2 (.inl (g3 t t0 t1 h))
          · simp; omega
      · have c1' : ix (ix m (ix l i)) j = false := by simpa using c1
        simp [-List.map_replicate, -List.map_append, -List.map_set, -More_nor, hj', j0, c1']
        (repeat' apply And.intro) <;> try omega
        refine More_of (j + 1, seen', l') (by simp) (by simp) ⟨⟨by dsimp only; omega, by dsimp only; omega⟩, g1, ⟨more, g2⟩, upto_succ (fun h => by rw [h.2.2.2.2] at c1'; simp at c1') g3, g4⟩ (by dsimp only; omega)
    · have hj' : ¬ j < (ix m (ix l i)).length := by omega
      have hll : l.length ≤ l'.length := by rw [g2]; simp
      simp [-List.map_replicate, -List.map_append, -List.map_set, -More_nor, hj']
      (repeat' apply And.intro) <;> try omega
      refine More_of (i + 1, seen', l') (by simp) (by simp) ⟨⟨by dsimp only; omega, by dsimp only; omega⟩, g1, ?_⟩ (by dsimp only; omega)
      dsimp only
      refine upto_succ ?_ ?_
      · intro t ht
        rw [g2, ix_app i0 hi] at ht
        exact g3 t ht.2.2.1 (by have := ht.2.2.2.1; omega) ht
      · intro k k0 k1 t ht
        rw [g2, ix_app k0 (by omega)] at ht
        have := h2 k k0 k1 t ht
        rw [g2]; exact List.mem_append.2 (.inl this)
  · simp [hi]
    refine ⟨seen, vd_bools rfl (by simp) (by rw [h1.len]), h1.len, fun t t0 t1 => ?_⟩
    rw [h1.mem t t0 t1]
    refine ⟨h1.star t, fun hst => ?_⟩
    have key : ∀ u, Star (rel m) a u → u ∈ l := by
      intro u hu
      induction hu with
      | refl => exact h1.start
      | tail u v _ huv ih =>
        obtain ⟨k, hk, rfl⟩ := List.mem_iff_getElem.1 ih
        rw [← ix_nat hk] at huv
        exact h2 k (by omega) (by omega) v huv
    exact key t hst
end Ab
