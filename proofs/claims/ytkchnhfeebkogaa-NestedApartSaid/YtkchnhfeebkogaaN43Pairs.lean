/- Which states well-matched words connect. Tables of bools in memory, and machines behind an interface. The steps that consist of a call, a word and a return. The walk of widen. Which states are connected: the program's table. The document's table of connected states, and which states are connected. Condition: none. -/
import Derived.Test.YtkchnhfeebkogaaN43Run
set_option linter.all false
set_option maxRecDepth 100000
set_option maxHeartbeats 4000000
namespace Ab
theorem z9LC : ∀ {n : Nat} {cs : List AV}, cs.length ≤ n → chunk none n cs = cs
  | 0, cs, h => by
    have : cs = [] := List.eq_nil_of_length_eq_zero (by omega)
    subst this; rfl
  | n + 1, [], h => rfl
  | n + 1, c :: cs, h => by simp only [chunk]; rw [z9LC (by simpa using h)]
theorem ziiz {α : Type} {f g : α → AV} {v : AV → Option AV} (h : ∀ x, v (f x) = some (g x)) : ∀ {xs : List α}, mapO v (xs.map f) = some (xs.map g)
  | [] => rfl
  | x :: xs => by simp only [List.map_cons, mapO, h x, ziiz h (xs := xs)]
theorem zIRd {α : Type} {f g : α → AV} {σ : List Blk} {fr : Bool} {b k n : Nat} {xs : List α} {st : BSt} (h : blk σ b = some ⟨none, xs.map f, st⟩) (hs : st.isArr = true) (hn : n = xs.length) (hf : ∀ x, view σ fr k (f x) = some (g x)) :
    view σ fr (k + 1) (.sl b n 0 n) = some (.imm false (xs.map g)) := by
  subst hn
  have hu : upto σ b xs.length = some ⟨none, xs.map f, st⟩ := by
    unfold upto
    rw [h]
    cases st <;> simp at hs ⊢
  unfold view
  simp only [hu, kst, List.length_map, List.drop_zero, Nat.zero_add, Nat.mul_one, Nat.le_refl, if_true]
  rw [z9LC (by simp), ziiz hf]
theorem zjxA {σ : List Blk} {fr : Bool} {b n : Nat} {xs : List Bool} {st : BSt} (h : blk σ b = some ⟨none, xs.map .bool, st⟩) (hs : st.isArr = true) (hn : n = xs.length) : view σ fr vd (.sl b n 0 n) = some (bL xs) := zIRd (k := 11) h hs hn fun _ => rfl
structure Mch where
  size : Nat
  call : Int → Int → Int × Int
  inner : Int → Int → Int
  pop : Int → Int → Int → Int
  calls : Int
  inns : Int
  rets : Int
structure Mch.Ok (M : Mch) : Prop where
  size : (M.size : Int) ≤ 100000
  calls : 0 ≤ M.calls ∧ M.calls ≤ 100000
  inns : 0 ≤ M.inns ∧ M.inns ≤ 100000
  rets : 0 ≤ M.rets ∧ M.rets ≤ 100000
  call : ∀ s c, 0 ≤ s → s < (M.size : Int) → 0 ≤ c → c < M.calls → 0 ≤ (M.call s c).1 ∧ (M.call s c).1 < (M.size : Int)
  inner : ∀ s i, 0 ≤ s → s < (M.size : Int) → 0 ≤ i → i < M.inns → 0 ≤ M.inner s i ∧ M.inner s i < (M.size : Int)
  pop : ∀ s c t r, 0 ≤ s → s < (M.size : Int) → 0 ≤ c → c < M.calls → 0 ≤ t → t < (M.size : Int) → 0 ≤ r → r < M.rets → 0 ≤ M.pop t (M.call s c).2 r ∧ M.pop t (M.call s c).2 r < (M.size : Int)
inductive Conn (M : Mch) : Int → Int → Prop
  | refl (s : Int) : Conn M s s
  | inn (s i t : Int) : 0 ≤ i → i < M.inns → Conn M (M.inner s i) t → Conn M s t
  | call (s c p r t : Int) : 0 ≤ c → c < M.calls → 0 ≤ r → r < M.rets → Conn M (M.call s c).1 p → Conn M (M.pop p (M.call s c).2 r) t → Conn M s t
theorem Conn.trans {M : Mch} {a b c : Int} (h : Conn M a b) (k : Conn M b c) : Conn M a c := by
  induction h with
  | refl s => exact k
  | inn s i t h0 h1 _ ih => exact .inn s i c h0 h1 (ih k)
  | call s x p r t h0 h1 h2 h3 h4 _ _ ih => exact .call s x p r c h0 h1 h2 h3 h4 (ih k)
theorem Conn.range {M : Mch} (hM : M.Ok) {a b : Int} (h : Conn M a b) (ha : 0 ≤ a ∧ a < (M.size : Int)) : 0 ≤ b ∧ b < (M.size : Int) := by
  induction h with
  | refl s => exact ha
  | inn s i t h0 h1 _ ih => exact ih (hM.inner s i ha.1 ha.2 h0 h1)
  | call s x p r t h0 h1 h2 h3 h4 _ ih1 ih2 =>
    have hp := ih1 (hM.call s x ha.1 ha.2 h0 h1)
    exact ih2 (hM.pop s x p r ha.1 ha.2 h0 h1 hp.1 hp.2 h2 h3)
inductive Star (S : Int → Int → Prop) : Int → Int → Prop
  | refl (s : Int) : Star S s s
  | tail (s t u : Int) : Star S s t → S t u → Star S s u
theorem Star.trans {S : Int → Int → Prop} {a b c : Int} (h : Star S a b) (k : Star S b c) : Star S a c := by
  induction k with
  | refl => exact h
  | tail t u _ h2 ih => exact .tail a t u ih h2
theorem Star.head {S : Int → Int → Prop} {a b c : Int} (h : S a b) (k : Star S b c) : Star S a c := (Star.tail a a b (.refl a) h).trans k
theorem zC4t {M : Mch} (hM : M.Ok) {S : Int → Int → Prop} (sound : ∀ s t, 0 ≤ s → s < (M.size : Int) → S s t → Conn M s t)
    (inn : ∀ s i, 0 ≤ s → s < (M.size : Int) → 0 ≤ i → i < M.inns → S s (M.inner s i))
    (cl : ∀ s c p r, 0 ≤ s → s < (M.size : Int) → 0 ≤ c → c < M.calls → 0 ≤ r → r < M.rets → Star S (M.call s c).1 p → S s (M.pop p (M.call s c).2 r))
    {a b : Int} (ha : 0 ≤ a ∧ a < (M.size : Int)) : Star S a b ↔ Conn M a b := by
  constructor
  · intro h
    have key : Conn M a b ∧ (0 ≤ b ∧ b < (M.size : Int)) := by
      induction h with
      | refl => exact ⟨.refl a, ha⟩
      | tail t u _ h2 ih =>
        have := sound t u ih.2.1 ih.2.2 h2
        exact ⟨ih.1.trans this, this.range hM ih.2⟩
    exact key.1
  · intro h
    induction h with
    | refl s => exact .refl s
    | inn s i t h0 h1 _ ih =>
      exact Star.head (inn s i ha.1 ha.2 h0 h1) (ih (hM.inner s i ha.1 ha.2 h0 h1))
    | call s x p r t h0 h1 h2 h3 h4 _ ih1 ih2 =>
      have q := hM.call s x ha.1 ha.2 h0 h1
      have hp := h4.range hM q
      exact Star.head (cl s x p r ha.1 ha.2 h0 h1 h2 h3 (ih1 q)) (ih2 (hM.pop s x p r ha.1 ha.2 h0 h1 hp.1 hp.2 h2 h3))
def rel (m : List (List Bool)) (s t : Int) : Prop := 0 ≤ s ∧ s < m.length ∧ 0 ≤ t ∧ t < m.length ∧ ix (ix m s) t = true
theorem zris {l : List Bool} {i : Nat} {x : Bool} {j : Int} (hj : 0 ≤ j) (hi : i < l.length) : ix (l.set i x) j = if j = i then x else ix l j := by
  unfold ix
  rw [List.getD_eq_getElem?_getD, List.getD_eq_getElem?_getD, List.getElem?_set]
  by_cases h : i = j.toNat
  · rw [if_pos h, if_pos hi, if_pos (by omega)]; rfl
  · rw [if_neg h, if_neg (by omega)]
theorem z2Bn {l : List Bool} {i : Nat} (h : i < l.length) (hv : ix l i = false) : (l.set i true).count false + 1 = l.count false := by
  rw [zrZW h] at hv
  rw [List.count_set h]
  simp [hv]
  have : 0 < l.count false := List.count_pos_iff.2 (by rw [← hv]; exact List.getElem_mem h)
  omega
structure Spr (m : List (List Bool)) (a : Int) (seen : List Bool) (l : List Int) : Prop where
  len : seen.length = m.length
  mem : ∀ t, 0 ≤ t → t < (m.length : Int) → (ix seen t = true ↔ t ∈ l)
  rng : ∀ t ∈ l, 0 ≤ t ∧ t < (m.length : Int)
  star : ∀ t ∈ l, Star (rel m) a t
  start : a ∈ l
  cnt : l.length + seen.count false = m.length
theorem zktv {α : Type} [Inhabited α] {l m : List α} {j : Int} (h0 : 0 ≤ j) (h1 : j < l.length) : ix (l ++ m) j = ix l j := by
  unfold ix
  rw [List.getD_eq_getElem?_getD, List.getD_eq_getElem?_getD, List.getElem?_append_left (by omega)]
theorem z2Ia {n : Nat} {x : Bool} {j : Int} (h0 : 0 ≤ j) (h1 : j < n) : ix (List.replicate n x) j = x := by
  unfold ix
  rw [List.getD_eq_getElem?_getD, List.getElem?_replicate, if_pos (by omega)]; rfl
theorem Spr.begin {m : List (List Bool)} {a : Int} (ha : 0 ≤ a ∧ a < m.length) : Spr m a ((List.replicate m.length false).set a.toNat true) [a] := by
  have hr : a.toNat < (List.replicate m.length false).length := by simp; omega
  refine ⟨by simp, fun t t0 t1 => ?_, by simpa using ha, by simpa using Star.refl a, by simp, ?_⟩
  · rw [zris t0 hr]
    by_cases h : t = a.toNat
    · rw [if_pos h]; simp; omega
    · rw [if_neg h, z2Ia t0 (by omega)]; simp; omega
  · have := z2Bn hr (by rw [z2Ia (by omega) (by omega)])
    simp at this ⊢
    omega
theorem Spr.more {m : List (List Bool)} {a s t : Int} {seen : List Bool} {l : List Int} (h : Spr m a seen l) (hs : s ∈ l) (hst : rel m s t) (hn : ix seen t = false) : Spr m a (seen.set t.toNat true) (l ++ [t]) := by
  have hst' := hst
  obtain ⟨_, _, t0, t1, _⟩ := hst
  have hr : t.toNat < seen.length := by rw [h.len]; omega
  refine ⟨by rw [List.length_set]; exact h.len, fun u u0 u1 => ?_, fun u hu => ?_, fun u hu => ?_, by simp [h.start], ?_⟩
  · rw [zris u0 hr]
    by_cases hut : u = t.toNat
    · rw [if_pos hut]; simp; right; omega
    · rw [if_neg hut, h.mem u u0 u1]; simp; intro; omega
  · rcases List.mem_append.1 hu with hu | hu
    · exact h.rng u hu
    · simp at hu; subst hu; exact ⟨t0, t1⟩
  · rcases List.mem_append.1 hu with hu | hu
    · exact h.star u hu
    · simp at hu; subst hu; exact .tail a s u (h.star s hs) hst'
  · have := z2Bn hr (by rw [show ((t.toNat : Nat) : Int) = t by omega]; exact hn)
    have := h.cnt
    simp; omega
theorem zdHh (m : List (List Bool)) (a : Int) (hm : (m.length : Int) ≤ 100000) (hr : ∀ r ∈ m, r.length = m.length) (ha : 0 ≤ a ∧ a < m.length) :
    LX L zSOc [.imm false (m.map bL), .int a] [] (fun v σ' => ∃ seen : List Bool, viewT σ' true v = some (bL seen) ∧ seen.length = m.length ∧ ∀ t, 0 ≤ t → t < (m.length : Int) → (ix seen t = true ↔ Star (rel m) a t)) := by
  refine zbK1 rfl ?_
  simp [-List.map_replicate, -List.map_append, -List.map_set, ha]
  (repeat' apply And.intro) <;> try omega
  refine zv8C (fun p : Int × List Bool × List Int => [(3, .int p.1), (4, .sl 1 p.2.2.length 0 p.2.2.length)]) (fun p => [⟨none, p.2.1.map .bool, .live⟩, ⟨none, p.2.2.map .int, .live⟩])
    (fun p => (0 ≤ p.1 ∧ p.1 ≤ p.2.2.length) ∧ Spr m a p.2.1 p.2.2 ∧ ∀ k, 0 ≤ k → k < p.1 → ∀ t, rel m (ix p.2.2 k) t → t ∈ p.2.2)
    (fun p => 2 * p.2.1.count false + (p.2.2.length - p.1).toNat) (0, (List.replicate m.length false).set a.toNat true, [a]) (by simp [sets]) ⟨by simp, Spr.begin ha, fun k k0 k1 => by simp at k1; omega⟩ ?_
  rintro ⟨i, seen, l⟩ ⟨⟨i0, i1⟩, h1, h2⟩
  dsimp only at i0 i1 h1 h2 ⊢
  have hcnt := h1.cnt
  by_cases hi : i < l.length
  · have hs := zmAQ i0 hi
    have hsr := h1.rng _ hs
    have hrow := hr _ (zmAQ hsr.1 hsr.2)
    have hlen := h1.len
    simp [-List.map_replicate, -List.map_append, -List.map_set, -zJRc, hi, i0, hsr.1, hsr.2]
    refine zv8C (fun p : Int × List Bool × List Int => [(5, .int p.1), (4, .sl 1 p.2.2.length 0 p.2.2.length)]) (fun p => [⟨none, p.2.1.map .bool, .live⟩, ⟨none, p.2.2.map .int, .live⟩])
      (fun p => (0 ≤ p.1 ∧ p.1 ≤ m.length) ∧ Spr m a p.2.1 p.2.2 ∧ (∃ more, p.2.2 = l ++ more) ∧ (∀ t, 0 ≤ t → t < p.1 → rel m (ix l i) t → t ∈ p.2.2) ∧ 2 * p.2.1.count false + p.2.2.length ≤ 2 * seen.count false + l.length)
      (fun p => (m.length - p.1).toNat) (0, seen, l) (by simp [sets]) ⟨by simp, h1, ⟨[], by simp⟩, fun t t0 t1 => by simp at t1; omega, Nat.le_refl _⟩ ?_
    rintro ⟨j, seen', l'⟩ ⟨⟨j0, j1⟩, g1, ⟨more, g2⟩, g3, g4⟩
    dsimp only at j0 j1 g1 g2 g3 g4 ⊢
    have gcnt := g1.cnt
    have glen := g1.len
    have gn := g1.len
    by_cases hj : j < m.length
    · have hj' : j < (ix m (ix l i)).length := by omega
      by_cases c1 : ix (ix m (ix l i)) j = true
      · by_cases c2 : ix seen' j = true
        · simp [-List.map_replicate, -List.map_append, -List.map_set, -zJRc, hj', j0, c1, c2, show j.toNat < seen'.length by omega, show j < (m.length : Int) by omega]
          (repeat' apply And.intro) <;> try omega
          refine zGkM (j + 1, seen', l') (by simp) (by simp) ⟨⟨by dsimp only; omega, by dsimp only; omega⟩, g1, ⟨more, g2⟩, zvtS (fun _ => (g1.mem j j0 hj).1 c2) g3, g4⟩ (by dsimp only; omega)
        · have hrel : rel m (ix l i) j := ⟨hsr.1, hsr.2, j0, hj, c1⟩
          have c2' : ix seen' j = false := by simpa using c2
          have q := g1.more (s := ix l i) (by rw [g2]; exact List.mem_append.2 (.inl hs)) hrel c2'
          have qc := z2Bn (l := seen') (i := j.toNat) (by omega) (by rw [show ((j.toNat : Nat) : Int) = j by omega]; exact c2')
          simp [-List.map_replicate, -List.map_append, -List.map_set, -zJRc, hj', j0, c1, c2', show j.toNat < seen'.length by omega, show j < (m.length : Int) by omega]
          (repeat' apply And.intro) <;> try omega
          refine zGkM (j + 1, seen'.set j.toNat true, l' ++ [j]) (by simp) (by simp) ⟨⟨by dsimp only; omega, by dsimp only; omega⟩, q, ⟨more ++ [j], by simp [g2]⟩, ?_, ?_⟩ (by dsimp only; omega)
          · exact zvtS (fun _ => by simp) fun t t0 t1 h => List.mem_append.2 (.inl (g3 t t0 t1 h))
          · simp; omega
      · have c1' : ix (ix m (ix l i)) j = false := by simpa using c1
        simp [-List.map_replicate, -List.map_append, -List.map_set, -zJRc, hj', j0, c1']
        (repeat' apply And.intro) <;> try omega
        refine zGkM (j + 1, seen', l') (by simp) (by simp) ⟨⟨by dsimp only; omega, by dsimp only; omega⟩, g1, ⟨more, g2⟩, zvtS (fun h => by rw [h.2.2.2.2] at c1'; simp at c1') g3, g4⟩ (by dsimp only; omega)
    · have hj' : ¬ j < (ix m (ix l i)).length := by omega
      have hll : l.length ≤ l'.length := by rw [g2]; simp
      simp [-List.map_replicate, -List.map_append, -List.map_set, -zJRc, hj']
      (repeat' apply And.intro) <;> try omega
      refine zGkM (i + 1, seen', l') (by simp) (by simp) ⟨⟨by dsimp only; omega, by dsimp only; omega⟩, g1, ?_⟩ (by dsimp only; omega)
      dsimp only
      refine zvtS ?_ ?_
      · intro t ht
        rw [g2, zktv i0 hi] at ht
        exact g3 t ht.2.2.1 (by have := ht.2.2.2.1; omega) ht
      · intro k k0 k1 t ht
        rw [g2, zktv k0 (by omega)] at ht
        have := h2 k k0 k1 t ht
        rw [g2]; exact List.mem_append.2 (.inl this)
  · simp [hi]
    refine ⟨seen, zjxA rfl (by simp) (by rw [h1.len]), h1.len, fun t t0 t1 => ?_⟩
    rw [h1.mem t t0 t1]
    refine ⟨h1.star t, fun hst => ?_⟩
    have key : ∀ u, Star (rel m) a u → u ∈ l := by
      intro u hu
      induction hu with
      | refl => exact h1.start
      | tail u v _ huv ih =>
        obtain ⟨k, hk, rfl⟩ := List.mem_iff_getElem.1 ih
        rw [← zrZW hk] at huv
        exact h2 k (by omega) (by omega) v huv
    exact key t hst
end Ab
namespace Ab
abbrev rowB (r : List Bool) : Blk := ⟨none, r.map .bool, .live⟩
abbrev refs (k N : Nat) : List AV := (List.range k).map fun i => AV.sl (2 + i) N 0 N
def mat (box : Blk) (N : Nat) (m : List (List Bool)) (rest : List Blk) : List Blk := box :: ⟨none, refs m.length N ++ List.replicate (N - m.length) .snil, .live⟩ :: (m.map rowB ++ rest)
theorem zzWB : ∀ (σ : List Blk) (i : Nat), blk σ i = σ[i]?
  | [], i => by simp [blk]
  | x :: r, 0 => rfl
  | x :: r, i + 1 => by simp [blk, zzWB r i]
theorem z4Wl : ∀ (σ : List Blk) (i : Nat) (B : Blk), setB σ i B = σ.set i B
  | [], i, B => by simp [setB]
  | x :: r, 0, B => rfl
  | x :: r, i + 1, B => by simp [setB, z4Wl r i B]
theorem zd9S {box : Blk} {N : Nat} {m : List (List Bool)} {rest : List Blk} {s : Int} (h0 : 0 ≤ s) (h1 : s < m.length) : blk (mat box N m rest) (2 + s.toNat) = some (rowB (ix m s)) := by
  rw [zzWB, mat, show 2 + s.toNat = s.toNat + 1 + 1 by omega, List.getElem?_cons_succ, List.getElem?_cons_succ, List.getElem?_append_left (by simp; omega), List.getElem?_map, ix_eq h0 h1]
  rfl
theorem zUeD {box : Blk} {N : Nat} {m : List (List Bool)} {rest : List Blk} {s : Int} {r : List Bool} (h0 : 0 ≤ s) (h1 : s < m.length) : setB (mat box N m rest) (2 + s.toNat) ⟨none, r.map .bool, .live⟩ = mat box N (m.set s.toNat r) rest := by
  rw [z4Wl, mat, mat, show 2 + s.toNat = s.toNat + 1 + 1 by omega, List.set_cons_succ, List.set_cons_succ, List.set_append, if_pos (by simp; omega)]
  simp [List.map_set]
theorem zK1G {box : Blk} {N : Nat} {m : List (List Bool)} {rest : List Blk} : blk (mat box N m rest) 1 = some ⟨none, refs m.length N ++ List.replicate (N - m.length) .snil, .live⟩ := rfl
theorem z922 {box : Blk} {N : Nat} {m : List (List Bool)} {rest : List Blk} (h : m.length = N) : blk (mat box N m rest) 1 = some ⟨none, refs N N, .live⟩ := by rw [zK1G, h]; simp
theorem zSw6 {box : Blk} {N : Nat} {m : List (List Bool)} {rest : List Blk} : blk (mat box N m rest) 0 = some box := rfl
theorem zFr8 {N : Nat} {s : Int} (h0 : 0 ≤ s) (h1 : s < N) : ix (List.range N) s = s.toNat := by
  unfold ix
  rw [List.getD_eq_getElem?_getD, List.getElem?_range (by omega)]; rfl
structure MOk (t : Nat) (v : AV) (M : Mch) : Prop where
  loc : noLoc v = true
  wk : Ab.wk v = v
  size : ∃ f, lookT [(zwN8, zFCU), (zZPs, zmNm)] t = some f ∧ PC f [v] = some (.int M.size)
  call : ∃ f, lookT [(zwN8, zfSc), (zZPs, zZvM)] t = some f ∧ ∀ s c, 0 ≤ s → s < (M.size : Int) → 0 ≤ c → c < M.calls → PC f [v, .int s, .int c] = some (.tup [.int (M.call s c).1, .int (M.call s c).2])
  inner : ∃ f, lookT [(zwN8, zhMi), (zZPs, zdOj)] t = some f ∧ ∀ s i, 0 ≤ s → s < (M.size : Int) → 0 ≤ i → i < M.inns → PC f [v, .int s, .int i] = some (.int (M.inner s i))
  pop : ∃ f, lookT [(zwN8, zNTN), (zZPs, zWl5), (z0z7, zC7Z)] t = some f ∧ ∀ s c u r, 0 ≤ s → s < (M.size : Int) → 0 ≤ c → c < M.calls → 0 ≤ u → u < (M.size : Int) → 0 ≤ r → r < M.rets → PC f [v, .int u, .int (M.call s c).2, .int r] = some (.int (M.pop u (M.call s c).2 r))
def Nst.mch (n : Nst) : Mch := ⟨n.accept.length, fun s c => (ix (ix n.call s) c, ix (ix n.push s) c), fun s i => ix (ix n.inner s) i, fun s g r => ix (ix (ix n.pop s) g) r, n.calls, n.inns, n.rets⟩
theorem ztQm {n : Nst} (h : n.Ok) : n.mch.Ok := by
  have := h.states; have := h.calls; have := h.inns; have := h.rets
  refine ⟨?_, ?_, ?_, ?_, fun s c s0 s1 c0 c1 => h.call s c s0 s1 c0 c1, fun s i s0 s1 c0 c1 => h.inner s i s0 s1 c0 c1, fun s c t r s0 s1 c0 c1 t0 t1 r0 r1 => ?_⟩ <;> simp only [Nst.mch] at * <;> try omega
  have q := h.push s c s0 s1 c0 c1
  exact h.pop t _ r t0 t1 q.1 q.2 r0 r1
theorem zUqK {n : Nst} (h : n.Ok) : MOk zwN8 n.av n.mch := by
  have hl := h.lens
  refine ⟨by simp, by simp, ⟨zFCU, rfl, z6bl n⟩, ⟨zfSc, rfl, fun s c s0 s1 c0 c1 => ?_⟩, ⟨zhMi, rfl, fun s c s0 s1 c0 c1 => ?_⟩, ⟨zNTN, rfl, fun s c u r s0 s1 c0 c1 u0 u1 r0 r1 => ?_⟩⟩
  · simp only [Nst.mch] at s1 c1
    have := h.row s s0 s1
    exact ztAv n s c s0 (by omega) (by omega) c0 (by omega) (by omega)
  · simp only [Nst.mch] at s1 c1
    have := h.row s s0 s1
    exact zhu3 n s c s0 (by omega) c0 (by omega)
  · simp only [Nst.mch] at s1 c1 u1 r1
    have q := h.push s c s0 s1 c0 c1
    have := h.row u u0 u1
    have q2 := h.popl u _ u0 u1 q.1 q.2
    exact zwvy n u _ r u0 (by omega) q.1 (by simp only [Nst.mch]; omega) r0 (by simp only [Nst.mch]; omega)
end Ab
namespace Ab
def Sq (N : Nat) (m : List (List Bool)) : Prop := m.length = N ∧ ∀ r ∈ m, r.length = N
theorem Sq.row {N : Nat} {m : List (List Bool)} (h : Sq N m) {s : Int} (h0 : 0 ≤ s) (h1 : s < N) : (ix m s).length = N := h.2 _ (zmAQ h0 (by rw [h.1]; exact h1))
def upd (m : List (List Bool)) (s u : Int) : List (List Bool) := m.set s.toNat ((ix m s).set u.toNat true)
theorem zvPC {α : Type} [Inhabited α] {l : List α} {i : Nat} {x : α} {j : Int} (hj : 0 ≤ j) (hi : i < l.length) : ix (l.set i x) j = if j = i then x else ix l j := by
  unfold ix
  rw [List.getD_eq_getElem?_getD, List.getD_eq_getElem?_getD, List.getElem?_set]
  by_cases h : i = j.toNat
  · rw [if_pos h, if_pos hi, if_pos (by omega)]; rfl
  · rw [if_neg h, if_neg (by omega)]
theorem zdcL {N : Nat} {m : List (List Bool)} (h : Sq N m) {s u : Int} (s0 : 0 ≤ s) (s1 : s < N) : Sq N (upd m s u) := by
  refine ⟨by rw [upd, List.length_set, h.1], fun r hr => ?_⟩
  rcases List.mem_or_eq_of_mem_set hr with hr | rfl
  · exact h.2 r hr
  · rw [List.length_set, h.row s0 s1]
theorem zU4S {N : Nat} {m : List (List Bool)} (h : Sq N m) {s u a b : Int} (s0 : 0 ≤ s) (s1 : s < N) (u0 : 0 ≤ u) (u1 : u < N) (a0 : 0 ≤ a) (b0 : 0 ≤ b) : ix (ix (upd m s u) a) b = if a = s ∧ b = u then true else ix (ix m a) b := by
  unfold upd
  rw [zvPC a0 (by rw [h.1]; omega)]
  by_cases e : a = s
  · subst e
    rw [if_pos (by omega), zris b0 (by rw [h.row a0 s1]; omega)]
    by_cases e2 : b = u
    · rw [if_pos (by omega), if_pos ⟨rfl, e2⟩]
    · rw [if_neg (by omega), if_neg (by simp [e2])]
  · rw [if_neg (by omega), if_neg (by simp [e])]
theorem zfpX {N : Nat} {m : List (List Bool)} (h : Sq N m) {s u a b : Int} (s0 : 0 ≤ s) (s1 : s < N) (u0 : 0 ≤ u) (u1 : u < N) : rel (upd m s u) a b ↔ rel m a b ∨ (a = s ∧ b = u) := by
  have h' := zdcL (u := u) h s0 s1
  unfold rel
  rw [h.1, h'.1]
  constructor
  · rintro ⟨a0, a1, b0, b1, hx⟩
    rw [zU4S h s0 s1 u0 u1 a0 b0] at hx
    by_cases e : a = s ∧ b = u
    · exact .inr e
    · rw [if_neg e] at hx; exact .inl ⟨a0, a1, b0, b1, hx⟩
  · rintro (⟨a0, a1, b0, b1, hx⟩ | ⟨rfl, rfl⟩)
    · refine ⟨a0, a1, b0, b1, ?_⟩
      rw [zU4S h s0 s1 u0 u1 a0 b0, hx]; simp
    · refine ⟨s0, s1, u0, u1, ?_⟩
      rw [zU4S h s0 s1 u0 u1 s0 u0]; simp
def cf (m : List (List Bool)) : Nat := (m.map fun r => r.count false).sum
theorem zMmn : ∀ {l : List Nat} {i : Nat} {x y : Nat}, l[i]? = some y → x + 1 = y → (l.set i x).sum + 1 = l.sum
  | [], i, x, y, h, _ => by simp at h
  | a :: l, 0, x, y, h, e => by simp at h; subst h; simp [List.set]; omega
  | a :: l, i + 1, x, y, h, e => by
    have := zMmn (l := l) (i := i) (x := x) (y := y) (by simpa using h) e
    simp only [List.set_cons_succ, List.sum_cons]; omega
theorem zjOK {N : Nat} {m : List (List Bool)} (h : Sq N m) {s u : Int} (s0 : 0 ≤ s) (s1 : s < N) (u0 : 0 ≤ u) (u1 : u < N) (hv : ix (ix m s) u = false) : cf (upd m s u) + 1 = cf m := by
  unfold cf upd
  rw [List.map_set]
  refine zMmn (y := (ix m s).count false) ?_ (z2Bn (by rw [h.row s0 s1]; omega) (by rw [show ((u.toNat : Nat) : Int) = u by omega]; exact hv))
  rw [List.getElem?_map, ix_eq s0 (by rw [h.1]; exact s1)]; rfl
theorem zfGa {N : Nat} {m : List (List Bool)} (h : Sq N m) {s u : Int} (s0 : 0 ≤ s) (s1 : s < N) (u0 : 0 ≤ u) (u1 : u < N) (hv : ix (ix m s) u = true) : upd m s u = m := by
  have e : (ix m s).set u.toNat true = ix m s := by
    apply List.ext_getElem (by simp)
    intro i h1 h2
    rw [List.getElem_set]
    split
    · rename_i hi
      subst hi
      rw [← zrZW h2, show ((u.toNat : Nat) : Int) = u by omega, hv]
    · rfl
  unfold upd
  rw [e]
  apply List.ext_getElem (by simp)
  intro i h1 h2
  rw [List.getElem_set]
  split
  · rename_i hi
    subst hi
    rw [← zrZW h2, show ((s.toNat : Nat) : Int) = s by omega]
  · rfl
def Wide (M : Mch) (R : List (List Bool)) (s u : Int) : Prop := ∃ c p r, (0 ≤ c ∧ c < M.calls) ∧ (0 ≤ r ∧ r < M.rets) ∧ rel R (M.call s c).1 p ∧ u = M.pop p (M.call s c).2 r
structure Grew (M : Mch) (R : List (List Bool)) (m m' : List (List Bool)) (ch : Bool) : Prop where
  sq : Sq M.size m'
  mono : ∀ s t, rel m s t → rel m' s t
  sound : ∀ s t, rel m' s t → rel m s t ∨ Wide M R s t
  no : ch = false → m' = m
  yes : ch = true → cf m' < cf m
  le : cf m' ≤ cf m
theorem Grew.more {M : Mch} {R m m' : List (List Bool)} {ch : Bool} (h : Grew M R m m' ch) {s u : Int} (s0 : 0 ≤ s) (s1 : s < (M.size : Int)) (u0 : 0 ≤ u) (u1 : u < (M.size : Int)) (hw : Wide M R s u) :
    Grew M R m (upd m' s u) (ch || !ix (ix m' s) u) ∧ rel (upd m' s u) s u ∧ ∀ a b, rel m' a b → rel (upd m' s u) a b := by
  have s1' := s1
  have u1' := u1
  have hr := fun a b => zfpX (a := a) (b := b) h.sq s0 s1' u0 u1'
  refine ⟨⟨zdcL h.sq s0 s1', fun a b hab => (hr a b).2 (.inl (h.mono a b hab)), fun a b hab => ?_, fun hc => ?_, fun hc => ?_, ?_⟩, (hr s u).2 (.inr ⟨rfl, rfl⟩), fun a b hab => (hr a b).2 (.inl hab)⟩
  · rcases (hr a b).1 hab with hab | ⟨rfl, rfl⟩
    · exact h.sound a b hab
    · exact .inr hw
  · simp at hc
    rw [zfGa h.sq s0 s1' u0 u1' hc.2]
    exact h.no hc.1
  · by_cases hv : ix (ix m' s) u = true
    · rw [zfGa h.sq s0 s1' u0 u1' hv]
      simp [hv] at hc
      exact h.yes hc
    · have := zjOK h.sq s0 s1' u0 u1' (by simpa using hv)
      have := h.le
      omega
  · by_cases hv : ix (ix m' s) u = true
    · rw [zfGa h.sq s0 s1' u0 u1' hv]; exact h.le
    · have := zjOK h.sq s0 s1' u0 u1' (by simpa using hv)
      have := h.le
      omega
def WPost (M : Mch) (box : Blk) (m R : List (List Bool)) (rest : List Blk) (v : AV) (τ : List Blk) : Prop := ∃ ch m', v = .bool ch ∧ τ = mat box M.size m' rest ∧ Grew M R m m' ch ∧ ∀ s u, 0 ≤ s → s < (M.size : Int) → Wide M R s u → rel m' s u
end Ab
namespace Ab
theorem zSvQ (M : Mch) (hM : M.Ok) (t : Nat) (v : AV) (hv : MOk t v M) (n : Nst) (hc : n.calls = M.calls) (hr : n.rets = M.rets) (box : Blk) (m R : List (List Bool)) (rest : List Blk) (br : Nat)
    (hm : Sq M.size m) (hR : Sq M.size R) (hb : ∀ m', m'.length = m.length → blk (mat box M.size m' rest) br = some ⟨none, R.map bL, .live⟩) :
    LX L z7G9 [.iface t v, n.av, .sl 1 M.size 0 M.size, .sl br M.size 0 M.size] (mat box M.size m rest) (WPost M box m R rest) := by
  obtain ⟨fc, tc, pc⟩ := hv.call
  obtain ⟨fp, tp, pp⟩ := hv.pop
  have hsz := hM.size
  have hMc := hM.calls
  have hMr := hM.rets
  have hloc := hv.loc
  have hwk := hv.wk
  refine z5KG rfl ?_
  simp
  refine zv8C (fun p : Int × List (List Bool) × Bool => [(4, .int p.1), (19, .bool p.2.2)]) (fun p => mat box M.size p.2.1 rest)
    (fun p => (0 ≤ p.1 ∧ p.1 ≤ M.size) ∧ Grew M R m p.2.1 p.2.2 ∧ ∀ s, 0 ≤ s → s < p.1 → ∀ u, Wide M R s u → rel p.2.1 s u)
    (fun p => (M.size - p.1).toNat) (0, m, false) (by simp [sets]) ⟨by simp, ⟨hm, fun _ _ h => h, fun _ _ h => .inl h, fun _ => rfl, by simp, Nat.le_refl _⟩, zguy⟩ ?_
  rintro ⟨i, m1, ch⟩ ⟨⟨i0, i1⟩, h1, h2⟩
  dsimp only at i0 i1 h1 h2 ⊢
  by_cases hi : i < (M.size : Int)
  · simp [-zJRc, hi, hc]
    refine zv8C (fun p : Int × List (List Bool) × Bool => [(7, .int p.1), (19, .bool p.2.2)]) (fun p => mat box M.size p.2.1 rest)
      (fun p => (0 ≤ p.1 ∧ p.1 ≤ M.calls) ∧ Grew M R m p.2.1 p.2.2 ∧ (∀ s, 0 ≤ s → s < i → ∀ u, Wide M R s u → rel p.2.1 s u) ∧ ∀ c, 0 ≤ c → c < p.1 → ∀ q r, 0 ≤ r → r < M.rets → rel R (M.call i c).1 q → rel p.2.1 i (M.pop q (M.call i c).2 r))
      (fun p => (M.calls - p.1).toNat) (0, m1, ch) (by simp [sets]) ⟨by simp; omega, h1, h2, zguy⟩ ?_
    rintro ⟨c, m2, ch2⟩ ⟨⟨c0, c1⟩, g1, g2, g3⟩
    dsimp only at c0 c1 g1 g2 g3 ⊢
    by_cases hcc : c < M.calls
    · have hq := hM.call i c i0 hi c0 hcc
      have e1 := pc i c i0 hi c0 hcc
      have hRr := hR.row hq.1 hq.2
      have hb2 := hb m2 (by rw [g1.sq.1, hm.1])
      have hRl := hR.1
      simp [-zJRc, hcc, tc, hloc, hwk, e1, hq.1, hq.2, hb2, show (M.call i c).1.toNat < R.length by omega]
      refine ⟨hRl, ?_⟩
      refine zv8C (fun p : Int × List (List Bool) × Bool => [(12, .int p.1), (19, .bool p.2.2)]) (fun p => mat box M.size p.2.1 rest)
        (fun p => (0 ≤ p.1 ∧ p.1 ≤ (M.size : Int)) ∧ Grew M R m p.2.1 p.2.2 ∧ (∀ a b, rel m2 a b → rel p.2.1 a b) ∧ ∀ q, 0 ≤ q → q < p.1 → ∀ r, 0 ≤ r → r < M.rets → rel R (M.call i c).1 q → rel p.2.1 i (M.pop q (M.call i c).2 r))
        (fun p => (M.size - p.1).toNat) (0, m2, ch2) (by simp [sets]) ⟨by simp, g1, fun _ _ h => h, zguy⟩ ?_
      rintro ⟨q, m3, ch3⟩ ⟨⟨q0, q1⟩, k1, k2, k3⟩
      dsimp only at q0 q1 k1 k2 k3 ⊢
      by_cases hqq : q < (M.size : Int)
      · have hqr : q < ((ix R (M.call i c).1).length : Int) := by omega
        simp [-zJRc, hqr, q0]
        refine zv8C (fun p : Int × List (List Bool) × Bool => [(15, .int p.1), (19, .bool p.2.2)]) (fun p => mat box M.size p.2.1 rest)
          (fun p => (0 ≤ p.1 ∧ p.1 ≤ M.rets) ∧ Grew M R m p.2.1 p.2.2 ∧ (∀ a b, rel m3 a b → rel p.2.1 a b) ∧ ∀ r, 0 ≤ r → r < p.1 → rel R (M.call i c).1 q → rel p.2.1 i (M.pop q (M.call i c).2 r))
          (fun p => (M.rets - p.1).toNat) (0, m3, ch3) (by simp [sets]) ⟨by simp; omega, k1, fun _ _ h => h, zguy⟩ ?_
        rintro ⟨r, m4, ch4⟩ ⟨⟨r0, r1⟩, l1, l2, l3⟩
        dsimp only at r0 r1 l1 l2 l3 ⊢
        by_cases hgo : r < M.rets ∧ ix (ix R (M.call i c).1) q = true
        · obtain ⟨hrr, hok⟩ := hgo
          have hrel : rel R (M.call i c).1 q := ⟨hq.1, by rw [hR.1]; exact hq.2, q0, by rw [hR.1]; exact hqq, hok⟩
          have hu := hM.pop i c q r i0 hi c0 hcc q0 hqq r0 hrr
          have e2 := pp i c q r i0 hi c0 hcc q0 hqq r0 hrr
          have hw : Wide M R i (M.pop q (M.call i c).2 r) := ⟨c, q, r, ⟨c0, hcc⟩, ⟨r0, hrr⟩, hrel, rfl⟩
          obtain ⟨n1, n2, n3⟩ := l1.more i0 hi hu.1 hu.2 hw
          have hl4 := l1.sq.1
          have hrow4 := l1.sq.row i0 hi
          have b1 := z922 (box := box) (rest := rest) hl4
          have b2 := zd9S (box := box) (N := M.size) (rest := rest) (m := m4) i0 (by omega)
          have b3 := zFr8 (N := M.size) i0 hi
          have b4 := fun r => zUeD (box := box) (N := M.size) (rest := rest) (m := m4) (r := r) i0 (by omega)
          have fin : ∀ ch5 : Bool, ch5 = (ch4 || !ix (ix m4 i) (M.pop q (M.call i c).2 r)) → (0 ≤ r + 1 ∧ r + 1 ≤ M.rets) ∧ Grew M R m (upd m4 i (M.pop q (M.call i c).2 r)) ch5 ∧ (∀ a b, rel m3 a b → rel (upd m4 i (M.pop q (M.call i c).2 r)) a b) ∧ ∀ r', 0 ≤ r' → r' < r + 1 → rel R (M.call i c).1 q → rel (upd m4 i (M.pop q (M.call i c).2 r)) i (M.pop q (M.call i c).2 r') := by
            rintro ch5 rfl
            exact ⟨by omega, n1, fun a b h => n3 a b (l2 a b h), zvtS (fun _ => n2) fun r' a b h => n3 _ _ (l3 r' a b h)⟩
          have hrow4i : (M.pop q (M.call i c).2 r) < ((ix m4 i).length : Int) := by omega
          cases ch4 with
          | true =>
            simp [-zJRc, -List.map_set, hr, hrr, hok, tp, hloc, hwk, e2, i0, hi, hu.1, hu.2, b1, b2, b3, b4, hrow4, show (M.pop q (M.call i c).2 r).toNat < M.size by omega]
            (repeat' apply And.intro) <;> try omega
            exact zGkM (r + 1, upd m4 i (M.pop q (M.call i c).2 r), true) (by simp) (by simp [upd]) (fin true (by simp)) (by dsimp only; omega)
          | false =>
            cases hx : ix (ix m4 i) (M.pop q (M.call i c).2 r) with
            | true =>
              simp [-zJRc, -List.map_set, hr, hrr, hok, tp, hloc, hwk, e2, i0, hi, hu.1, hu.2, b1, b2, b3, b4, hrow4, hx, show (M.pop q (M.call i c).2 r).toNat < M.size by omega]
              (repeat' apply And.intro) <;> try omega
              exact zGkM (r + 1, upd m4 i (M.pop q (M.call i c).2 r), false) (by simp) (by simp [upd]) (fin false (by simp [hx])) (by dsimp only; omega)
            | false =>
              simp [-zJRc, -List.map_set, hr, hrr, hok, tp, hloc, hwk, e2, i0, hi, hu.1, hu.2, b1, b2, b3, b4, hrow4, hx, show (M.pop q (M.call i c).2 r).toNat < M.size by omega]
              (repeat' apply And.intro) <;> try omega
              exact zGkM (r + 1, upd m4 i (M.pop q (M.call i c).2 r), true) (by simp) (by simp [upd]) (fin true (by simp [hx])) (by dsimp only; omega)
        · have out : (0 ≤ q + 1 ∧ q + 1 ≤ (M.size : Int)) ∧ Grew M R m m4 ch4 ∧ (∀ a b, rel m2 a b → rel m4 a b) ∧ ∀ q', 0 ≤ q' → q' < q + 1 → ∀ r', 0 ≤ r' → r' < M.rets → rel R (M.call i c).1 q' → rel m4 i (M.pop q' (M.call i c).2 r') := by
            refine ⟨by omega, l1, fun a b h => l2 a b (k2 a b h), zvtS ?_ fun q' a b r' r0' r1' h => l2 _ _ (k3 q' a b r' r0' r1' h)⟩
            intro r' r0' r1' hrel
            refine l3 r' r0' ?_ hrel
            have : ¬ r < M.rets := fun hh => hgo ⟨hh, hrel.2.2.2.2⟩
            omega
          by_cases hrr : r < M.rets
          · have hok : ix (ix R (M.call i c).1) q = false := by
              cases hx : ix (ix R (M.call i c).1) q with
              | false => rfl
              | true => exact absurd ⟨hrr, hx⟩ hgo
            simp [-zJRc, hr, hrr, hok]
            (repeat' apply And.intro) <;> try omega
            exact zGkM (q + 1, m4, ch4) (by simp) rfl out (by dsimp only; omega)
          · simp [-zJRc, hr, hrr]
            (repeat' apply And.intro) <;> try omega
            exact zGkM (q + 1, m4, ch4) (by simp) rfl out (by dsimp only; omega)
      · simp [-zJRc, show ¬ q < ((ix R (M.call i c).1).length : Int) by omega]
        (repeat' apply And.intro) <;> try omega
        refine zGkM (c + 1, m3, ch3) (by simp) rfl ⟨⟨by dsimp only; omega, by dsimp only; omega⟩, k1, fun s s0 s1 u hu => k2 _ _ (g2 s s0 s1 u hu), ?_⟩ (by dsimp only; omega)
        exact zvtS (fun q r r0 r1 hrel => k3 q hrel.2.2.1 (by have := hrel.2.2.2.1; omega) r r0 r1 hrel) fun c' c0' c1' q r r0 r1 hrel => k2 _ _ (g3 c' c0' c1' q r r0 r1 hrel)
    · simp [-zJRc, hcc]
      refine ⟨by omega, ?_⟩
      refine zGkM (i + 1, m2, ch2) (by simp) rfl ⟨⟨by dsimp only; omega, by dsimp only; omega⟩, g1, ?_⟩ (by dsimp only; omega)
      refine zvtS ?_ g2
      rintro u ⟨c', p, r, hc', hr', hp, rfl⟩
      exact g3 c' hc'.1 (by omega) p r hr'.1 hr'.2 hp
  · simp [hi]
    exact ⟨ch, m1, rfl, rfl, h1, fun s u s0 s1 hw => h2 s s0 (by omega) u hw⟩
end Ab
namespace Ab
theorem zwej {box : Blk} {N : Nat} {m : List (List Bool)} {rest : List Blk} : (mat box N m rest).length = 2 + m.length + rest.length := by simp [mat]; omega
theorem z3bP {box : Blk} {N : Nat} {m : List (List Bool)} {rest : List Blk} {B : Blk} : mat box N m rest ++ [B] = mat box N m (rest ++ [B]) := by simp [mat]
theorem z1lZ {α : Type} {f g : α → AV} {v : AV → Option AV} : ∀ {xs : List α}, (∀ x ∈ xs, v (f x) = some (g x)) → mapO v (xs.map f) = some (xs.map g)
  | [], _ => rfl
  | x :: xs, h => by
    have e := z1lZ (f := f) (g := g) (v := v) (xs := xs) fun y hy => h y (by simp [hy])
    simp only [List.map_cons, mapO, h x (by simp), e]
theorem zNcL {α : Type} {f g : α → AV} {σ : List Blk} {fr : Bool} {b k n : Nat} {xs : List α} {st : BSt} (h : blk σ b = some ⟨none, xs.map f, st⟩) (hs : st.isArr = true) (hn : n = xs.length) (hf : ∀ x ∈ xs, view σ fr k (f x) = some (g x)) :
    view σ fr (k + 1) (.sl b n 0 n) = some (.imm false (xs.map g)) := by
  subst hn
  have hu : upto σ b xs.length = some ⟨none, xs.map f, st⟩ := by
    unfold upto
    rw [h]
    cases st <;> simp at hs ⊢
  unfold view
  simp only [hu, kst, List.length_map, List.drop_zero, Nat.zero_add, Nat.mul_one, Nat.le_refl, if_true]
  rw [z9LC (by simp), z1lZ hf]
theorem zcyZ {m : List (List Bool)} : (List.range m.length).map (fun i => bL (ix m (i : Nat))) = m.map bL := by
  apply List.ext_getElem (by simp)
  intro i h1 h2
  simp at h1
  simp only [List.getElem_map, List.getElem_range, zrZW h1]
theorem zaLK {box : Blk} {N : Nat} {m : List (List Bool)} {rest : List Blk} {fr : Bool} (h : Sq N m) : view (mat box N m rest) fr vd (.sl 1 N 0 N) = some (.imm false (m.map bL)) := by
  obtain ⟨h1, h2⟩ := h
  subst h1
  rw [← zcyZ]
  refine zNcL (k := 11) (f := fun i => AV.sl (2 + i) m.length 0 m.length) (g := fun i => bL (ix m (i : Nat))) (xs := List.range m.length) (st := .live) (z922 rfl) (by simp) (by simp) fun i hi => ?_
  simp at hi
  have e := zd9S (box := box) (N := m.length) (rest := rest) (m := m) (s := (i : Int)) (by omega) (by omega)
  rw [Int.toNat_natCast] at e
  exact zIRd (k := 10) (f := AV.bool) e (by simp) (h2 _ (zmAQ (by omega) (by omega))).symm fun _ => rfl
theorem z7rO {box : Blk} {N : Nat} {m : List (List Bool)} {r : List Bool} (h : m.length < N) : setB (mat box N m [rowB r]) 1 ⟨none, (refs m.length N ++ List.replicate (N - m.length) AV.snil).set m.length (.sl (2 + m.length) N 0 N), .live⟩ = mat box N (m ++ [r]) [] := by
  rw [z4Wl]
  unfold mat
  simp only [List.set_cons_succ, List.set_cons_zero, List.map_append, List.map_cons, List.map_nil, List.append_nil, List.length_append, List.length_cons, List.length_nil, Nat.zero_add]
  congr 2
  rw [List.set_append, if_neg (by simp), show N - m.length = (N - (m.length + 1)) + 1 by omega, List.replicate_succ]
  rw [show refs (m.length + 1) N = refs m.length N ++ [AV.sl (2 + m.length) N 0 N] by simp only [refs, List.range_succ, List.map_append, List.map_cons, List.map_nil], List.append_assoc]
  simp
theorem zv5K {box : Blk} {N : Nat} {m : List (List Bool)} {r : List Bool} (h : m.length < N) : setB (mat box N m [rowB r]) 1 ⟨none, refs m.length N ++ (List.replicate (N - m.length) AV.snil).set 0 (.sl (2 + m.length) N 0 N), .live⟩ = mat box N (m ++ [r]) [] := by
  have := z7rO (box := box) (r := r) h
  rwa [List.set_append, if_neg (by simp), show m.length - (refs m.length N).length = 0 by simp] at this
theorem zsev {N k j : Nat} {s : Int} {K : AV → Prop} {t : Tk K} (h0 : 0 ≤ s) (h1 : s < k) : pT (refs k N ++ List.replicate j AV.snil) (0 + s.toNat * 1) none K t = K (.sl (2 + s.toNat) N 0 N) := by
  unfold pT part
  rw [show 0 + s.toNat * 1 = s.toNat by omega, znyW, List.getElem?_append_left (by simp; omega), List.getElem?_map, List.getElem?_range (by omega)]
  rfl
theorem zQOC {cs : List AV} {o : Nat} {x : AV} {K : List AV → Prop} {t : Tk K} : pU cs o [x] K t = (o < cs.length ∧ K (cs.set o x)) := by
  have e := zgTl (f := id) (xs := cs) (o := o) (y := x) (K := K) (t := t)
  simpa using e
theorem zAeq {box : Blk} {N : Nat} {m : List (List Bool)} {gar : List Blk} {B : Blk} : blk (mat box N m (gar ++ [B])) (2 + m.length + gar.length) = some B := by
  rw [zzWB, mat, show 2 + m.length + gar.length = (m.length + gar.length) + 1 + 1 by omega, List.getElem?_cons_succ, List.getElem?_cons_succ, ← List.append_assoc, List.getElem?_append_right (by simp)]
  simp
theorem zZaU {box : Blk} {N : Nat} {m : List (List Bool)} {gar : List Blk} {B B' : Blk} : setB (mat box N m (gar ++ [B])) (2 + m.length + gar.length) B' = mat box N m (gar ++ [B']) := by
  rw [z4Wl, mat, mat, show 2 + m.length + gar.length = (m.length + gar.length) + 1 + 1 by omega, List.set_cons_succ, List.set_cons_succ, ← List.append_assoc, ← List.append_assoc, List.set_append, if_neg (by simp)]
  simp
theorem zckU {R : List (List Bool)} {N : Nat} {r : List Bool} (h : R.length < N) : (R.map bL ++ List.replicate (N - R.length) AV.snil).set R.length (bL r) = (R ++ [r]).map bL ++ List.replicate (N - (R.length + 1)) AV.snil := by
  rw [List.set_append, if_neg (by simp), show N - R.length = (N - (R.length + 1)) + 1 by omega, List.replicate_succ]
  simp
theorem z3pC {R : List (List Bool)} {N : Nat} {r : List Bool} (h : R.length < N) : R.map bL ++ (List.replicate (N - R.length) AV.snil).set 0 (bL r) = (R ++ [r]).map bL ++ List.replicate (N - (R.length + (0 + 1))) AV.snil := by
  rw [← zckU h, List.set_append, if_neg (by simp)]; simp
theorem zpjr (M : Mch) (hM : M.Ok) (t : Nat) (v : AV) (hv : MOk t v M) (n : Nst) (hc : n.calls = M.calls) (hi : n.inns = M.inns) (hr : n.rets = M.rets) :
    LX L zWyS [.iface t v, n.av] [] (fun v τ => ∃ R : List (List Bool), viewT τ false v = some (.imm false (R.map bL)) ∧ Sq M.size R ∧ ∀ s u, 0 ≤ s → s < (M.size : Int) → 0 ≤ u → u < (M.size : Int) → (ix (ix R s) u = true ↔ Conn M s u)) := by
  obtain ⟨fz, tz, pz⟩ := hv.size
  obtain ⟨fi, ti, pi⟩ := hv.inner
  have hsz := hM.size
  have hMi := hM.inns
  have hloc := hv.loc
  have hwk := hv.wk
  refine zOoS rfl ?_
  simp [-List.map_replicate, tz, hloc, hwk, pz]
  refine ⟨by omega, ?_⟩
  refine zv8C (fun p : Int × List (List Bool) => [(3, .int p.1)]) (fun p => mat ⟨some 10, [.int n.calls, .int n.inns, .int n.rets, .int n.stack, .int n.start, bL n.accept, iLL n.call, iLL n.push, iLL n.inner, iLLL n.pop], .live⟩ M.size p.2 [])
    (fun p => (0 ≤ p.1 ∧ p.1 ≤ (M.size : Int)) ∧ (p.2.length : Int) = p.1 ∧ (∀ r ∈ p.2, r.length = M.size) ∧ ∀ s u, 0 ≤ s → s < p.1 → 0 ≤ u → u < (M.size : Int) → (ix (ix p.2 s) u = true ↔ ∃ i, 0 ≤ i ∧ i < M.inns ∧ u = M.inner s i))
    (fun p => (M.size - p.1).toNat) (0, []) (by simp [sets, mat]) ⟨by simp, by simp, by simp, fun s u s0 s1 => by simp at s1; omega⟩ ?_
  rintro ⟨s, m⟩ ⟨⟨s0, s1⟩, h1, h2, h3⟩
  dsimp only at s0 s1 h1 h2 h3 ⊢
  by_cases hs : s < (M.size : Int)
  · have hst : s.toNat = m.length := by omega
    have hlt : m.length < M.size := by omega
    have b1 := zv5K (box := ⟨some 10, [.int n.calls, .int n.inns, .int n.rets, .int n.stack, .int n.start, bL n.accept, iLL n.call, iLL n.push, iLL n.inner, iLLL n.pop], .live⟩) (N := M.size) (m := m) (r := List.replicate M.size false) hlt
    have b0 : ∀ m' rest, blk (mat ⟨some 10, [.int n.calls, .int n.inns, .int n.rets, .int n.stack, .int n.start, bL n.accept, iLL n.call, iLL n.push, iLL n.inner, iLLL n.pop], .live⟩ M.size m' rest) 0 = some ⟨some 10, [.int n.calls, .int n.inns, .int n.rets, .int n.stack, .int n.start, bL n.accept, iLL n.call, iLL n.push, iLL n.inner, iLLL n.pop], .live⟩ := fun m' rest => zSw6
    simp [-zJRc, -List.map_replicate, -List.map_set, -List.map_append, hs, s0, tz, hloc, hwk, pz, z3bP, zwej, zK1G, -zD0v, ↓zQOC, hst, b1, b0]
    (repeat' apply And.intro) <;> try omega
    refine zv8C (fun p : Int × List Bool => [(7, .int p.1)]) (fun p => mat ⟨some 10, [.int n.calls, .int n.inns, .int n.rets, .int n.stack, .int n.start, bL n.accept, iLL n.call, iLL n.push, iLL n.inner, iLLL n.pop], .live⟩ M.size (m ++ [p.2]) [])
      (fun p => (0 ≤ p.1 ∧ p.1 ≤ M.inns) ∧ p.2.length = M.size ∧ ∀ u, 0 ≤ u → u < (M.size : Int) → (ix p.2 u = true ↔ ∃ i, 0 ≤ i ∧ i < p.1 ∧ u = M.inner s i))
      (fun p => (M.inns - p.1).toNat) (0, List.replicate M.size false) (by simp [sets]) ⟨by simp; omega, by simp, fun u u0 u1 => by rw [z2Ia u0 (by omega)]; simp; intros; omega⟩ ?_
    rintro ⟨i, row⟩ ⟨⟨i0, i1⟩, g1, g2⟩
    dsimp only at i0 i1 g1 g2 ⊢
    by_cases hii : i < M.inns
    · have hu := hM.inner s i s0 hs i0 hii
      have e1 := pi s i s0 hs i0 hii
      have p1 := fun (K : AV → Prop) (t : Tk K) => zsev (N := M.size) (k := m.length + 1) (j := M.size - (m.length + 1)) (s := s) (K := K) (t := t) s0 (by omega)
      have b2 := zd9S (box := ⟨some 10, [.int n.calls, .int n.inns, .int n.rets, .int n.stack, .int n.start, bL n.accept, iLL n.call, iLL n.push, iLL n.inner, iLLL n.pop], .live⟩) (N := M.size) (rest := []) (m := m ++ [row]) s0 (by simp; omega)
      have b4 := fun r => zUeD (box := ⟨some 10, [.int n.calls, .int n.inns, .int n.rets, .int n.stack, .int n.start, bL n.accept, iLL n.call, iLL n.push, iLL n.inner, iLLL n.pop], .live⟩) (N := M.size) (rest := []) (m := m ++ [row]) (r := r) s0 (by simp; omega)
      have hix : ix (m ++ [row]) s = row := by
        unfold ix
        rw [hst, List.getD_eq_getElem?_getD, List.getElem?_append_right (Nat.le_refl _)]; simp
      have hset : ∀ r, (m ++ [row]).set s.toNat r = m ++ [r] := fun r => by rw [hst, List.set_append, if_neg (by omega)]; simp
      rw [hix] at b2
      simp [-zJRc, -List.map_replicate, -List.map_set, -List.map_append, show i < n.inns by omega, ti, hloc, hwk, e1, b0, b2, b4, zK1G, -zPTU, ↓p1, s0, hs, hu.1, hu.2, hset, g1]
      (repeat' apply And.intro) <;> try omega
      refine zGkM (i + 1, row.set (M.inner s i).toNat true) (by simp) rfl ⟨⟨by dsimp only; omega, by dsimp only; omega⟩, by simp [g1], fun u u0 u1 => ?_⟩ (by dsimp only; omega)
      dsimp only
      rw [zris u0 (by omega)]
      by_cases e : u = (M.inner s i).toNat
      · rw [if_pos e]
        simp only [true_iff]
        exact ⟨i, i0, by omega, by omega⟩
      · rw [if_neg e, g2 u u0 u1]
        constructor
        · rintro ⟨j, j0, j1, rfl⟩; exact ⟨j, j0, by omega, rfl⟩
        · rintro ⟨j, j0, j1, rfl⟩
          refine ⟨j, j0, ?_, rfl⟩
          by_cases ej : j = i
          · subst ej; omega
          · omega
    · simp [-zJRc, show ¬ i < n.inns by omega]
      refine ⟨by omega, ?_⟩
      refine zGkM (s + 1, m ++ [row]) (by simp) rfl ⟨⟨by dsimp only; omega, by dsimp only; omega⟩, by dsimp only; simp; omega, ?_, ?_⟩ (by dsimp only; omega)
      · intro r hr
        rcases List.mem_append.1 hr with hr | hr
        · exact h2 r hr
        · simp at hr; subst hr; exact g1
      · dsimp only
        intro s' u s0' s1' u0 u1
        by_cases e : s' = s
        · subst e
          have hix : ix (m ++ [row]) s' = row := by
            unfold ix
            rw [hst, List.getD_eq_getElem?_getD, List.getElem?_append_right (Nat.le_refl _)]; simp
          rw [hix, g2 u u0 u1, show i = M.inns by omega]
        · rw [zktv s0' (by omega)]
          exact h3 s' u s0' (by omega) u0 u1
  · have hl : m.length = M.size := by omega
    have hsq : Sq M.size m := ⟨hl, h2⟩
    have hsm : s = (M.size : Int) := by omega
    simp [-zJRc, hs]
    have hin : ∀ s u, rel m s u → ∃ i, 0 ≤ i ∧ i < M.inns ∧ u = M.inner s i := fun s' u hr => (h3 s' u hr.1 (by have := hr.2.1; omega) hr.2.2.1 (by have := hr.2.2.2.1; omega)).1 hr.2.2.2.2
    refine zv8C (fun p : List (List Bool) × List Blk × AV × AV × AV => [(3, p.2.2.1), (4, p.2.2.2.1), (10, p.2.2.2.2)]) (fun p => mat ⟨some 10, [.int n.calls, .int n.inns, .int n.rets, .int n.stack, .int n.start, bL n.accept, iLL n.call, iLL n.push, iLL n.inner, iLLL n.pop], .live⟩ M.size p.1 p.2.1)
      (fun p => Sq M.size p.1 ∧ (∀ a b, rel m a b → rel p.1 a b) ∧ ∀ a b, 0 ≤ a → a < (M.size : Int) → rel p.1 a b → Conn M a b)
      (fun p => cf p.1) (m, [], .int s, .int M.size, .und) (by simp [sets]) ⟨hsq, fun _ _ h => h, fun a b a0 a1 hr => ?_⟩ ?_
    · obtain ⟨i, i0, i1, rfl⟩ := hin a b hr
      exact .inn a i _ i0 i1 (.refl _)
    rintro ⟨m1, gar, x3, x4, x10⟩ ⟨k1, k2, k3⟩
    dsimp only at k1 k2 k3 ⊢
    simp [-zJRc, -List.map_replicate, tz, hloc, hwk, pz, z3bP, zwej, k1.1]
    refine ⟨by omega, ?_⟩
    have conn1 : ∀ a b, 0 ≤ a → a < (M.size : Int) → Star (rel m1) a b → Conn M a b ∧ (0 ≤ b ∧ b < (M.size : Int)) := by
      intro a b a0 a1 h
      induction h with
      | refl => exact ⟨.refl a, a0, a1⟩
      | tail t u _ h2 ih =>
        have := k3 t u ih.2.1 ih.2.2 h2
        exact ⟨ih.1.trans this, this.range hM ih.2⟩
    refine zv8C (fun p : Int × List (List Bool) => [(11, .int p.1)]) (fun p => mat ⟨some 10, [.int n.calls, .int n.inns, .int n.rets, .int n.stack, .int n.start, bL n.accept, iLL n.call, iLL n.push, iLL n.inner, iLLL n.pop], .live⟩ M.size m1 (gar ++ [⟨none, p.2.map bL ++ List.replicate (M.size - p.2.length) .snil, .live⟩]))
      (fun p => (0 ≤ p.1 ∧ p.1 ≤ (M.size : Int)) ∧ (p.2.length : Int) = p.1 ∧ (∀ r ∈ p.2, r.length = M.size) ∧ ∀ s u, 0 ≤ s → s < p.1 → 0 ≤ u → u < (M.size : Int) → (ix (ix p.2 s) u = true ↔ Star (rel m1) s u))
      (fun p => (M.size - p.1).toNat) (0, []) (by simp [sets]) ⟨by simp, by simp, by simp, fun s u s0 s1 => by simp at s1; omega⟩ ?_
    rintro ⟨i, R⟩ ⟨⟨i0, i1⟩, g1, g2, g3⟩
    dsimp only at i0 i1 g1 g2 g3 ⊢
    have hbl : ∀ m' B, m'.length = M.size → blk (mat ⟨some 10, [.int n.calls, .int n.inns, .int n.rets, .int n.stack, .int n.start, bL n.accept, iLL n.call, iLL n.push, iLL n.inner, iLLL n.pop], .live⟩ M.size m' (gar ++ [B])) (2 + M.size + gar.length) = some B := fun m' B h => by
      rw [← h]; exact zAeq
    by_cases hii : i < (M.size : Int)
    · obtain ⟨vv, σ', e1, row, e2, e3, e4⟩ := LX_s (zdHh m1 i (by rw [k1.1]; omega) (by rw [k1.1]; exact k1.2) ⟨i0, by rw [k1.1]; exact hii⟩)
      have hvm := zaLK (fr := false) (box := ⟨some 10, [.int n.calls, .int n.inns, .int n.rets, .int n.stack, .int n.start, bL n.accept, iLL n.call, iLL n.push, iLL n.inner, iLLL n.pop], .live⟩) (rest := gar ++ [⟨none, R.map bL ++ List.replicate (M.size - R.length) .snil, .live⟩]) k1
      have hst : i.toNat = R.length := by omega
      have hlt : R.length < M.size := by omega
      have hfn := z3pC (r := row) hlt
      have hsb := fun B => zZaU (box := ⟨some 10, [.int n.calls, .int n.inns, .int n.rets, .int n.stack, .int n.start, bL n.accept, iLL n.call, iLL n.push, iLL n.inner, iLLL n.pop], .live⟩) (N := M.size) (m := m1) (gar := gar) (B := ⟨none, R.map bL ++ List.replicate (M.size - R.length) .snil, .live⟩) (B' := B)
      rw [k1.1] at hsb
      simp [-zJRc, -List.map_replicate, -List.map_set, -List.map_append, hii, i0, hvm, e1, e2, hbl, k1.1, -zD0v, ↓zQOC, hst, hsb]
      (repeat' apply And.intro) <;> try omega
      refine zGkM (i + 1, R ++ [row]) (by simp) (by simp only [hfn, List.length_append, List.length_cons, List.length_nil]) ⟨⟨by dsimp only; omega, by dsimp only; omega⟩, by dsimp only; simp; omega, ?_, ?_⟩ (by dsimp only; omega)
      · intro r hr
        rcases List.mem_append.1 hr with hr | hr
        · exact g2 r hr
        · simp at hr; subst hr; rw [e3, k1.1]
      · dsimp only
        intro s' u s0' s1' u0 u1
        by_cases e : s' = i
        · subst e
          have hix : ix (R ++ [row]) s' = row := by
            unfold ix
            rw [hst, List.getD_eq_getElem?_getD, List.getElem?_append_right (Nat.le_refl _)]; simp
          rw [hix, e4 u u0 (by rw [k1.1]; exact u1)]
        · rw [zktv s0' (by omega)]
          exact g3 s' u s0' (by omega) u0 u1
    · have hRl : R.length = M.size := by omega
      have hRs : Sq M.size R := ⟨hRl, g2⟩
      have hRr : ∀ a b, rel R a b ↔ (0 ≤ a ∧ a < (M.size : Int)) ∧ Star (rel m1) a b := fun a b => by
        constructor
        · rintro ⟨a0, a1, b0, b1, hx⟩
          exact ⟨⟨a0, by omega⟩, (g3 a b a0 (by omega) b0 (by omega)).1 hx⟩
        · rintro ⟨⟨a0, a1⟩, hx⟩
          have := (conn1 a b a0 a1 hx).2
          exact ⟨a0, by omega, this.1, by omega, (g3 a b a0 (by omega) this.1 this.2).2 hx⟩
      have hcell : R.map bL ++ List.replicate (M.size - R.length) AV.snil = R.map bL := by rw [hRl]; simp
      rw [hcell]
      obtain ⟨vv, τ, e1, ch, m', rfl, rfl, hg, hw⟩ := LX_s (zSvQ M hM t v hv n hc hr ⟨some 10, [.int n.calls, .int n.inns, .int n.rets, .int n.stack, .int n.start, bL n.accept, iLL n.call, iLL n.push, iLL n.inner, iLLL n.pop], .live⟩ m1 R (gar ++ [⟨none, R.map bL, .live⟩]) (2 + M.size + gar.length) k1 hRs fun m' h => hbl m' _ (by rw [h, k1.1]))
      have b0 : ∀ m' rest, blk (mat ⟨some 10, [.int n.calls, .int n.inns, .int n.rets, .int n.stack, .int n.start, bL n.accept, iLL n.call, iLL n.push, iLL n.inner, iLLL n.pop], .live⟩ M.size m' rest) 0 = some ⟨some 10, [.int n.calls, .int n.inns, .int n.rets, .int n.stack, .int n.start, bL n.accept, iLL n.call, iLL n.push, iLL n.inner, iLLL n.pop], .live⟩ := fun m' rest => zSw6
      simp [-zJRc, hii, b0, e1]
      refine ⟨fun hch => ?_, fun hch => ?_⟩
      · subst hch
        refine zGkM (m', gar ++ [⟨none, R.map bL, .live⟩], _, _, _) rfl rfl ⟨hg.sq, fun a b h => hg.mono _ _ (k2 a b h), fun a b a0 a1 h => ?_⟩ (hg.yes rfl)
        rcases hg.sound a b h with h | ⟨c, p, r, hc', hr', hp, rfl⟩
        · exact k3 a b a0 a1 h
        · have q := hM.call a c a0 a1 hc'.1 hc'.2
          exact .call a c p r _ hc'.1 hc'.2 hr'.1 hr'.2 (conn1 _ _ q.1 q.2 ((hRr _ _).1 hp).2).1 (.refl _)
      · subst hch
        have hm' := hg.no rfl
        subst hm'
        have hvw : view (mat ⟨some 10, [.int n.calls, .int n.inns, .int n.rets, .int n.stack, .int n.start, bL n.accept, iLL n.call, iLL n.push, iLL n.inner, iLLL n.pop], .live⟩ M.size m' (gar ++ [⟨none, R.map bL, .live⟩])) false vd (.sl (2 + M.size + gar.length) M.size 0 M.size) = some (.imm false (R.map bL)) := zIRd (k := 11) (f := bL) (g := bL) (xs := R) (st := .live) (hbl m' _ k1.1) (by simp) hRl.symm fun _ => rfl
        refine ⟨R, hvw, hRs, fun s u s0 s1 u0 u1 => ?_⟩
        rw [g3 s u s0 (by omega) u0 u1]
        refine zC4t hM k3 (fun s i s0 s1 i0 i1 => ?_) (fun s c p r s0 s1 c0 c1 r0 r1 hst => ?_) ⟨s0, s1⟩
        · have q := hM.inner s i s0 s1 i0 i1
          exact k2 _ _ ⟨s0, by omega, q.1, by omega, (h3 s _ s0 (by omega) q.1 q.2).2 ⟨i, i0, i1, rfl⟩⟩
        · have q := hM.call s c s0 s1 c0 c1
          exact hw s _ s0 s1 ⟨c, p, r, ⟨c0, c1⟩, ⟨r0, r1⟩, (hRr _ _).2 ⟨q, hst⟩, rfl⟩
end Ab
namespace Ab
structure Gw (M : Mch) (m m' : List (List Bool)) (ch : Bool) : Prop where
  sq : Sq M.size m'
  mono : ∀ s t, rel m s t → rel m' s t
  sound : ∀ s t, rel m' s t → Conn M s t
  no : ch = false → m' = m
  yes : ch = true → cf m' < cf m
noncomputable def conT (M : Mch) : List (List Bool) := by
  classical
  exact (List.range M.size).map fun s => (List.range M.size).map fun t => decide (Conn M (s : Nat) (t : Nat))
theorem z90g {M : Mch} : Sq M.size (conT M) := by
  constructor
  · simp [conT]
  · intro r hr
    simp only [conT, List.mem_map] at hr
    obtain ⟨s, _, rfl⟩ := hr
    simp
theorem z4iI {M : Mch} {s t : Int} (s0 : 0 ≤ s) (s1 : s < (M.size : Int)) (t0 : 0 ≤ t) (t1 : t < (M.size : Int)) : ix (ix (conT M) s) t = true ↔ Conn M s t := by
  have e1 : ix (conT M) s = (List.range M.size).map fun u => by classical exact decide (Conn M (s.toNat : Nat) (u : Nat)) := by
    unfold ix conT
    rw [List.getD_eq_getElem?_getD, List.getElem?_map, List.getElem?_range (by omega)]
    rfl
  rw [e1]
  unfold ix
  rw [List.getD_eq_getElem?_getD, List.getElem?_map, List.getElem?_range (by omega)]
  simp [show ((s.toNat : Nat) : Int) = s by omega, show ((t.toNat : Nat) : Int) = t by omega]
theorem zSql {α : Type} [Inhabited α] {l m : List α} (h : l.length = m.length) (h2 : ∀ i : Int, 0 ≤ i → i < l.length → ix l i = ix m i) : l = m := by
  apply List.ext_getElem h
  intro i h3 h4
  have := h2 i (by omega) (by omega)
  rwa [zrZW h3, zrZW h4] at this
theorem zc1c {N : Nat} {m m' : List (List Bool)} (h : Sq N m) (h' : Sq N m') (e : ∀ s t, 0 ≤ s → s < (N : Int) → 0 ≤ t → t < (N : Int) → (ix (ix m s) t = true ↔ ix (ix m' s) t = true)) : m = m' := by
  refine zSql (by rw [h.1, h'.1]) fun i i0 i1 => ?_
  have l1 := h.1
  have := h.row i0 (by omega)
  have := h'.row i0 (by omega)
  refine zSql (by omega) fun j j0 j1 => ?_
  rw [Bool.eq_iff_iff]
  exact e i j i0 (by omega) j0 (by omega)
theorem zpsH {M : Mch} {R : List (List Bool)} (h : Sq M.size R) (h2 : ∀ s u, 0 ≤ s → s < (M.size : Int) → 0 ≤ u → u < (M.size : Int) → (ix (ix R s) u = true ↔ Conn M s u)) : R = conT M :=
  zc1c h z90g fun s t s0 s1 t0 t1 => by rw [h2 s t s0 s1 t0 t1, z4iI s0 s1 t0 t1]
theorem zInf (M : Mch) (hM : M.Ok) (t : Nat) (v : AV) (hv : MOk t v M) (n : Nst) (hc : n.calls = M.calls) (hi : n.inns = M.inns) (hr : n.rets = M.rets) : PC zWyS [.iface t v, n.av] = some (.imm false ((conT M).map bL)) := by
  refine zx72 ?_
  obtain ⟨v', σ', h1, R, h2, h3, h4⟩ := LX_s (zpjr M hM t v hv n hc hi hr)
  refine LX_of h1 ?_
  rw [h2, zpsH h3 h4]
  simp
end Ab
