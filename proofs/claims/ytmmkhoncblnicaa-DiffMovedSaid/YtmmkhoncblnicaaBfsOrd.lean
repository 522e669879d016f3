/- The order of the reachable states: each after those with smaller words; all are there. Condition: none. -/
import Derived.Test.YtmmkhoncblnicaaCovP
set_option linter.all false
set_option maxRecDepth 100000
set_option maxHeartbeats 4000000
namespace Ab
theorem lexC_app : ∀ {u v a b : List Int}, u.length = v.length → lexC (u ++ a) (v ++ b) = if lexC u v = 0 then lexC a b else lexC u v
  | [], [], a, b, _ => by simp [lexC]
  | x :: u, y :: v, a, b, h => by
    have e := lexC_app (u := u) (v := v) (a := a) (b := b) (by simpa using h)
    simp only [List.cons_append, lexC, e]
    split
    · simp
    · split
      · simp
      · rfl
theorem slx_app {u v : List Int} {a b : Int} (h : slxC u v < 0) : slxC (u ++ [a]) (v ++ [b]) < 0 := by
  unfold slxC at h ⊢
  simp only [List.length_append, List.length_cons, List.length_nil]
  by_cases h1 : u.length < v.length
  · rw [if_pos (by omega)]; omega
  · rw [if_neg h1] at h
    by_cases h2 : v.length < u.length
    · rw [if_pos h2] at h; omega
    · rw [if_neg h2] at h
      rw [if_neg (by omega), if_neg (by omega), lexC_app (by omega), if_neg (by omega)]
      exact h
theorem slx_same {u : List Int} {a b : Int} (h : a < b) : slxC (u ++ [a]) (u ++ [b]) < 0 := by
  unfold slxC
  rw [if_neg (by simp), if_neg (by simp), lexC_app rfl, lexC_refl, if_pos rfl]
  simp only [lexC, if_pos h]; omega
theorem slx_nil {w : List Int} (h : w ≠ []) : slxC [] w < 0 := by
  unfold slxC
  rw [if_pos (by simpa using List.length_pos_iff.2 h)]; omega
theorem slx_leapp {u v : List Int} {a : Int} (h : slxC u v ≤ 0) : slxC (u ++ [a]) (v ++ [a]) ≤ 0 := by
  by_cases e : slxC u v = 0
  · have := slxC_ok.eq u v e
    rw [this]
    have := slxC_ok.refl (v ++ [a]); omega
  · have := slx_app (a := a) (b := a) (show slxC u v < 0 by omega); omega
theorem slx_lt_le {u v w : List Int} (h : slxC u v < 0) (k : slxC v w ≤ 0) : slxC u w < 0 := by
  have h1 := slxC_ok.trans u v w (by omega) k
  by_cases e : slxC u w = 0
  · have e' := slxC_ok.eq u w e
    subst e'
    have := slxC_ok.anti u v
    omega
  · omega
/-- The queue when input a of place i is next. -/
structure Bi (m : Mly) (s i a : Int) (q : List Pl) : Prop where
  bq : Bq m s q
  par : ∀ k, 0 < k → k < (q.length : Int) → ∃ j b, 0 ≤ j ∧ (j < i ∨ j = i ∧ b < a) ∧ j < k ∧ (0 ≤ b ∧ b < m.inputs) ∧ ix q k = (ix (ix m.next (ix q j).1) b, (ix q j).2 ++ [b])
  asc : ∀ j k, 0 ≤ j → j < k → k < (q.length : Int) → slxC (ix q j).2 (ix q k).2 < 0
  done : ∀ j b, 0 ≤ j → j < (q.length : Int) → (j < i ∨ j = i ∧ b < a) → 0 ≤ b → b < m.inputs → ∃ k, 0 ≤ k ∧ k < (q.length : Int) ∧ (ix q k).1 = ix (ix m.next (ix q j).1) b ∧ slxC (ix q k).2 ((ix q j).2 ++ [b]) ≤ 0
theorem Bi.lt_new {m : Mly} {s i a : Int} {q : List Pl} (h : Bi m s i a q) (i1 : i < q.length) : ∀ k, 0 ≤ k → k < (q.length : Int) → slxC (ix q k).2 ((ix q i).2 ++ [a]) < 0 := by
  intro k k0 k1
  by_cases e : k = 0
  · subst e
    rw [h.bq.head]
    exact slx_nil (by simp)
  · obtain ⟨j, b, j0, j1, j2, b0, e⟩ := h.par k (by omega) k1
    rw [e]
    rcases j1 with j1 | ⟨rfl, j1⟩
    · exact slx_app (h.asc j i j0 j1 i1)
    · exact slx_same j1
theorem Bi.step {m : Mly} (hm : m.Ok) {s i a : Int} {q : List Pl} (h : Bi m s i a q) (i0 : 0 ≤ i) (i1 : i < q.length) (a0 : 0 ≤ a) (a1 : a < m.inputs) : Bi m s i (a + 1) (bstep m (ix q i) q a) := by
  have hr := h.bq.rng _ (ix_mem i0 i1)
  have hl := h.bq.len i i0 i1
  have hlt := h.lt_new i1
  have hbq := h.bq.step hm hr (by omega) a0 a1
  cases hh : hasS q (ix (ix m.next (ix q i).1) a) with
  | true =>
    rw [bstep_has hh] at hbq ⊢
    refine ⟨hbq, fun k k0 k1 => ?_, h.asc, fun j b j0 j1 jb b0 b1 => ?_⟩
    · obtain ⟨j, b, j0, j1, j2, b0, e⟩ := h.par k k0 k1
      exact ⟨j, b, j0, by omega, j2, b0, e⟩
    · by_cases e : j = i ∧ b = a
      · obtain ⟨rfl, rfl⟩ := e
        rw [hasS_iff] at hh
        obtain ⟨p, hp, e⟩ := List.mem_map.1 hh
        obtain ⟨k, hk, rfl⟩ := List.mem_iff_getElem.1 hp
        rw [← ix_nat hk] at e
        exact ⟨(k : Int), by omega, by omega, e, by have := hlt (k : Int) (by omega) (by omega); omega⟩
      · exact h.done j b j0 j1 (by omega) b0 b1
  | false =>
    rw [bstep_new hh] at hbq ⊢
    have hlen : ((q ++ [(ix (ix m.next (ix q i).1) a, (ix q i).2 ++ [a])]).length : Int) = q.length + 1 := by simp
    refine ⟨hbq, fun k k0 k1 => ?_, fun j k j0 jk k1 => ?_, fun j b j0 j1 jb b0 b1 => ?_⟩
    · rw [hlen] at k1
      by_cases e : k < (q.length : Int)
      · obtain ⟨j, b, j0, j1, j2, b0, e'⟩ := h.par k k0 e
        exact ⟨j, b, j0, by omega, j2, b0, by rw [ixa_app (by omega) e, ixa_app j0 (by omega)]; exact e'⟩
      · have : k = (q.length : Int) := by omega
        subst this
        exact ⟨i, a, i0, by omega, i1, ⟨a0, a1⟩, by rw [ixa_last, ixa_app i0 i1]⟩
    · rw [hlen] at k1
      by_cases e : k < (q.length : Int)
      · rw [ixa_app (by omega) e, ixa_app j0 (by omega)]
        exact h.asc j k j0 jk e
      · have : k = (q.length : Int) := by omega
        subst this
        rw [ixa_last, ixa_app j0 jk]
        exact hlt j j0 jk
    · rw [hlen] at j1 ⊢
      have j1' : j < (q.length : Int) := by omega
      rw [ixa_app j0 j1']
      by_cases e : j = i ∧ b = a
      · obtain ⟨rfl, rfl⟩ := e
        exact ⟨q.length, by omega, by omega, by rw [ixa_last], by rw [ixa_last]; exact Int.le_of_eq (slxC_ok.refl _)⟩
      · obtain ⟨k, k0, k1, e1, e2⟩ := h.done j b j0 j1' (by omega) b0 b1
        exact ⟨k, k0, by omega, by rw [ixa_app k0 k1]; exact e1, by rw [ixa_app k0 k1]; exact e2⟩
theorem places_bi (m : Mly) (hm : m.Ok) (s : Int) (hs : 0 ≤ s ∧ s < (m.next.length : Int)) : ∃ i, ((m.places s).length : Int) ≤ i ∧ Bi m s i 0 (m.places s) := by
  have hin := hm.inputs
  have row : ∀ (q : List Pl) (i : Int) (k : Nat), 0 ≤ i → i < (q.length : Int) → (k : Int) ≤ m.inputs → Bi m s i 0 q → Bi m s i k (brow m (ix q i) q k) ∧ (∀ j, 0 ≤ j → j < (q.length : Int) → ix (brow m (ix q i) q k) j = ix q j) ∧ q.length ≤ (brow m (ix q i) q k).length := by
    intro q i k i0 i1
    induction k with
    | zero => intro _ h; exact ⟨h, fun _ _ _ => rfl, Nat.le_refl _⟩
    | succ k ih =>
      intro hk h
      obtain ⟨h1, h2, h3⟩ := ih (by omega) h
      rw [show ((k + 1 : Nat) : Int) = (k : Int) + 1 by omega, brow_succ (by omega)]
      have e := h2 i i0 i1
      have st := h1.step hm i0 (by omega) (by omega) (by omega)
      rw [e] at st
      obtain ⟨l, el⟩ := bstep_pre (m := m) (p := ix q i) (q := brow m (ix q i) q k) (a := k)
      refine ⟨st, fun j j0 j1 => ?_, by rw [el]; simp; omega⟩
      rw [el, ixa_app j0 (by omega)]
      exact h2 j j0 j1
  have go : ∀ (f : Nat) (i : Int) (q : List Pl), 0 ≤ i → (m.next.length : Int) + 1 ≤ f + i → Bi m s i 0 q → ∃ i', ((bfs m f i q).length : Int) ≤ i' ∧ Bi m s i' 0 (bfs m f i q) := by
    intro f
    induction f with
    | zero => intro i q _ hf h; exact ⟨i, by have := h.bq.le; show (q.length : Int) ≤ i; omega, h⟩
    | succ f ih =>
      intro i q i0 hf h
      by_cases hi : i < q.length
      · rw [bfs_go hi]
        have := (row q i m.inputs.toNat i0 hi (by omega) h).1
        rw [show ((m.inputs.toNat : Nat) : Int) = m.inputs by omega] at this
        refine ih _ _ (by omega) (by omega) ⟨this.bq, fun k k0 k1 => ?_, this.asc, fun j b j0 j1 jb b0 b1 => this.done j b j0 j1 (by omega) b0 b1⟩
        obtain ⟨j, b, j0, j1, r⟩ := this.par k k0 k1
        exact ⟨j, b, j0, by omega, r⟩
      · rw [bfs_end hi]; exact ⟨i, by omega, h⟩
  refine go _ 0 _ (by omega) (by omega) ⟨Bq.init hs, fun k k0 k1 => ?_, fun j k j0 jk k1 => ?_, fun j b j0 j1 jb => ?_⟩
  · simp at k1; omega
  · simp at k1; omega
  · omega
/-- The state after a word. -/
def Mly.run (m : Mly) : Int → List Int → Int
  | s, [] => s
  | s, a :: w => m.run (ix (ix m.next s) a) w
theorem run_app {m : Mly} : ∀ {u v : List Int} {s : Int}, m.run s (u ++ v) = m.run (m.run s u) v
  | [], _, _ => rfl
  | a :: u, v, s => run_app (u := u)
/-- The words of the places. -/
structure Bf (m : Mly) (s : Int) (q : List Pl) : Prop where
  bq : Bq m s q
  run : ∀ k, 0 ≤ k → k < (q.length : Int) → m.run s (ix q k).2 = (ix q k).1 ∧ ∀ x ∈ (ix q k).2, 0 ≤ x ∧ x < m.inputs
  par : ∀ k, 0 < k → k < (q.length : Int) → ∃ j b, 0 ≤ j ∧ j < k ∧ (0 ≤ b ∧ b < m.inputs) ∧ ix q k = (ix (ix m.next (ix q j).1) b, (ix q j).2 ++ [b])
  pre : ∀ k n, 0 ≤ k → k < (q.length : Int) → n ≤ (ix q k).2.length → ∃ j, 0 ≤ j ∧ j ≤ k ∧ (n < (ix q k).2.length → j < k) ∧ (ix q j).2 = (ix q k).2.take n
  asc : ∀ j k, 0 ≤ j → j < k → k < (q.length : Int) → slxC (ix q j).2 (ix q k).2 < 0
  all : ∀ w, (∀ x ∈ w, 0 ≤ x ∧ x < m.inputs) → ∃ k, 0 ≤ k ∧ k < (q.length : Int) ∧ (ix q k).1 = m.run s w ∧ slxC (ix q k).2 w ≤ 0
theorem places_bf (m : Mly) (hm : m.Ok) (s : Int) (hs : 0 ≤ s ∧ s < (m.next.length : Int)) : Bf m s (m.places s) := by
  obtain ⟨i, hi, h⟩ := places_bi m hm s hs
  have par : ∀ k, 0 < k → k < ((m.places s).length : Int) → ∃ j b, 0 ≤ j ∧ j < k ∧ (0 ≤ b ∧ b < m.inputs) ∧ ix (m.places s) k = (ix (ix m.next (ix (m.places s) j).1) b, (ix (m.places s) j).2 ++ [b]) := fun k k0 k1 => by
    obtain ⟨j, b, j0, _, j2, b0, e⟩ := h.par k k0 k1
    exact ⟨j, b, j0, j2, b0, e⟩
  refine ⟨h.bq, ?_, par, ?_, h.asc, ?_⟩
  · have : ∀ n : Nat, ∀ k : Int, k < n → 0 ≤ k → k < ((m.places s).length : Int) → m.run s (ix (m.places s) k).2 = (ix (m.places s) k).1 ∧ ∀ x ∈ (ix (m.places s) k).2, 0 ≤ x ∧ x < m.inputs := by
      intro n
      induction n with
      | zero => intro k; omega
      | succ n ih =>
        intro k kn k0 k1
        by_cases e : k = 0
        · subst e; rw [h.bq.head]; exact ⟨rfl, by simp⟩
        · obtain ⟨j, b, j0, j2, b0, e⟩ := par k (by omega) k1
          obtain ⟨r1, r2⟩ := ih j (by omega) j0 (by omega)
          rw [e]
          refine ⟨by rw [run_app, r1]; rfl, fun x hx => ?_⟩
          rcases List.mem_append.1 hx with hx | hx
          · exact r2 x hx
          · simp at hx; subst hx; exact b0
    exact fun k k0 k1 => this (k.toNat + 1) k (by omega) k0 k1
  · have : ∀ n : Nat, ∀ (k : Int) (l : Nat), k < n → 0 ≤ k → k < ((m.places s).length : Int) → l ≤ (ix (m.places s) k).2.length → ∃ j, 0 ≤ j ∧ j ≤ k ∧ (l < (ix (m.places s) k).2.length → j < k) ∧ (ix (m.places s) j).2 = (ix (m.places s) k).2.take l := by
      intro n
      induction n with
      | zero => intro k; omega
      | succ n ih =>
        intro k l kn k0 k1 hl
        by_cases hle : l = (ix (m.places s) k).2.length
        · exact ⟨k, k0, by omega, by omega, by rw [hle, List.take_length]⟩
        · by_cases e : k = 0
          · subst e; rw [h.bq.head] at hl hle; simp at hl hle; omega
          · obtain ⟨j, b, j0, j2, b0, e⟩ := par k (by omega) k1
            rw [e] at hl hle
            simp at hl hle
            obtain ⟨j', a0, a1, _, a2⟩ := ih j l (by omega) j0 (by omega) (by omega)
            exact ⟨j', a0, by omega, fun _ => by omega, by rw [a2, e]; simp only; rw [List.take_append_of_le_length (by omega)]⟩
    exact fun k l k0 k1 hl => this (k.toNat + 1) k l (by omega) k0 k1 hl
  · intro w
    have : ∀ n : Nat, ∀ w : List Int, w.length = n → (∀ x ∈ w, 0 ≤ x ∧ x < m.inputs) → ∃ k, 0 ≤ k ∧ k < ((m.places s).length : Int) ∧ (ix (m.places s) k).1 = m.run s w ∧ slxC (ix (m.places s) k).2 w ≤ 0 := by
      intro n
      induction n with
      | zero =>
        intro w hw _
        have : w = [] := List.eq_nil_of_length_eq_zero hw
        subst this
        exact ⟨0, by omega, by have := h.bq.pos; omega, by rw [h.bq.head]; rfl, by rw [h.bq.head]; exact Int.le_of_eq (slxC_ok.refl _)⟩
      | succ n ih =>
        intro w hw hx
        have hne : w ≠ [] := by intro e; subst e; simp at hw
        have e : w = w.dropLast ++ [w.getLast hne] := (List.dropLast_concat_getLast hne).symm
        generalize w.dropLast = u at e
        generalize w.getLast hne = a at e
        subst e
        obtain ⟨j, j0, j1, e1, e2⟩ := ih u (by simpa using hw) fun x h => hx x (by simp [h])
        have ha := hx a (by simp)
        obtain ⟨k, k0, k1, e3, e4⟩ := h.done j a j0 j1 (by omega) ha.1 ha.2
        exact ⟨k, k0, k1, by rw [e3, run_app, e1]; rfl, slxC_ok.trans _ _ _ e4 (slx_leapp e2)⟩
    exact this w.length w rfl
theorem mul_nat {P : Nat} {c : Int} (h0 : 0 ≤ c) : (P : Int) * c = ((P * c.toNat : Nat) : Int) := by
  rw [Int.natCast_mul, show ((c.toNat : Nat) : Int) = c by omega]
theorem mul_small {P : Nat} {c : Int} (h0 : 0 ≤ c) (h1 : c ≤ 64) (h2 : P ≤ 128) : P * c.toNat ≤ 8192 := by have := Nat.mul_le_mul h2 (show c.toNat ≤ 64 by omega); omega
end Ab
