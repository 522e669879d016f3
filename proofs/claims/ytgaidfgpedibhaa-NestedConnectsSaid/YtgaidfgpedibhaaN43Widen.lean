/- The steps that consist of a call, a word and a return. Condition: none. -/
import Derived.Test.YtgaidfgpedibhaaN43Mat
set_option linter.all false
set_option maxRecDepth 100000
set_option maxHeartbeats 4000000
namespace Ab
/-- A square table. -/
def Sq (N : Nat) (m : List (List Bool)) : Prop := m.length = N ∧ ∀ r ∈ m, r.length = N
theorem Sq.row {N : Nat} {m : List (List Bool)} (h : Sq N m) {s : Int} (h0 : 0 ≤ s) (h1 : s < N) : (ix m s).length = N := h.2 _ (ix_mem h0 (by rw [h.1]; exact h1))
def upd (m : List (List Bool)) (s u : Int) : List (List Bool) := m.set s.toNat ((ix m s).set u.toNat true)
theorem ixl_set {α : Type} [Inhabited α] {l : List α} {i : Nat} {x : α} {j : Int} (hj : 0 ≤ j) (hi : i < l.length) : ix (l.set i x) j = if j = i then x else ix l j := by
  unfold ix
  rw [List.getD_eq_getElem?_getD, List.getD_eq_getElem?_getD, List.getElem?_set]
  by_cases h : i = j.toNat
  · rw [if_pos h, if_pos hi, if_pos (by omega)]; rfl
  · rw [if_neg h, if_neg (by omega)]
theorem upd_sq {N : Nat} {m : List (List Bool)} (h : Sq N m) {s u : Int} (s0 : 0 ≤ s) (s1 : s < N) : Sq N (upd m s u) := by
  refine ⟨by rw [upd, List.length_set, h.1], fun r hr => ?_⟩
  rcases List.mem_or_eq_of_mem_set hr with hr | rfl
  · exact h.2 r hr
  · rw [List.length_set, h.row s0 s1]
theorem upd_ix {N : Nat} {m : List (List Bool)} (h : Sq N m) {s u a b : Int} (s0 : 0 ≤ s) (s1 : s < N) (u0 : 0 ≤ u) (u1 : u < N) (a0 : 0 ≤ a) (b0 : 0 ≤ b) : ix (ix (upd m s u) a) b = if a = s ∧ b = u then true else ix (ix m a) b := by
  unfold upd
  rw [ixl_set a0 (by rw [h.1]; omega)]
  by_cases e : a = s
  · subst e
    rw [if_pos (by omega), ix_set b0 (by rw [h.row a0 s1]; omega)]
    by_cases e2 : b = u
    · rw [if_pos (by omega), if_pos ⟨rfl, e2⟩]
    · rw [if_neg (by omega), if_neg (by simp [e2])]
  · rw [if_neg (by omega), if_neg (by simp [e])]
theorem upd_rel {N : Nat} {m : List (List Bool)} (h : Sq N m) {s u a b : Int} (s0 : 0 ≤ s) (s1 : s < N) (u0 : 0 ≤ u) (u1 : u < N) : rel (upd m s u) a b ↔ rel m a b ∨ (a = s ∧ b = u) := by
  have h' := upd_sq (u := u) h s0 s1
  unfold rel
  rw [h.1, h'.1]
  constructor
  · rintro ⟨a0, a1, b0, b1, hx⟩
    rw [upd_ix h s0 s1 u0 u1 a0 b0] at hx
    by_cases e : a = s ∧ b = u
    · exact .inr e
    · rw [if_neg e] at hx; exact .inl ⟨a0, a1, b0, b1, hx⟩
  · rintro (⟨a0, a1, b0, b1, hx⟩ | ⟨rfl, rfl⟩)
    · refine ⟨a0, a1, b0, b1, ?_⟩
      rw [upd_ix h s0 s1 u0 u1 a0 b0, hx]; simp
    · refine ⟨s0, s1, u0, u1, ?_⟩
      rw [upd_ix h s0 s1 u0 u1 s0 u0]; simp
/-- How many are false. -/
def cf (m : List (List Bool)) : Nat := (m.map fun r => r.count false).sum
theorem sum_set : ∀ {l : List Nat} {i : Nat} {x y : Nat}, l[i]? = some y → x + 1 = y → (l.set i x).sum + 1 = l.sum
  | [], i, x, y, h, _ => by simp at h
  | a :: l, 0, x, y, h, e => by simp at h; subst h; simp [List.set]; omega
  | a :: l, i + 1, x, y, h, e => by
    have := sum_set (l := l) (i := i) (x := x) (y := y) (by simpa using h) e
    simp only [List.set_cons_succ, List.sum_cons]; omega
theorem cf_upd {N : Nat} {m : List (List Bool)} (h : Sq N m) {s u : Int} (s0 : 0 ≤ s) (s1 : s < N) (u0 : 0 ≤ u) (u1 : u < N) (hv : ix (ix m s) u = false) : cf (upd m s u) + 1 = cf m := by
  unfold cf upd
  rw [List.map_set]
  refine sum_set (y := (ix m s).count false) ?_ (count_set_false (by rw [h.row s0 s1]; omega) (by rw [show ((u.toNat : Nat) : Int) = u by omega]; exact hv))
  rw [List.getElem?_map, ix_eq s0 (by rw [h.1]; exact s1)]; rfl
theorem upd_same {N : Nat} {m : List (List Bool)} (h : Sq N m) {s u : Int} (s0 : 0 ≤ s) (s1 : s < N) (u0 : 0 ≤ u) (u1 : u < N) (hv : ix (ix m s) u = true) : upd m s u = m := by
  have e : (ix m s).set u.toNat true = ix m s := by
    apply List.ext_getElem (by simp)
    intro i h1 h2
    rw [List.getElem_set]
    split
    · rename_i hi
      subst hi
      rw [← ix_nat h2, show ((u.toNat : Nat) : Int) = u by omega, hv]
    · rfl
  unfold upd
  rw [e]
  apply List.ext_getElem (by simp)
  intro i h1 h2
  rw [List.getElem_set]
  split
  · rename_i hi
    subst hi
    rw [← ix_nat h2, show ((s.toNat : Nat) : Int) = s by omega]
  · rfl
/-- A call, a word that the table R knows, a return. -/
def Wide (M : Mch) (R : List (List Bool)) (s u : Int) : Prop := ∃ c p r, (0 ≤ c ∧ c < M.calls) ∧ (0 ≤ r ∧ r < M.rets) ∧ rel R (M.call s c).1 p ∧ u = M.pop p (M.call s c).2 r
/-- On the way: the table m has grown to m'. -/
structure Grew (M : Mch) (R : List (List Bool)) (m m' : List (List Bool)) (ch : Bool) : Prop where
  sq : Sq M.size m'
  mono : ∀ s t, rel m s t → rel m' s t
  sound : ∀ s t, rel m' s t → rel m s t ∨ Wide M R s t
  no : ch = false → m' = m
  yes : ch = true → cf m' < cf m
  le : cf m' ≤ cf m
theorem Grew.more {M : Mch} {R m m' : List (List Bool)} {ch : Bool} (h : Grew M R m m' ch) {s u : Int} (s0 : 0 ≤ s) (s1 : s < (M.size : Int)) (u0 : 0 ≤ u) (u1 : u < (M.size : Int)) (hw : Wide M R s u) :
    Grew M R m (upd m' s u) (ch || !ix (ix m' s) u) ∧ rel (upd m' s u) s u ∧ ∀ a b, rel m' a b → rel (upd m' s u) a b := by
  have s1' := s1
  have u1' := u1
  have hr := fun a b => upd_rel (a := a) (b := b) h.sq s0 s1' u0 u1'
  refine ⟨⟨upd_sq h.sq s0 s1', fun a b hab => (hr a b).2 (.inl (h.mono a b hab)), fun a b hab => ?_, fun hc => ?_, fun hc => ?_, ?_⟩, (hr s u).2 (.inr ⟨rfl, rfl⟩), fun a b hab => (hr a b).2 (.inl hab)⟩
  · rcases (hr a b).1 hab with hab | ⟨rfl, rfl⟩
    · exact h.sound a b hab
    · exact .inr hw
  · simp at hc
    rw [upd_same h.sq s0 s1' u0 u1' hc.2]
    exact h.no hc.1
  · by_cases hv : ix (ix m' s) u = true
    · rw [upd_same h.sq s0 s1' u0 u1' hv]
      simp [hv] at hc
      exact h.yes hc
    · have := cf_upd h.sq s0 s1' u0 u1' (by simpa using hv)
      have := h.le
      omega
  · by_cases hv : ix (ix m' s) u = true
    · rw [upd_same h.sq s0 s1' u0 u1' hv]; exact h.le
    · have := cf_upd h.sq s0 s1' u0 u1' (by simpa using hv)
      have := h.le
      omega
/-- What widen leaves. -/
def WPost (M : Mch) (box : Blk) (m R : List (List Bool)) (rest : List Blk) (v : AV) (τ : List Blk) : Prop := ∃ ch m', v = .bool ch ∧ τ = mat box M.size m' rest ∧ Grew M R m m' ch ∧ ∀ s u, 0 ≤ s → s < (M.size : Int) → Wide M R s u → rel m' s u
end Ab
