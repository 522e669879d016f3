/- Paths of a Mealy machine, by the program and by the document. Condition: none. -/
import Derived.Test.YtbpkebkldaifgaaRAccess
import Derived.Test.YtbpkebkldaifgaaPlaces
set_option linter.all false
set_option maxRecDepth 100000
set_option maxHeartbeats 4000000
namespace Ab
theorem find_hit {α : Type} [Inhabited α] {p : α → Bool} {xs : List α} {i : Int} (h0 : 0 ≤ i) (h1 : i < xs.length) (h : p (ix xs i) = true) (h2 : ∀ j, 0 ≤ j → j < i → p (ix xs j) = false) : xs.find? p = some (ix xs i) := by
  rw [List.find?_eq_some_iff_getElem]
  refine ⟨h, i.toNat, by omega, ?_, fun j hj => ?_⟩
  · rw [← ix_nat (by omega), show ((i.toNat : Nat) : Int) = i by omega]
  · have := h2 j (by omega) (by omega)
    rw [ix_nat (by omega)] at this
    simp [this]
theorem find_no {α : Type} [Inhabited α] {p : α → Bool} {xs : List α} (h2 : ∀ j, 0 ≤ j → j < (xs.length : Int) → p (ix xs j) = false) : xs.find? p = none := by
  rw [List.find?_eq_none]
  intro x hx
  obtain ⟨i, hi, rfl⟩ := List.mem_iff_getElem.1 hx
  rw [← ix_nat hi]; simp [h2 i (by omega) (by omega)]
/-- What stands in the queue for good. -/
theorem places_ok (m : Mly) (hm : m.Ok) (s : Int) (hs : 0 ≤ s ∧ s < (m.next.length : Int)) : Bq m s (m.places s) := by
  have row : ∀ (q : List Pl) (p : Pl) (k : Nat), (k : Int) ≤ m.inputs → 0 ≤ p.1 ∧ p.1 < (m.next.length : Int) → p.2.length < q.length → Bq m s q → Bq m s (brow m p q k) ∧ q.length ≤ (brow m p q k).length := by
    intro q p k
    induction k with
    | zero => intro _ _ _ h; exact ⟨h, Nat.le_refl _⟩
    | succ k ih =>
      intro hk hp hl h
      obtain ⟨h1, h2⟩ := ih (by omega) hp hl h
      rw [show ((k + 1 : Nat) : Int) = (k : Int) + 1 by omega, brow_succ (by omega)]
      refine ⟨h1.step hm hp (by omega) (by omega) (by omega), ?_⟩
      obtain ⟨l, e⟩ := bstep_pre (m := m) (p := p) (q := brow m p q k) (a := k)
      rw [e]; simp; omega
  have go : ∀ (f : Nat) (i : Int) (q : List Pl), 0 ≤ i → Bq m s q → Bq m s (bfs m f i q) := by
    intro f
    induction f with
    | zero => intro i q _ h; exact h
    | succ f ih =>
      intro i q i0 h
      by_cases hi : i < q.length
      · rw [bfs_go hi]
        have hl := h.len i i0 hi
        have hin := hm.inputs
        have := (row q (ix q i) m.inputs.toNat (by omega) (h.rng _ (ix_mem i0 hi)) (by omega) h).1
        rw [show ((m.inputs.toNat : Nat) : Int) = m.inputs by omega] at this
        exact ih _ _ (by omega) this
      · rw [bfs_end hi]; exact h
  exact go _ _ _ (by omega) (Bq.init hs)
/-- The word from a state to another. -/
def Mly.way (m : Mly) (s t : Int) : List Int × Bool × Int := match (m.places s).find? fun p => p.1 == t with
  | some p => (p.2, true, 0)
  | none => ([], false, 0)
def Mly.path (m : Mly) (s t : Int) : List Int × Bool × Int :=
  if m.validE ≠ 0 then ([], false, m.validE)
  else if s < 0 ∨ (m.next.length : Int) ≤ s ∨ t < 0 ∨ (m.next.length : Int) ≤ t then ([], false, 2)
  else m.way s t
abbrev pathA (p : List Int × Bool × Int) : AV := .tup [iL p.1, .bool p.2.1, .int p.2.2]
theorem path_far {m : Mly} {s t : Int} (hv : m.validE = 0) (h : ¬ (0 ≤ s ∧ s < (m.next.length : Int) ∧ 0 ≤ t ∧ t < (m.next.length : Int))) : m.path s t = ([], false, 2) := by
  unfold Mly.path; rw [if_neg (by simpa using hv), if_pos (by omega)]
theorem path_in {m : Mly} {s t : Int} (hv : m.validE = 0) (h : 0 ≤ s ∧ s < (m.next.length : Int) ∧ 0 ≤ t ∧ t < (m.next.length : Int)) : m.path s t = m.way s t := by
  unfold Mly.path; rw [if_neg (by simpa using hv), if_neg (by omega)]
theorem way_hit {m : Mly} {s t i : Int} (h0 : 0 ≤ i) (h1 : i < (m.places s).length) (h : (ix (m.places s) i).1 = t) (h2 : ∀ j, 0 ≤ j → j < i → ¬ (ix (m.places s) j).1 = t) : m.way s t = ((ix (m.places s) i).2, true, 0) := by
  unfold Mly.way
  rw [find_hit h0 h1 (by simpa using h) fun j a b => by simpa using h2 j a b]
theorem way_no {m : Mly} {s t : Int} (h2 : ∀ j, 0 ≤ j → j < ((m.places s).length : Int) → ¬ (ix (m.places s) j).1 = t) : m.way s t = ([], false, 0) := by
  unfold Mly.way
  rw [find_no fun j a b => by simpa using h2 j a b]
theorem Path_s (m : Mly) (h : m.fits) (s t : Int) : PC F_cover_Path [m.av, .int s, .int t] = some (pathA (m.path s t)) := by
  refine PCx_of (go_cover_Path rfl ?_)
  by_cases hv : m.validE = 0
  · have hm := mvalidE_ok hv
    obtain ⟨hs1, hs2⟩ := hm.states
    by_cases hr : 0 ≤ s ∧ s < (m.next.length : Int) ∧ 0 ≤ t ∧ t < (m.next.length : Int)
    · have hp := places_s m hm s ⟨hr.1, hr.2.1⟩
      have hq := places_ok m hm s ⟨hr.1, hr.2.1⟩
      have hqn := hq.le
      rw [path_in hv hr]
      simp [mValid_s m h, hv, hr.1, hr.2.1, hr.2.2.1, hr.2.2.2, hp]
      (repeat' apply And.intro) <;> try omega
      refine W_iter (fun i : Int => [(5, .int i)]) (fun _ => []) (fun i => 0 ≤ i ∧ i ≤ (m.places s).length ∧ ∀ j, 0 ≤ j → j < i → ¬ (ix (m.places s) j).1 = t) (fun i => ((m.places s).length - i).toNat) 0 rfl ⟨by omega, by omega, upto_zero⟩ fun i ⟨i0, i1, i2⟩ => ?_
      by_cases hi : i < (m.places s).length
      · simp [-More_nor, hi, i0]
        refine ⟨fun e => by rw [way_hit i0 hi e i2]; simp, fun e => ⟨by omega, More_of (i + 1) (by simp) rfl ⟨by omega, by omega, upto_succ e i2⟩ (by omega)⟩⟩
      · rw [way_no fun j a b => i2 j a (by omega)]
        simp [hi]
    · rw [path_far hv hr]
      simp [mValid_s m h, hv]
      intros; omega
  · have : m.path s t = ([], false, m.validE) := by unfold Mly.path; rw [if_pos hv]
    rw [this]
    simp [mValid_s m h, hv]
theorem RPath_s (m : Mly) (h : m.fits) (s t : Int) : PC F_ref10_Path [m.av, .int s, .int t] = some (pathA (m.path s t)) := by
  refine PCx_of (go_ref10_Path rfl ?_)
  by_cases hv : m.validE = 0
  · have hm := mvalidE_ok hv
    obtain ⟨hs1, hs2⟩ := hm.states
    by_cases hr : 0 ≤ s ∧ s < (m.next.length : Int) ∧ 0 ≤ t ∧ t < (m.next.length : Int)
    · have hp := RAt_s m h hv s ⟨hr.1, hr.2.1⟩
      have hq := places_ok m hm s ⟨hr.1, hr.2.1⟩
      have hqn := hq.le
      rw [path_in hv hr]
      simp [-List.map_map, rmValid_s m h, hv, hr.1, hr.2.1, hr.2.2.1, hr.2.2.2, hp]
      (repeat' apply And.intro) <;> try omega
      refine W_iter (fun i : Int => [(5, .int i)]) (fun _ => []) (fun i => 0 ≤ i ∧ i ≤ (m.places s).length ∧ ∀ j, 0 ≤ j → j < i → ¬ (ix (m.places s) j).1 = t) (fun i => ((m.places s).length - i).toNat) 0 rfl ⟨by omega, by omega, upto_zero⟩ fun i ⟨i0, i1, i2⟩ => ?_
      by_cases hi : i < (m.places s).length
      · simp [-More_nor, -List.map_map, hi, i0, ix_map i0 hi]
        refine ⟨fun e => by rw [way_hit i0 hi e i2]; simp, fun e => ⟨by omega, More_of (i + 1) (by simp) rfl ⟨by omega, by omega, upto_succ e i2⟩ (by omega)⟩⟩
      · rw [way_no fun j a b => i2 j a (by omega)]
        simp [-List.map_map, hi]
    · rw [path_far hv hr]
      simp [rmValid_s m h, hv]
      intros; omega
  · have : m.path s t = ([], false, m.validE) := by unfold Mly.path; rw [if_pos hv]
    rw [this]
    simp [rmValid_s m h, hv]
theorem path_len (m : Mly) (h : m.fits) (s t : Int) : ((m.path s t).1.length : Int) ≤ 1000000 := by
  by_cases hv : m.validE = 0
  · by_cases hr : 0 ≤ s ∧ s < (m.next.length : Int) ∧ 0 ≤ t ∧ t < (m.next.length : Int)
    · rw [path_in hv hr]
      have hm := mvalidE_ok hv
      have hq := places_ok m hm s ⟨hr.1, hr.2.1⟩
      have hqn := hq.le
      have hst := hm.states
      unfold Mly.way
      split
      · rename_i p hp
        have := List.mem_of_find?_eq_some hp
        obtain ⟨i, hi, rfl⟩ := List.mem_iff_getElem.1 this
        have := hq.len i (by omega) (by omega)
        rw [ix_nat hi] at this
        dsimp only; omega
      · simp
    · rw [path_far hv hr]; simp
  · have : m.path s t = ([], false, m.validE) := by unfold Mly.path; rw [if_pos hv]
    rw [this]; simp
end Ab
