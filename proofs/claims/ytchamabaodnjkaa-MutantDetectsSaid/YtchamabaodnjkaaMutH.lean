/- The mutations fit; the changed machine is valid. Condition: none. -/
import Derived.Test.YtchamabaodnjkaaMutD
import Derived.Test.YtchamabaodnjkaaC33Applies
set_option linter.all false
set_option maxRecDepth 100000
set_option maxHeartbeats 4000000
namespace Ab
theorem ok_valid {m : Mly} (h : m.Ok) : m.validE = 0 := by
  have h1 := h.inputs
  have h2 := h.states
  have h3 := h.start
  have h4 := h.len
  have hne : m.next ≠ [] := by intro e; rw [e] at h2; simp at h2
  have hs : m.sizeE = 0 := by
    unfold Mly.sizeE
    rw [if_neg (by omega), if_neg (by omega), if_neg hne, if_neg (by omega), if_neg (by omega), if_neg (by omega), if_neg (by omega)]
  unfold Mly.validE
  rw [if_neg (by simpa using hs)]
  refine firstN_none fun s s0 s1 => ?_
  obtain ⟨r1, r2⟩ := h.row s s0 s1
  refine rowE_on r1 r2 fun a a0 a1 => ?_
  unfold Mly.offE
  have n := h.nx s a s0 s1 a0 a1
  have o := h.ot s a s0 s1 a0 a1
  rw [out1_f.2 n, out1_f.2 (by omega)]; rfl
theorem pick_mem {k s a b x : Int} {outs : List Int} {y : Mut} : y ∈ pick k s a b x outs ↔ ∃ o ∈ outs, o ≠ x ∧ y = ⟨k, s, a, o, b⟩ := by
  unfold pick
  simp only [List.mem_map, List.mem_filter, decide_eq_true_eq]
  constructor
  · rintro ⟨o, ⟨h1, h2⟩, rfl⟩; exact ⟨o, h1, h2, rfl⟩
  · rintro ⟨o, h1, h2, rfl⟩; exact ⟨o, ⟨h1, h2⟩, rfl⟩
theorem nexts_mem {s a t : Int} {n : Nat} {y : Mut} : y ∈ nexts s a t n ↔ ∃ u : Nat, u < n ∧ (u : Int) ≠ t ∧ y = ⟨2, s, a, u, 0⟩ := by
  unfold nexts
  simp only [List.mem_map, List.mem_filter, List.mem_range, decide_eq_true_eq]
  constructor
  · rintro ⟨o, ⟨h1, h2⟩, rfl⟩; exact ⟨o, h1, h2, rfl⟩
  · rintro ⟨o, h1, h2, rfl⟩; exact ⟨o, ⟨h1, h2⟩, rfl⟩
theorem copies_mem {s a : Int} {row outs : List Int} {y : Mut} : ∀ {n : Nat}, y ∈ copies s a row outs n ↔ ∃ b : Nat, b < n ∧ ∃ o ∈ outs, o ≠ ix row (b : Int) ∧ y = ⟨3, s, a, o, b⟩
  | 0 => by simp [copies]
  | n + 1 => by
    rw [copies, List.mem_append, copies_mem, pick_mem]
    constructor
    · rintro (⟨b, h1, h2⟩ | h)
      · exact ⟨b, by omega, h2⟩
      · exact ⟨n, by omega, h⟩
    · rintro ⟨b, h1, h2⟩
      by_cases e : b = n
      · subst e; exact .inr h2
      · exact .inl ⟨b, by omega, h2⟩
/-- What a mutation of a transition is. -/
theorem muts_mem {m : Mly} {s a : Int} {outs : List Int} {y : Mut} (h : y ∈ m.muts s a outs) : y.st = s ∧ y.inp = a ∧ ((y.kind = 1 ∧ y.val ∈ outs ∧ y.val ≠ ix (ix m.out s) a ∧ y.val2 = 0) ∨ (y.kind = 2 ∧ (0 ≤ y.val ∧ y.val < (m.next.length : Int)) ∧ y.val ≠ ix (ix m.next s) a ∧ y.val2 = 0) ∨ (y.kind = 3 ∧ (m.next.length : Int) < 128 ∧ y.val ∈ outs ∧ (0 ≤ y.val2 ∧ y.val2 < m.inputs) ∧ y.val ≠ ix (ix m.out (ix (ix m.next s) a)) y.val2)) := by
  unfold Mly.muts at h
  rcases List.mem_append.1 h with h | h
  · rcases List.mem_append.1 h with h | h
    · obtain ⟨o, h1, h2, rfl⟩ := pick_mem.1 h
      exact ⟨rfl, rfl, .inl ⟨rfl, h1, h2, rfl⟩⟩
    · obtain ⟨u, h1, h2, rfl⟩ := nexts_mem.1 h
      exact ⟨rfl, rfl, .inr (.inl ⟨rfl, by dsimp only; omega, h2, rfl⟩)⟩
  · split at h
    · simp at h
    · rename_i h8
      obtain ⟨b, h1, o, h2, h3, rfl⟩ := copies_mem.1 h
      exact ⟨rfl, rfl, .inr (.inr ⟨rfl, by omega, h2, by dsimp only; omega, h3⟩)⟩
theorem mrow_mem {m : Mly} {s : Int} {o : List Int} {y : Mut} : ∀ {n : Nat}, y ∈ mrow m s o n → ∃ a : Nat, a < n ∧ y ∈ m.muts s (a : Int) o
  | 0, h => by simp [mrow] at h
  | n + 1, h => by
    rcases List.mem_append.1 h with h | h
    · obtain ⟨a, h1, h2⟩ := mrow_mem h
      exact ⟨a, by omega, h2⟩
    · exact ⟨n, by omega, h⟩
theorem allM_mem {m : Mly} {y : Mut} (h : y ∈ m.allM) : ∃ s ∈ m.rz, ∃ a, 0 ≤ a ∧ a < m.inputs ∧ y ∈ m.muts s a m.outz := by
  unfold Mly.allM mst at h
  obtain ⟨s, hs, h⟩ := List.mem_flatMap.1 h
  obtain ⟨a, h1, h2⟩ := mrow_mem h
  exact ⟨s, hs, (a : Int), by omega, by omega, h2⟩
theorem allL_sub {m : Mly} {y : Mut} (h : y ∈ m.allL) : y ∈ m.allM := by
  unfold Mly.allL at h
  split at h
  · simp at h
  · exact h
theorem Ok.outv {m : Mly} (hm : m.Ok) {x : Int} (h : x ∈ m.out.flatten) : 0 ≤ x ∧ x ≤ 1048576 := by
  obtain ⟨r, hr, hx⟩ := List.mem_flatten.1 h
  obtain ⟨i, hi, rfl⟩ := List.mem_iff_getElem.1 hr
  obtain ⟨j, hj, rfl⟩ := List.mem_iff_getElem.1 hx
  have hl := hm.len
  have hro := (hm.row i (by omega) (by omega)).2
  rw [ix_nat hi] at hro
  have := hm.ot i j (by omega) (by omega) (by omega) (by omega)
  rwa [ix_nat hi, ix_nat hj] at this
theorem allM_fits {m : Mly} (hm : m.Ok) {y : Mut} (h : y ∈ m.allM) : y.Fits m ∧ (y.kind = 3 → (m.next.length : Int) < 128) := by
  obtain ⟨s, hs, a, a0, a1, h⟩ := allM_mem h
  have hr := rz_rng hm s hs
  obtain ⟨e1, e2, h⟩ := muts_mem h
  have ov : ∀ x, x ∈ m.outz → 0 ≤ x ∧ x ≤ 1048576 := fun x hx => Ok.outv hm (outz_mem.1 hx)
  rcases h with ⟨k, h1, h2, h3⟩ | ⟨k, h1, h2, h3⟩ | ⟨k, h0, h1, h2, h3⟩
  · have := ov _ h1
    exact ⟨⟨by omega, by omega, .inl ⟨k, by omega, by omega, h3⟩⟩, by omega⟩
  · exact ⟨⟨by omega, by omega, .inr (.inl ⟨k, h1.1, h1.2, h3⟩)⟩, by omega⟩
  · have := ov _ h1
    exact ⟨⟨by omega, by omega, .inr (.inr ⟨k, by omega, by omega, h2.1, h2.2⟩)⟩, fun _ => h0⟩
/-- A cell of a changed table. -/
theorem setLL_ix {l : List (List Int)} {s a v i j : Int} (s0 : 0 ≤ s) (s1 : s < l.length) (a0 : 0 ≤ a) (i0 : 0 ≤ i) (i1 : i < l.length) (j0 : 0 ≤ j) (j1 : j < ((ix l i).length : Int)) : ix (ix (setLL l s a v) i) j = if i = s ∧ j = a then v else ix (ix l i) j := by
  unfold setLL
  rw [ixs_set i0 i1]
  by_cases e : i = s
  · subst e
    rw [if_pos (by omega), ixs_set j0 (by omega)]
    by_cases e2 : j = a
    · rw [if_pos (by omega), if_pos ⟨rfl, e2⟩]
    · rw [if_neg (by omega), if_neg (by simp [e2])]
  · rw [if_neg (by omega), if_neg (by simp [e])]
theorem setLL_row {l : List (List Int)} {s a v i : Int} (s0 : 0 ≤ s) (i0 : 0 ≤ i) (i1 : i < l.length) : (ix (setLL l s a v) i).length = (ix l i).length := by
  unfold setLL
  rw [ixs_set i0 i1]
  by_cases e : i = s
  · subst e; rw [if_pos (by omega), List.length_set]
  · rw [if_neg (by omega)]
theorem setLL_len {l : List (List Int)} {s a v : Int} : (setLL l s a v).length = l.length := by simp [setLL]
theorem chg_ok {m : Mly} (hm : m.Ok) {x : Mut} (hx : x.Fits m) (h8 : x.kind = 3 → (m.next.length : Int) < 128) : (m.chg x).Ok := by
  have hin := hm.inputs
  have hst := hm.states
  have hml := hm.len
  have hsr := hm.start
  obtain ⟨hs, ha, hv⟩ := hx
  have ht := hm.nx x.st x.inp hs.1 hs.2 ha.1 ha.2
  unfold Mly.chg
  rcases hv with ⟨k, v0, v1, v2⟩ | ⟨k, v0, v1, v2⟩ | ⟨k, v0, v1, v2, v3⟩
  · rw [if_pos k]
    refine ⟨hin, hst, hsr, by simp only [setLL_len]; exact hml, fun s s0 s1 => ?_, hm.nx, fun s a s0 s1 a0 a1 => ?_⟩
    · have := hm.row s s0 s1
      exact ⟨this.1, by dsimp only; rw [setLL_row hs.1 s0 (by dsimp only at s1; omega)]; exact this.2⟩
    · dsimp only at s1 a1 ⊢
      rw [setLL_ix hs.1 (by omega) ha.1 s0 (by omega) a0 (by have := (hm.row s s0 s1).2; omega)]
      split
      · omega
      · exact hm.ot s a s0 s1 a0 a1
  · rw [if_neg (by omega), if_pos k]
    refine ⟨hin, by simp only [setLL_len]; exact hst, by simp only [setLL_len]; exact hsr, by simp only [setLL_len]; exact hml, fun s s0 s1 => ?_, fun s a s0 s1 a0 a1 => ?_, fun s a s0 s1 a0 a1 => ?_⟩
    · simp only [setLL_len] at s1
      have := hm.row s s0 s1
      exact ⟨by dsimp only; rw [setLL_row hs.1 s0 s1]; exact this.1, this.2⟩
    · simp only [setLL_len] at s1 ⊢
      dsimp only at a1
      rw [setLL_ix hs.1 hs.2 ha.1 s0 s1 a0 (by have := (hm.row s s0 s1).1; omega)]
      split
      · omega
      · exact hm.nx s a s0 s1 a0 a1
    · simp only [setLL_len] at s1
      exact hm.ot s a s0 s1 a0 a1
  · rw [if_neg (by omega), if_neg (by omega)]
    generalize ix (ix m.next x.st) x.inp = t at *
    have h8 := h8 k
    have hN : ∀ s, 0 ≤ s → s < (m.next.length : Int) → ix (setLL m.next x.st x.inp m.next.length ++ [ix m.next t]) s = ix (setLL m.next x.st x.inp m.next.length) s := fun s s0 s1 => ixa_app s0 (by rw [setLL_len]; exact s1)
    have hN1 : ix (setLL m.next x.st x.inp m.next.length ++ [ix m.next t]) (m.next.length : Int) = ix m.next t := by
      have := ixa_last (l := setLL m.next x.st x.inp m.next.length) (x := ix m.next t)
      rwa [setLL_len] at this
    have hO : ∀ s, 0 ≤ s → s < (m.next.length : Int) → ix (m.out ++ [(ix m.out t).set x.val2.toNat x.val]) s = ix m.out s := fun s s0 s1 => ixa_app s0 (by omega)
    have hO1 : ix (m.out ++ [(ix m.out t).set x.val2.toNat x.val]) (m.next.length : Int) = (ix m.out t).set x.val2.toNat x.val := by
      have := ixa_last (l := m.out) (x := (ix m.out t).set x.val2.toNat x.val)
      rwa [hml] at this
    have hnl : (((setLL m.next x.st x.inp m.next.length ++ [ix m.next t]).length : Nat) : Int) = m.next.length + 1 := by simp [setLL_len]
    refine ⟨hin, by dsimp only; omega, by dsimp only; omega, by dsimp only; rw [hnl]; simp; exact hml, fun s s0 s1 => ?_, fun s a s0 s1 a0 a1 => ?_, fun s a s0 s1 a0 a1 => ?_⟩
    · dsimp only at s1 ⊢
      by_cases e : s < (m.next.length : Int)
      · have := hm.row s s0 e
        rw [hN s s0 e, hO s s0 e, setLL_row hs.1 s0 e]
        exact this
      · have e : s = (m.next.length : Int) := by omega
        subst e
        rw [hN1, hO1, List.length_set]
        exact hm.row t ht.1 ht.2
    · dsimp only at s1 a1 ⊢
      rw [hnl]
      by_cases e : s < (m.next.length : Int)
      · rw [hN s s0 e, setLL_ix hs.1 hs.2 ha.1 s0 e a0 (by have := (hm.row s s0 e).1; omega)]
        split
        · omega
        · have := hm.nx s a s0 e a0 a1; omega
      · have e : s = (m.next.length : Int) := by omega
        subst e
        rw [hN1]
        have := hm.nx t a ht.1 ht.2 a0 a1; omega
    · dsimp only at s1 a1 ⊢
      by_cases e : s < (m.next.length : Int)
      · rw [hO s s0 e]; exact hm.ot s a s0 e a0 a1
      · have e : s = (m.next.length : Int) := by omega
        subst e
        rw [hO1, ixs_set a0 (by have := (hm.row t ht.1 ht.2).2; omega)]
        split
        · omega
        · exact hm.ot t a ht.1 ht.2 a0 a1
/-- A valid machine is one in memory. -/
theorem ok_fits {m : Mly} (hm : m.Ok) : m.fits := by
  have hin := hm.inputs
  have hst := hm.states
  have hml := hm.len
  have hsr := hm.start
  refine ⟨inR_iff.2 (by omega), inR_iff.2 (by omega), ⟨by omega, fun r hr => ?_⟩, ⟨by omega, fun r hr => ?_⟩⟩
  · obtain ⟨i, hi, rfl⟩ := List.mem_iff_getElem.1 hr
    have hro := (hm.row i (by omega) (by omega)).1
    rw [ix_nat hi] at hro
    refine ⟨by omega, fun x hx => ?_⟩
    obtain ⟨j, hj, rfl⟩ := List.mem_iff_getElem.1 hx
    have := hm.nx i j (by omega) (by omega) (by omega) (by omega)
    rw [ix_nat hi, ix_nat hj] at this
    exact inR_iff.2 (by omega)
  · obtain ⟨i, hi, rfl⟩ := List.mem_iff_getElem.1 hr
    have hro := (hm.row i (by omega) (by omega)).2
    rw [ix_nat hi] at hro
    refine ⟨by omega, fun x hx => ?_⟩
    obtain ⟨j, hj, rfl⟩ := List.mem_iff_getElem.1 hx
    have := hm.ot i j (by omega) (by omega) (by omega) (by omega)
    rw [ix_nat hi, ix_nat hj] at this
    exact inR_iff.2 (by omega)
end Ab
