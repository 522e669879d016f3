/- Observations: which are valid. Condition: none. -/
import Derived.Test.YtkedjdfangojmaaObs
set_option linter.all false
set_option maxRecDepth 100000
set_option maxHeartbeats 4000000
namespace Ab
/-- The error of a trace. -/
theorem Proper_x (t : Tr) (k : Int) (h1 : (t.inp.length : Int) ≤ 9223372036854775807) (h2 : (t.out.length : Int) ≤ 9223372036854775807) : LX L F_ref16_Proper [t.av, .int k] [] (fun v _ => ∃ e, v = .int e ∧ (e = 0 → wordE t.inp k = 0 ∧ t.out.length = t.inp.length ∧ ∀ x ∈ t.out, 0 ≤ x ∧ x ≤ 1048576)) := by
  refine go_ref16_Proper rfl ?_
  have hc := rCheck_s t.inp k h1
  by_cases he : wordE t.inp k = 0
  · rw [he] at hc
    by_cases hl : (t.out.length : Int) = t.inp.length
    · simp [hc, hl]
      refine W_iter (fun i : Nat => [(4, .int i)]) (fun _ => []) (fun i => i ≤ t.out.length ∧ ∀ j : Nat, j < i → 0 ≤ ix t.out (j : Int) ∧ ix t.out (j : Int) ≤ 1048576) (fun i => t.out.length - i) 0 (by simp [sets]) ⟨by omega, fun j h => by omega⟩ ?_
      intro i ⟨i0, i1⟩
      by_cases hi : i < t.out.length
      · by_cases hb : ix t.out (i : Int) < 0
        · simp [hi, hb]
        · by_cases hb2 : 1048576 < ix t.out (i : Int)
          · simp [hi, hb, hb2]
          · simp [-More_nor, hi, hb, hb2]
            (repeat' apply And.intro) <;> try omega
            exact More_of (i + 1) (by simp) rfl ⟨by omega, fun j hj => by
              by_cases e : j = i
              · subst e; omega
              · exact i1 j (by omega)⟩ (by omega)
      · simp [hi]
        refine ⟨he, by omega, fun x hx => ?_⟩
        obtain ⟨j, hj, e⟩ := List.mem_iff_getElem.1 hx
        have := i1 j (by omega)
        rwa [ix_nat hj, e] at this
    · simp [hc, hl]
  · simp [hc, he]
theorem Proper_s (t : Tr) (k : Int) (h1 : (t.inp.length : Int) ≤ 9223372036854775807) (h2 : (t.out.length : Int) ≤ 9223372036854775807) : ∃ e, PC F_ref16_Proper [t.av, .int k] = some (.int e) ∧ (e = 0 → wordE t.inp k = 0 ∧ t.out.length = t.inp.length ∧ ∀ x ∈ t.out, 0 ≤ x ∧ x ≤ 1048576) := by
  obtain ⟨v, σ', h, e, rfl, h3⟩ := LX_s (Proper_x t k h1 h2)
  exact ⟨e, by simp only [PC, PCx, h]; rfl, h3⟩
theorem Differ_x (a b : Tr) (ha : (a.inp.length : Int) ≤ 1000000) (hb : (b.inp.length : Int) ≤ 1000000) (ha2 : a.out.length = a.inp.length) (hb2 : b.out.length = b.inp.length) : LX L F_ref16_Differ [a.av, b.av] [] (fun v _ => ∃ e, v = .int e) := by
  refine go_ref16_Differ rfl ?_
  have hc := rcommon_s a.inp b.inp (by omega) (by omega)
  have hn := comN_le (a := a.inp) (b := b.inp)
  generalize comN a.inp b.inp = n at *
  simp [hc]
  refine W_iter (fun i : Nat => [(4, .int i)]) (fun _ => []) (fun i => i ≤ n) (fun i => n - i) 0 (by simp [sets]) (by omega) ?_
  intro i i0
  by_cases hi : i < n
  · have h1 : i < a.out.length := by omega
    have h2 : i < b.out.length := by omega
    by_cases he : ix a.out (i : Int) = ix b.out (i : Int)
    · have hee : (ix a.out (i : Int) = ix b.out (i : Int)) = True := eq_true he
      simp [-More_nor, hi, h1, h2, hee]
      (repeat' apply And.intro) <;> try omega
      exact More_of (i + 1) (by simp) rfl (by omega) (by omega)
    · simp [hi, h1, h2, he]
  · simp [hi]
theorem Differ_s (a b : Tr) (ha : (a.inp.length : Int) ≤ 1000000) (hb : (b.inp.length : Int) ≤ 1000000) (ha2 : a.out.length = a.inp.length) (hb2 : b.out.length = b.inp.length) : ∃ e, PC F_ref16_Differ [a.av, b.av] = some (.int e) := by
  obtain ⟨v, σ', h, e, rfl⟩ := LX_s (Differ_x a b ha hb ha2 hb2)
  exact ⟨e, by simp only [PC, PCx, h]; rfl⟩
theorem apart_x (o : Obs) (ho : o.Ok) : LX L F_ref16_apart [o.av] [] (fun v _ => ∃ e, v = .int e) := by
  refine go_ref16_apart rfl ?_
  have hl := ho.len
  simp
  refine W_iter (fun i : Nat => [(1, .int i)]) (fun _ => []) (fun i => i ≤ o.traces.length) (fun i => o.traces.length - i) 0 (by simp [sets]) (by omega) ?_
  intro i i0
  by_cases hi : i < o.traces.length
  · have hmi := ix_get (l := o.traces) hi
    simp [-More_nor, hi]
    refine ⟨by omega, ?_⟩
    refine W_iter (fun p : Nat × Bool × Bool => [(3, .int p.1), (4, .bool p.2.1), (5, .bool p.2.2)]) (fun _ => []) (fun p => i + 1 ≤ p.1 ∧ p.1 ≤ o.traces.length) (fun p => o.traces.length - p.1) (i + 1, false, false) (by simp [sets]) ⟨by dsimp only; omega, by dsimp only; omega⟩ ?_
    rintro ⟨k, b, c⟩ ⟨k0, k1⟩
    dsimp only at k0 k1 ⊢
    by_cases hk : k < o.traces.length
    · have hmk := ix_get (l := o.traces) hk
      have hp := rhasPre_s (ix o.traces (k : Int)).inp (ix o.traces (i : Int)).inp (by have := ho.inp _ hmk; omega) (by have := ho.inp _ hmi; omega)
      obtain ⟨e, hd⟩ := Differ_s (ix o.traces (i : Int)) (ix o.traces (k : Int)) (ho.inp _ hmi) (ho.inp _ hmk) (ho.out _ hmi) (ho.out _ hmk)
      cases b <;> cases c
      · simp [-More_nor, hi, hk, hp, hd]
        (repeat' apply And.intro) <;> try omega
        exact More_of (k + 1, decide ((ix o.traces (i : Int)).inp <+: (ix o.traces (k : Int)).inp), decide (0 ≤ e)) (by simp) rfl ⟨by dsimp only; omega, by dsimp only; omega⟩ (by dsimp only; omega)
      · simp [-More_nor, hi, hk, hp, hd]
        (repeat' apply And.intro) <;> try omega
        exact More_of (k + 1, decide ((ix o.traces (i : Int)).inp <+: (ix o.traces (k : Int)).inp), true) (by simp) rfl ⟨by dsimp only; omega, by dsimp only; omega⟩ (by dsimp only; omega)
      · simp [-More_nor, hi, hk, hp, hd]
        (repeat' apply And.intro) <;> try omega
        exact More_of (k + 1, true, decide (0 ≤ e)) (by simp) rfl ⟨by dsimp only; omega, by dsimp only; omega⟩ (by dsimp only; omega)
      · simp [-More_nor, hi, hk, hp, hd]
        (repeat' apply And.intro) <;> try omega
        exact More_of (k + 1, true, true) (by simp) rfl ⟨by dsimp only; omega, by dsimp only; omega⟩ (by dsimp only; omega)
    · have ek : k = o.traces.length := by omega
      subst ek
      cases b <;> cases c <;> simp [-More_nor]
      exact ⟨by omega, More_of (i + 1) (by simp) rfl (by omega) (by omega)⟩
  · simp [hi]
theorem apart_s (o : Obs) (ho : o.Ok) : ∃ e, PC F_ref16_apart [o.av] = some (.int e) := by
  obtain ⟨v, σ', h, e, rfl⟩ := LX_s (apart_x o ho)
  exact ⟨e, by simp only [PC, PCx, h]; rfl⟩
/-- What is asked of valid observations here. -/
theorem Valid_x (o : Obs) (h : o.fits) (hl : (o.traces.length : Int) ≤ 1000000) (hi : ∀ t ∈ o.traces, (t.inp.length : Int) ≤ 1000000 ∧ (t.out.length : Int) ≤ 1000000) : LX L F_ref16_Valid [o.av] [] (fun v _ => ∃ e, v = .int e ∧ (e = 0 → o.Ok)) := by
  refine go_ref16_Valid rfl ?_
  by_cases h1 : o.inputs < 1
  · simp [h1]
  by_cases h2 : 64 < o.inputs
  · simp [h1, h2]
  by_cases h3 : 10000 < (o.traces.length : Int)
  · simp [h1, h2, h3]
  simp [h1, h2, h3]
  refine W_iter (fun i : Nat => [(2, .int i)]) (fun _ => []) (fun i => i ≤ o.traces.length ∧ ∀ j : Nat, j < i → (ix o.traces (j : Int)).out.length = (ix o.traces (j : Int)).inp.length) (fun i => o.traces.length - i) 0 (by simp [sets]) ⟨by omega, fun j h => by omega⟩ ?_
  intro i ⟨i0, i1⟩
  by_cases hx : i < o.traces.length
  · have hm := ix_get (l := o.traces) hx
    obtain ⟨hb1, hb2⟩ := hi _ hm
    have hc := rCheck_s (ix o.traces (i : Int)).inp o.inputs (by omega)
    obtain ⟨e, hp, he⟩ := Proper_s (ix o.traces (i : Int)) o.inputs (by omega) (by omega)
    by_cases hw : wordE (ix o.traces (i : Int)).inp o.inputs = 0
    · rw [hw] at hc
      by_cases hz : (ix o.traces (i : Int)).inp = []
      · have hz' : ((ix o.traces (i : Int)).inp = []) = True := eq_true hz
        simp [hx, hc, hz']
      · by_cases hee : e = 0
        · subst hee
          have hok := (he rfl).2.1
          have next : ∀ j : Nat, j < i + 1 → (ix o.traces (j : Int)).out.length = (ix o.traces (j : Int)).inp.length := fun j hj => by
            by_cases e : j = i
            · subst e; exact hok
            · exact i1 j (by omega)
          by_cases hi0 : 0 < i
          · have hm2 := ix_mem (l := o.traces) (n := (i : Int) - 1) (by omega) (by omega)
            have hcm := rcmp_s (ix o.traces ((i : Int) - 1)).inp (ix o.traces (i : Int)).inp (by have := (hi _ hm2).1; omega) (by omega)
            by_cases hs : 0 ≤ slxC (ix o.traces ((i : Int) - 1)).inp (ix o.traces (i : Int)).inp
            · simp [hx, hc, hz, hp, hi0, hcm, hs, show (i : Int) - 1 < o.traces.length by omega]
              omega
            · simp [-More_nor, hx, hc, hz, hp, hi0, hcm, hs, show (i : Int) - 1 < o.traces.length by omega]
              (repeat' apply And.intro) <;> try omega
              exact More_of (i + 1) (by simp) rfl ⟨by omega, next⟩ (by omega)
          · simp [-More_nor, hx, hc, hz, hp, hi0]
            (repeat' apply And.intro) <;> try omega
            exact More_of (i + 1) (by simp) rfl ⟨by omega, next⟩ (by omega)
        · simp [hx, hc, hz, hp, hee]
    · simp [hx, hc, hw]
  · have ho : o.Ok := ⟨hl, fun t ht => (hi t ht).1, fun t ht => by
      obtain ⟨j, hj, e⟩ := List.mem_iff_getElem.1 ht
      have := i1 j (by omega)
      rwa [ix_nat hj, e] at this⟩
    obtain ⟨e, ha⟩ := apart_s o ho
    simp [hx, ha]
    exact fun _ => ho
theorem Valid_s (o : Obs) (h : o.fits) (hl : (o.traces.length : Int) ≤ 1000000) (hi : ∀ t ∈ o.traces, (t.inp.length : Int) ≤ 1000000 ∧ (t.out.length : Int) ≤ 1000000) : ∃ e, PC F_ref16_Valid [o.av] = some (.int e) ∧ (e = 0 → o.Ok) := by
  obtain ⟨v, σ', h, e, rfl, h3⟩ := LX_s (Valid_x o h hl hi)
  exact ⟨e, by simp only [PC, PCx, h]; rfl, h3⟩
theorem greatT_x (l : List Tr) (hl : (l.length : Int) ≤ 9223372036854775807) (hw : ∀ t ∈ l, (t.inp.length : Int) ≤ 9223372036854775807 ∧ (t.out.length : Int) ≤ 9223372036854775807) : LX L F_ref17_Great [.imm false (l.map Tr.av)] [] (fun v _ => ∃ b, v = .bool b ∧ (b = false → (l.length : Int) ≤ 30 ∧ ∀ t ∈ l, (t.inp.length : Int) ≤ 40 ∧ (t.out.length : Int) ≤ 40)) := by
  refine go_ref17_Great rfl ?_
  simp
  refine W_iter (fun i : Nat => [(1, .int i)]) (fun _ => []) (fun i => i ≤ l.length ∧ i ≤ 31 ∧ ∀ j : Nat, j < i → ((ix l (j : Int)).inp.length : Int) ≤ 40 ∧ ((ix l (j : Int)).out.length : Int) ≤ 40) (fun i => l.length - i) 0 (by simp [sets]) ⟨by omega, by omega, fun j h => by omega⟩ ?_
  intro i ⟨i0, i1, i2⟩
  by_cases hi : i < l.length ∧ i < 31
  · by_cases hc : 40 < ((ix l (i : Int)).inp.length : Int)
    · simp [hi.1, show (i : Int) < 31 by omega, hc]
    · by_cases hd : 40 < ((ix l (i : Int)).out.length : Int)
      · simp [hi.1, show (i : Int) < 31 by omega, hc, hd]
      · simp [-More_nor, hi.1, show (i : Int) < 31 by omega, hc, hd]
        (repeat' apply And.intro) <;> try omega
        exact More_of (i + 1) (by simp) rfl ⟨by omega, by omega, fun j hj => by
          by_cases e : j = i
          · subst e; omega
          · exact i2 j (by omega)⟩ (by omega)
  · have fin : ((l.length : Int) ≤ 30 → ∀ t ∈ l, (t.inp.length : Int) ≤ 40 ∧ (t.out.length : Int) ≤ 40) := fun h t hm => by
      obtain ⟨j, hj, e⟩ := List.mem_iff_getElem.1 hm
      have := i2 j (by omega)
      rwa [ix_nat hj, e] at this
    by_cases h1 : i < l.length
    · simp [h1, show ¬ (i : Int) < 31 by omega]
      omega
    · simp [h1]
      rcases Int.lt_or_le 30 (l.length : Int) with h | h
      · exact .inr h
      · exact .inl ⟨h, fin h⟩
theorem greatT_s (l : List Tr) (hl : (l.length : Int) ≤ 9223372036854775807) (hw : ∀ t ∈ l, (t.inp.length : Int) ≤ 9223372036854775807 ∧ (t.out.length : Int) ≤ 9223372036854775807) : ∃ b, PC F_ref17_Great [.imm false (l.map Tr.av)] = some (.bool b) ∧ (b = false → (l.length : Int) ≤ 30 ∧ ∀ t ∈ l, (t.inp.length : Int) ≤ 40 ∧ (t.out.length : Int) ≤ 40) := by
  obtain ⟨v, σ', h, e, rfl, h3⟩ := LX_s (greatT_x l hl hw)
  exact ⟨e, by simp only [PC, PCx, h]; rfl, h3⟩
end Ab
