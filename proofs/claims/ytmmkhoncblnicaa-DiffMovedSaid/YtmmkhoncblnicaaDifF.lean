/- The law on the words of the changes. Condition: none. -/
import Derived.Test.YtmmkhoncblnicaaDifE
set_option linter.all false
set_option maxRecDepth 100000
set_option maxHeartbeats 4000000
namespace Ab
theorem wordE_0 {w : List Int} {k : Int} (h1 : 1 ≤ k ∧ k ≤ 1024) (h2 : (w.length : Int) ≤ 1024) (h3 : ∀ x ∈ w, 0 ≤ x ∧ x < k) : wordE w k = 0 := by
  unfold wordE
  rw [if_neg (by omega), if_neg (by omega), if_neg (by rw [bad_f.2 h3]; simp)]
theorem from_ok {m : Mly} (hv : m.validE = 0) {u : List Int} (hu : ∀ y ∈ u, 0 ≤ y ∧ y < m.inputs) (hl : (u.length : Int) ≤ 1024) : m.from m.start u = (m.outs m.start u, m.run m.start u, 0) := by
  have hm := mvalidE_ok hv
  have hin := hm.inputs
  rw [From_e hv hm.start, if_neg (by rw [wordE_0 (by omega) hl hu]; simp)]
theorem DiffWords_l (aw : PC F_law49_exampleHolds [] = some (.bool true)) (a b : Mly) (ha : a.fits) (hb : b.fits) : PC F_law49_DiffWords [a.av, b.av] = some (.bool true) := by
  refine PCx_of (go_law49_DiffWords rfl ?_)
  have h1 := Great_s a ha
  have h2 := Great_s b hb
  cases hg : a.great
  case true => rw [hg] at h1; simp [h1, aw]
  rw [hg] at h1
  cases hg' : b.great
  case true => rw [hg'] at h2; simp [h1, h2, aw]
  rw [hg'] at h2
  have hc := rChk_s a b ha hb
  by_cases h0 : chkE a b = 0
  case neg => simp [h1, h2, hc, h0, aw]
  rw [h0] at hc
  obtain ⟨va, vb, hi⟩ := chkE_ok h0
  have hoa := mvalidE_ok va
  have hob := mvalidE_ok vb
  have hE := Explain_s a b ha hb
  rw [exA_small h0 hg hg'] at hE
  have hD := Distinguish_s a b ha hb
  have hd : disE a b = ((exps a b).head?.map (·.w), 0) := by unfold disE; rw [if_neg (by omega), exps_head]
  rw [hd] at hD
  obtain ⟨few, hwl⟩ := exps_few hoa hob hi hg hg'
  have hasc := exps_asc hoa hob hi
  have hget := fun c hc => exps_get (c := c) hoa hob hi hc
  generalize exps a b = X at *
  by_cases hX : X = []
  · subst hX
    simp [h1, h2, hc, hE, hD, aw]
    refine W_iter (fun _ : Unit => []) (fun _ => []) (fun _ => True) (fun _ => 0) () (by simp [sets]) trivial ?_
    intro _ _
    simp [aw]
  · have hX0 : 0 < X.length := List.length_pos_iff.2 hX
    have hX1 : (0 : Int) < (X.length : Int) := by omega
    have hh : X.head? = some (ix X 0) := by
      cases X with
      | nil => simp at hX
      | cons c r => rfl
    rw [hh] at hD
    have hw0 := hwl _ (ix_mem (l := X) (n := 0) (by omega) hX1)
    have e0 := EqI_s (ix X 0).w (ix X 0).w (by omega) (by omega)
    have hav : ∀ c : Cg, c.av = .agg [iL c.w, .int c.s, .int c.t, .int c.f, .int c.u] := fun _ => rfl
    simp [h1, h2, hc, hE, hD, aw, hX1, hav, e0]
    refine ⟨fun _ => ⟨hX0, ?_⟩, hX⟩
    refine W_iter (fun i : Int => [(9, .int i)]) (fun _ => []) (fun i => 0 ≤ i ∧ i ≤ X.length) (fun i => (X.length - i).toNat) 0 (by simp [sets]) (by omega) ?_
    intro i ⟨i0, i1⟩
    by_cases hi' : i < X.length
    · obtain ⟨u, x, e1, e2, e3, e4, e5, e6, e7, e8, e9, e10⟩ := hget _ (ix_mem i0 hi')
      have hul := hwl _ (ix_mem i0 hi')
      rw [e1] at hul
      simp at hul
      have hv2 : ∀ y ∈ u, 0 ≤ y ∧ y < b.inputs := by rw [← hi]; exact e2
      have f1 := From_s a ha a.start u (by omega)
      have f2 := From_s b hb b.start u (by omega)
      rw [from_ok va e2 (by omega)] at f1
      rw [from_ok vb hv2 (by omega)] at f2
      have e4' := EqI_s (b.outs b.start u) (b.outs b.start u) (by rw [outs_len]; omega) (by rw [outs_len]; omega)
      have hcmp : 0 < i → PC F_word_Compare [iL (ix X (i - 1)).w, iL (ix X i).w] = some (.int (slxC (ix X (i - 1)).w (ix X i).w)) ∧ slxC (ix X (i - 1)).w (ix X i).w < 0 := fun hp => by
        have hm := ix_mem (l := X) (n := i - 1) (by omega) (by omega)
        have := hwl _ hm
        refine ⟨wcmp_s _ _ (by omega) (by rw [e1]; simp; omega), ?_⟩
        have hpw := List.pairwise_iff_getElem.1 hasc (i - 1).toNat i.toNat (by omega) (by omega) (by omega)
        have q1 : ix X (i - 1) = X[(i - 1).toNat] := by have := ix_nat (l := X) (n := (i - 1).toNat) (by omega); rwa [show (((i - 1).toNat : Nat) : Int) = i - 1 by omega] at this
        have q2 : ix X i = X[i.toNat] := by have := ix_nat (l := X) (n := i.toNat) (by omega); rwa [show ((i.toNat : Nat) : Int) = i by omega] at this
        rw [q1, q2]; exact hpw
      have hWl : ((ix X i).w.length : Int) = u.length + 1 := by rw [e1]; simp
      have hWx : ix (ix X i).w ((ix X i).w.length - 1 : Int) = x := by rw [e1]; simp [ix]
      have hWt : (ix X i).w.take ((ix X i).w.length - 1) = u := by rw [e1]; simp
      have ht : List.take ((ix X i).w.length - 1) (List.map AV.int (ix X i).w) = List.map AV.int u := by rw [← List.map_take, hWt]
      have fi : ∀ l : List Int, firstIs 1 (l.map AV.int) = true := fun l => by cases l <;> rfl
      have hWn : 1 ≤ ((ix X i).w.length : Int) := by omega
      have hrow : (0 ≤ (ix X i).s ∧ (ix X i).s < (a.out.length : Int)) ∧ (0 ≤ (ix X i).t ∧ (ix X i).t < (b.out.length : Int)) := by
        have r1 := run_rng hoa hoa.start e2
        have r2 := run_rng hob hob.start hv2
        have := hoa.len
        have := hob.len
        rw [e5, e6]; omega
      have hra := hoa.row (ix X i).s hrow.1.1 (by have := hoa.len; omega)
      have hrb := hob.row (ix X i).t hrow.2.1 (by have := hob.len; omega)
      have hxb : x < b.inputs := by omega
      have e5' := e5.symm
      have e6' := e6.symm
      have e7' := e7.symm
      have e8' := e8.symm
      clear e5 e6 e7 e8
      by_cases hp : 0 < i
      · obtain ⟨c1, c2⟩ := hcmp hp
        generalize slxC (ix X (i - 1)).w (ix X i).w = C at *
        have hm1 : 0 ≤ i - 1 := by omega
        have hm2 : i - 1 < (X.length : Int) := by omega
        have hWn' : ¬ (((ix X i).w.length : Int) < 1) := by omega
        have hp1 : 1 ≤ i := by omega
        have hC : ¬ (0 ≤ C) := by omega
        simp [-More_nor, hi', i0, hav, hp, hm1, hm2, c1, hWn, hWn', hC, hp1, ht, fi, f1, f2, e4, e4', hWx, e3.1, e3.2, e5', e6', e7', e8', e9, hrow.1.1, hrow.1.2, hrow.2.1, hrow.2.2, hra.2, hrb.2, hxb]
        refine ⟨by omega, by omega, by omega, by omega, by omega, More_of (i + 1) (by simp) rfl (by omega) (by omega)⟩
      · have hi0 : i = 0 := by omega
        have hWn' : ¬ (((ix X i).w.length : Int) < 1) := by omega
        simp [-More_nor, hi', i0, hav, hp, hWn, hWn', ht, fi, f1, f2, e4, e4', hWx, e3.1, e3.2, e5', e6', e7', e8', e9, hrow.1.1, hrow.1.2, hrow.2.1, hrow.2.2, hra.2, hrb.2, hxb]
        refine ⟨by omega, by omega, by omega, by omega, More_of (i + 1) (by simp) rfl (by omega) (by omega)⟩
    · simp [hi', aw]
end Ab
