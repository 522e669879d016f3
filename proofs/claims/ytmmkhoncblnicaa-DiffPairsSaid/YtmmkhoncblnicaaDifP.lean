/- The law on words that differ in the last output. Condition: none. -/
import Derived.Test.YtmmkhoncblnicaaDifF
set_option linter.all false
set_option maxRecDepth 100000
set_option maxHeartbeats 4000000
namespace Ab
/-- No change so far leads from these states with this symbol. -/
def Nmt (X : List Cg) (S T x i : Int) : Prop := ∀ j, 0 ≤ j → j < i → ¬ ((ix X j).s = S ∧ (ix X j).t = T ∧ ix (ix X j).w ((ix X j).w.length - 1 : Int) = x)
theorem Nmt_zero {X : List Cg} {S T x : Int} : Nmt X S T x 0 := upto_zero
theorem Nmt_succ {X : List Cg} {S T x i : Int} (h : ¬ ((ix X i).s = S ∧ (ix X i).t = T ∧ ix (ix X i).w ((ix X i).w.length - 1 : Int) = x)) (k : Nmt X S T x i) : Nmt X S T x (i + 1) := upto_succ h k
theorem exps_uniq {a b : Mly} (ha : a.Ok) (hb : b.Ok) (hi : a.inputs = b.inputs) {c d : Cg} (hc : c ∈ exps a b) (hd : d ∈ exps a b) (h1 : c.s = d.s) (h2 : c.t = d.t) {u v : List Int} {x : Int} (hu : c.w = u ++ [x]) (hv : d.w = v ++ [x]) : c.w = d.w := by
  have hG := pgr ha hb hi
  have ok0 : pok a b (a.start, b.start) := ⟨ha.start, hb.start⟩
  obtain ⟨_, _, h⟩ := gplaces_gi hG ok0
  have hnd := h.gq.nd
  unfold exps ppl at hc hd
  obtain ⟨y, hy, rfl⟩ := List.mem_map.1 hc
  obtain ⟨z, hz, rfl⟩ := List.mem_map.1 hd
  obtain ⟨p, hp, _, _, e1, e2⟩ := gfails_mem.1 hy
  obtain ⟨q, hq, _, _, f1, f2⟩ := gfails_mem.1 hz
  change y.2.1 = u ++ [x] at hu
  change z.2.1 = v ++ [x] at hv
  change y.1.1 = z.1.1 at h1
  change y.1.2 = z.1.2 at h2
  have hpq : p.1 = q.1 := by rw [← e1, ← f1]; exact Prod.ext h1 h2
  have : p = q := by
    obtain ⟨j, hj, rfl⟩ := List.mem_iff_getElem.1 hp
    obtain ⟨n, hn, rfl⟩ := List.mem_iff_getElem.1 hq
    have : j = n := by
      have hpw := List.pairwise_iff_getElem.1 hnd
      rcases Nat.lt_trichotomy j n with hlt | he | hgt
      · have := hpw j n (by simpa using hj) (by simpa using hn) hlt
        simp only [List.getElem_map] at this
        exact absurd hpq this
      · exact he
      · have := hpw n j (by simpa using hn) (by simpa using hj) hgt
        simp only [List.getElem_map] at this
        exact absurd hpq.symm this
    subst this; rfl
  subst this
  show y.2.1 = z.2.1
  rw [hu] at e2 ⊢
  rw [hv] at f2 ⊢
  have g1 := List.append_inj' e2 rfl
  have g2 := List.append_inj' f2 rfl
  rw [g1.1, g2.1]
theorem DiffPairs_l (aw : PC F_law49_exampleHolds [] = some (.bool true)) (a b : Mly) (ha : a.fits) (hb : b.fits) (w : List Int) (hl : (w.length : Int) ≤ 9223372036854775807) : PC F_law49_DiffPairs [a.av, b.av, iL w] = some (.bool true) := by
  refine PCx_of (go_law49_DiffPairs rfl ?_)
  have h1 := Great_s a ha
  have h2 := Great_s b hb
  cases hg : a.great
  case true => rw [hg] at h1; simp [h1, aw]
  rw [hg] at h1
  cases hg' : b.great
  case true => rw [hg'] at h2; simp [h1, h2, aw]
  rw [hg'] at h2
  have hc := rChk_s a b ha hb
  by_cases h0 : chkE a b = 0
  case neg => simp [h1, h2, hc, h0, aw]
  rw [h0] at hc
  obtain ⟨va, vb, hi⟩ := chkE_ok h0
  have hoa := mvalidE_ok va
  have hob := mvalidE_ok vb
  have hE := Explain_s a b ha hb
  rw [exA_small h0 hg hg'] at hE
  obtain ⟨few, hwl⟩ := exps_few hoa hob hi hg hg'
  by_cases hw0 : w = []
  case pos => subst hw0; simp [h1, h2, hc, aw]
  have hwp : 0 < w.length := List.length_pos_iff.2 hw0
  by_cases hw2 : 200 < (w.length : Int)
  case pos => simp [h1, h2, hc, aw, hw0, hw2]
  have r1 := MRun_s a ha w hl
  have r2 := MRun_s b hb w hl
  have hin := hoa.inputs
  by_cases hwr : ∀ y ∈ w, 0 ≤ y ∧ y < a.inputs
  case neg =>
    have e1 : wordE w a.inputs = 1 := by
      unfold wordE
      rw [if_neg (by omega), if_neg (by omega), if_pos]
      cases hb' : bad w a.inputs with
      | true => rfl
      | false => exact absurd (bad_f.1 hb') hwr
    rw [From_e va hoa.start, if_pos (by rw [e1]; decide), e1] at r1
    rw [From_e vb hob.start, ← hi, if_pos (by rw [e1]; decide), e1] at r2
    simp [h1, h2, hc, aw, hw0, hw2, r1, r2, hE]
    omega
  obtain ⟨u, x, e⟩ : ∃ u x, w = u ++ [x] := ⟨w.dropLast, w.getLast hw0, (List.dropLast_concat_getLast hw0).symm⟩
  have hu : ∀ y ∈ u, 0 ≤ y ∧ y < a.inputs := fun y hy => hwr y (by rw [e]; simp [hy])
  have hub : ∀ y ∈ u, 0 ≤ y ∧ y < b.inputs := by rw [← hi]; exact hu
  have hx := hwr x (by rw [e]; simp)
  have hul : (w.length : Int) = u.length + 1 := by rw [e]; simp
  rw [from_ok va hwr (by omega)] at r1
  rw [from_ok vb (by rw [← hi]; exact hwr) (by omega)] at r2
  have f1 := From_s a ha a.start u (by omega)
  have f2 := From_s b hb b.start u (by omega)
  rw [from_ok va hu (by omega)] at f1
  rw [from_ok vb hub (by omega)] at f2
  have wt : List.take (w.length - 1) (List.map AV.int w) = List.map AV.int u := by rw [← List.map_take, e]; simp
  have oa : a.outs a.start w = a.outs a.start u ++ [ix (ix a.out (a.run a.start u)) x] := by rw [e, outs_app]; rfl
  have ob : b.outs b.start w = b.outs b.start u ++ [ix (ix b.out (b.run b.start u)) x] := by rw [e, outs_app]; rfl
  have la : (a.outs a.start w).length = w.length := outs_len
  have lb : (b.outs b.start w).length = w.length := outs_len
  have lau : (a.outs a.start u).length = u.length := outs_len
  have lbu : (b.outs b.start u).length = u.length := outs_len
  have ta : List.take (w.length - 1) (List.map AV.int (a.outs a.start w)) = List.map AV.int (a.outs a.start u) := by rw [← List.map_take, oa, e]; simp [lau]
  have tb : List.take (w.length - 1) (List.map AV.int (b.outs b.start w)) = List.map AV.int (b.outs b.start u) := by rw [← List.map_take, ob, e]; simp [lbu]
  have xa : ix (a.outs a.start w) (w.length - 1 : Int) = ix (ix a.out (a.run a.start u)) x := by rw [oa, hul]; simp [ix, lau]
  have xb : ix (b.outs b.start w) (w.length - 1 : Int) = ix (ix b.out (b.run b.start u)) x := by rw [ob, hul]; simp [ix, lbu]
  have xw : ix w (w.length - 1 : Int) = x := by rw [e]; simp [ix]
  have eq := EqI_s (a.outs a.start u) (b.outs b.start u) (by omega) (by omega)
  have fi : ∀ l : List Int, firstIs 1 (l.map AV.int) = true := fun l => by cases l <;> rfl
  have hw1 : 1 ≤ (w.length : Int) := by omega
  have hw1' : 1 ≤ w.length := by omega
  have hit := fun h1 h2 => exps_hit hoa hob hi hu hx h1 h2
  have huq := fun c d hc hd h1 h2 u v x hu hv => exps_uniq (c := c) (d := d) (u := u) (v := v) (x := x) hoa hob hi hc hd h1 h2 hu hv
  have hget := fun c hc => exps_get (c := c) hoa hob hi hc
  have hav : ∀ c : Cg, c.av = .agg [iL c.w, .int c.s, .int c.t, .int c.f, .int c.u] := fun _ => rfl
  clear oa ob
  generalize a.outs a.start w = A at *
  generalize b.outs b.start w = B at *
  generalize a.outs a.start u = A' at *
  generalize b.outs b.start u = B' at *
  generalize a.run a.start u = S at *
  generalize b.run b.start u = T at *
  generalize exps a b = X at *
  have hA0 : A.length = w.length := la
  by_cases hab : A' = B' ∧ ¬ ix A (w.length - 1 : Int) = ix B (w.length - 1 : Int)
  case neg =>
    by_cases h3 : A' = B'
    · have h4 : (ix A (w.length - 1 : Int) = ix B (w.length - 1 : Int)) = True := eq_true (by simpa [h3] using hab)
      have h3' : (A' = B') = True := eq_true h3
      simp [h1, h2, hc, aw, r1, r2, hE, hw0, hw2, ta, tb, fi, eq, h3', la, lb, hw1, h4]
      try omega
    · have h3' : (A' = B') = False := eq_false h3
      simp [h1, h2, hc, aw, r1, r2, hE, hw0, hw2, ta, tb, fi, eq, h3', la, lb, hw1]
      try omega
  obtain ⟨h3, h4⟩ := hab
  have h3' : (A' = B') = True := eq_true h3
  have h4' : (ix A (w.length - 1 : Int) = ix B (w.length - 1 : Int)) = False := eq_false h4
  simp [h1, h2, hc, aw, r1, r2, hE, hw0, hw2, ta, tb, fi, eq, h3', la, lb, hw1, h4', wt, f1, f2]
  refine ⟨by omega, by omega, by omega, by omega, by omega, ?_⟩
  rw [xa, xb] at h4
  obtain ⟨c, hcX, k1, k2, ⟨v, k3⟩, k4⟩ := hit h3 h4
  refine W_iter (fun i : Int => [(12, .int i)]) (fun _ => []) (fun i => (0 ≤ i ∧ i ≤ X.length) ∧ Nmt X S T x i) (fun i => (X.length - i).toNat) 0 (by simp [sets]) ⟨by omega, Nmt_zero⟩ ?_
  intro i ⟨⟨i0, i1⟩, i2⟩
  by_cases hi' : i < X.length
  · have hm := ix_mem i0 hi'
    obtain ⟨q, y, e1, e2, e3, _⟩ := hget _ hm
    have hwl' := hwl _ hm
    have hWl : ((ix X i).w.length : Int) = q.length + 1 := by rw [e1]; simp
    have hWn : 1 ≤ ((ix X i).w.length : Int) := by omega
    have hWn' : 0 < (ix X i).w.length := by omega
    have hne : ¬ (ix X i).w = [] := fun h => by rw [h] at hWl; simp at hWl; omega
    by_cases hs : (ix X i).s = S
    · have hs' := eq_true hs
      by_cases ht : (ix X i).t = T
      · have ht' := eq_true ht
        by_cases hy : ix (ix X i).w ((ix X i).w.length - 1 : Int) = x
        · have hy' := eq_true hy
          have hyx : y = x := by rw [← hy, e1]; simp [ix]
          have hle : slxC (ix X i).w w ≤ 0 := by
            rw [huq _ _ hm hcX (by rw [hs, k1]) (by rw [ht, k2]) q v x (by rw [e1, hyx]) k3, e]
            exact k4
          have hcm := wcmp_s (ix X i).w w (by omega) hl
          generalize slxC (ix X i).w w = C at *
          simp [-More_nor, hi', i0, hav, hs', ht', hne, hWn, hWn', xw, hy', hw1, hcm, hle, aw]
          try omega
        · have hy' := eq_false hy
          simp [-More_nor, hi', i0, hav, hs', ht', hne, hWn, hWn', xw, hy', hw1]
          refine ⟨by omega, by omega, by omega, by omega, More_of (i + 1) (by simp) rfl ⟨by omega, Nmt_succ (fun h => hy h.2.2) i2⟩ (by omega)⟩
      · have ht' := eq_false ht
        simp [-More_nor, hi', i0, hav, hs', ht']
        refine ⟨by omega, More_of (i + 1) (by simp) rfl ⟨by omega, Nmt_succ (fun h => ht h.2.1) i2⟩ (by omega)⟩
    · have hs' := eq_false hs
      simp [-More_nor, hi', i0, hav, hs']
      refine ⟨by omega, More_of (i + 1) (by simp) rfl ⟨by omega, Nmt_succ (fun h => hs h.1) i2⟩ (by omega)⟩
  · obtain ⟨j, hj, rfl⟩ := List.mem_iff_getElem.1 hcX
    have := i2 (j : Int) (by omega) (by omega)
    rw [ix_nat hj] at this
    exact absurd ⟨k1, k2, by rw [k3]; simp [ix]⟩ this
end Ab
