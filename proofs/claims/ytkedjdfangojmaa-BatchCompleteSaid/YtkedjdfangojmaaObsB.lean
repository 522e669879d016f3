/- Observations of a machine. Condition: none. -/
import Derived.Test.YtkedjdfangojmaaObsA
set_option linter.all false
set_option maxRecDepth 100000
set_option maxHeartbeats 4000000
namespace Ab
theorem Proper_c (t : Tr) (k : Int) (h1 : wordE t.inp k = 0) (h2 : t.out.length = t.inp.length) (h3 : ∀ x ∈ t.out, 0 ≤ x ∧ x ≤ 1048576) : PC F_ref16_Proper [t.av, .int k] = some (.int 0) := by
  refine PCx_of (go_ref16_Proper rfl ?_)
  have hw := wordE_ok h1
  have hc := rCheck_s t.inp k (by omega)
  rw [h1] at hc
  have hl : (t.out.length : Int) = t.inp.length := by omega
  simp [hc, hl]
  refine W_iter (fun i : Nat => [(4, .int i)]) (fun _ => []) (fun i => i ≤ t.out.length) (fun i => t.out.length - i) 0 (by simp [sets]) (by omega) ?_
  intro i i0
  by_cases hi : i < t.out.length
  · have hx := h3 _ (ix_get (l := t.out) hi)
    simp [-More_nor, hi, show ¬ ix t.out (i : Int) < 0 by omega, show ¬ 1048576 < ix t.out (i : Int) by omega]
    (repeat' apply And.intro) <;> try omega
    exact More_of (i + 1) (by simp) rfl (by omega) (by omega)
  · simp [hi]
theorem Differ_c (a b : Tr) (ha : (a.inp.length : Int) ≤ 1000000) (hb : (b.inp.length : Int) ≤ 1000000) (ha2 : a.out.length = a.inp.length) (hb2 : b.out.length = b.inp.length) (he : ∀ i : Nat, i < comN a.inp b.inp → ix a.out (i : Int) = ix b.out (i : Int)) : PC F_ref16_Differ [a.av, b.av] = some (.int (-1)) := by
  refine PCx_of (go_ref16_Differ rfl ?_)
  have hc := rcommon_s a.inp b.inp (by omega) (by omega)
  have hn := comN_le a.inp b.inp
  generalize comN a.inp b.inp = n at *
  simp [hc]
  refine W_iter (fun i : Nat => [(4, .int i)]) (fun _ => []) (fun i => i ≤ n) (fun i => n - i) 0 (by simp [sets]) (by omega) ?_
  intro i i0
  by_cases hi : i < n
  · have h1 : i < a.out.length := by omega
    have h2 : i < b.out.length := by omega
    have hee : (ix a.out (i : Int) = ix b.out (i : Int)) = True := eq_true (he i hi)
    simp [-More_nor, hi, h1, h2, hee]
    (repeat' apply And.intro) <;> try omega
    exact More_of (i + 1) (by simp) rfl (by omega) (by omega)
  · simp [hi]
theorem comN_take : ∀ {a b : List Int}, a.take (comN a b) = b.take (comN a b)
  | [], b => by simp [comN]
  | _ :: _, [] => by simp [comN]
  | x :: a, y :: b => by
    have := comN_take (a := a) (b := b)
    unfold comN
    split
    · rename_i e
      simp [e, this]
    · simp
/-- A trace of the machine. -/
def Mly.tr (m : Mly) (t : Tr) : Prop := wordE t.inp m.inputs = 0 ∧ t.out = m.outs m.start t.inp
theorem tr_len {m : Mly} {t : Tr} (h : m.tr t) : t.out.length = t.inp.length := by rw [h.2, outs_len]
theorem outs_rng {m : Mly} (hm : m.Ok) : ∀ {w : List Int} {s : Int}, (0 ≤ s ∧ s < (m.next.length : Int)) → (∀ x ∈ w, 0 ≤ x ∧ x < m.inputs) → ∀ y ∈ m.outs s w, 0 ≤ y ∧ y ≤ 1048576
  | [], _, _, _, y, hy => by simp [Mly.outs] at hy
  | a :: w, s, hs, hw, y, hy => by
    have ha := hw a (by simp)
    simp only [Mly.outs, List.mem_cons] at hy
    rcases hy with rfl | hy
    · exact hm.ot s a hs.1 hs.2 ha.1 ha.2
    · exact outs_rng hm (hm.nx s a hs.1 hs.2 ha.1 ha.2) (fun x hx => hw x (by simp [hx])) y hy
theorem outs_take {m : Mly} {w : List Int} {s : Int} {n : Nat} : m.outs s (w.take n) = (m.outs s w).take n := by
  have h := List.take_append_drop n w
  have e : m.outs s w = m.outs s (w.take n) ++ m.outs (m.run s (w.take n)) (w.drop n) := by
    conv => lhs; rw [← h]
    rw [outs_app]
  by_cases hn : n ≤ w.length
  · have e3 : (m.outs s (w.take n)).length = n := by rw [outs_len]; simp; omega
    have e4 : (m.outs s (w.take n)).take n = m.outs s (w.take n) := List.take_of_length_le (by omega)
    rw [e, List.take_append_of_le_length (by omega), e4]
  · have e1 : w.take n = w := List.take_of_length_le (by omega)
    have e2 : (m.outs s w).take n = m.outs s w := List.take_of_length_le (by rw [outs_len]; omega)
    rw [e1, e2]
theorem tr_same {m : Mly} {a b : Tr} (ha : m.tr a) (hb : m.tr b) : ∀ i : Nat, i < comN a.inp b.inp → ix a.out (i : Int) = ix b.out (i : Int) := fun i hi => by
  have h1 := comN_le a.inp b.inp
  have e : a.out.take (comN a.inp b.inp) = b.out.take (comN a.inp b.inp) := by
    rw [ha.2, hb.2, ← outs_take, ← outs_take, comN_take]
  have l1 := tr_len ha
  have l2 := tr_len hb
  rw [ix_nat (by omega), ix_nat (by omega)]
  have e2 := congrArg (fun l => l[i]?) e
  simp only [List.getElem?_take_of_lt hi] at e2
  rw [List.getElem?_eq_getElem (by omega), List.getElem?_eq_getElem (by omega)] at e2
  exact Option.some.inj e2
/-- Observations of the machine. -/
structure Obs.Of (o : Obs) (m : Mly) : Prop where
  inputs : o.inputs = m.inputs
  tr : ∀ t ∈ o.traces, m.tr t
theorem Of.ok {o : Obs} {m : Mly} (h : o.Of m) (hl : (o.traces.length : Int) ≤ 1000000) : o.Ok :=
  ⟨hl, fun t ht => by have := (wordE_ok (h.tr t ht).1).1; omega, fun t ht => tr_len (h.tr t ht)⟩
abbrev obsA (o : Obs) (e : Int) : AV := .tup [o.av, .int e]
theorem Add_s (m : Mly) (hm : m.Ok) (o : Obs) (t : Tr) (ho : o.Of m) (ht : m.tr t) (hl : (o.traces.length : Int) ≤ 9000) : ∃ o' : Obs, PC F_ref16_Add [o.av, t.av] = some (obsA o' 0) ∧ o'.Of m ∧ o'.traces.length ≤ o.traces.length + 1 ∧ (∀ q, o.cov q → o'.cov q) ∧ (t.inp ≠ [] → o'.cov t.inp) := by
  have hlen : ∀ x, m.tr x → (x.inp.length : Int) ≤ 1000000 ∧ (x.out.length : Int) ≤ 1000000 := fun x hx => by
    have h1 := (wordE_ok hx.1).1
    have h2 := tr_len hx
    omega
  obtain ⟨ts, ha, h1, h2, h3, h4⟩ := add_s o t (by omega) (fun x hx => hlen x (ho.tr x hx)) (hlen t ht)
  have hp := Proper_c t o.inputs (by rw [ho.inputs]; exact ht.1) (tr_len ht) (by rw [ht.2]; exact outs_rng hm hm.start (wordE_ok ht.1).2)
  refine ⟨⟨o.inputs, ts⟩, ?_, ⟨ho.inputs, fun y hy => (h1 y hy).elim (fun e => e ▸ ht) (ho.tr y)⟩, h4, fun q hq => add_old h2 h3 hq, fun hne => add_cov h2 h3 hne⟩
  refine PCx_of (go_ref16_Add rfl ?_)
  simp [hp]
  refine W_iter (fun i : Nat => [(6, .int i)]) (fun _ => [⟨some 2, [.int 0, .snil], .live⟩]) (fun i => i ≤ o.traces.length) (fun i => o.traces.length - i) 0 (by simp [sets]) (by omega) ?_
  intro i i0
  by_cases hi : i < o.traces.length
  · have hx := ho.tr _ (ix_get (l := o.traces) hi)
    have hd := Differ_c (ix o.traces (i : Int)) t (hlen _ hx).1 (hlen _ ht).1 (tr_len hx) (tr_len ht) (tr_same hx ht)
    simp [-More_nor, hi, hd]
    (repeat' apply And.intro) <;> try omega
    exact More_of (i + 1) (by simp) rfl (by omega) (by omega)
  · have hts : ¬ 10000 < (ts.length : Int) := by omega
    simp [hi, ha, hts, res_box2]
theorem All_s (m : Mly) (hm : m.Ok) (o : Obs) (l : List Tr) (ho : o.Of m) (ht : ∀ t ∈ l, m.tr t) (hl : (o.traces.length + l.length : Int) ≤ 9000) : ∃ o' : Obs, PC F_ref16_All [o.av, .imm false (l.map Tr.av)] = some (obsA o' 0) ∧ o'.Of m ∧ o'.traces.length ≤ o.traces.length + l.length ∧ (∀ q, o.cov q → o'.cov q) ∧ ∀ t ∈ l, t.inp ≠ [] → o'.cov t.inp := by
  have key : LX L F_ref16_All [o.av, .imm false (l.map Tr.av)] [] (fun v σ' => ∃ o' : Obs, v = obsA o' 0 ∧ o'.Of m ∧ o'.traces.length ≤ o.traces.length + l.length ∧ (∀ q, o.cov q → o'.cov q) ∧ ∀ t ∈ l, t.inp ≠ [] → o'.cov t.inp) := by
    refine go_ref16_All rfl ?_
    simp
    refine W_iter (fun p : Nat × Obs => [(3, .int p.1)]) (fun p => [⟨some 2, [.int 0, .snil], .live⟩, ⟨some 2, [.int p.2.inputs, .imm false (p.2.traces.map Tr.av)], .live⟩]) (fun p => p.1 ≤ l.length ∧ p.2.Of m ∧ p.2.traces.length ≤ o.traces.length + p.1 ∧ (∀ q, o.cov q → p.2.cov q) ∧ ∀ j : Nat, j < p.1 → (ix l (j : Int)).inp ≠ [] → p.2.cov (ix l (j : Int)).inp) (fun p => l.length - p.1) (0, o) (by simp [sets]) ⟨by simp, ho, by simp, fun q h => h, fun j h => by dsimp only at h; omega⟩ ?_
    rintro ⟨i, p⟩ ⟨i0, i1, i2, i3, i4⟩
    dsimp only at i0 i1 i2 i3 i4 ⊢
    by_cases hi : i < l.length
    · obtain ⟨o', ha, a1, a2, a3, a4⟩ := Add_s m hm p (ix l (i : Int)) i1 (ht _ (ix_get hi)) (by omega)
      simp [-More_nor, hi, ha]
      (repeat' apply And.intro) <;> try omega
      exact More_of (i + 1, o') (by simp) (by simp) ⟨by dsimp only; omega, a1, by dsimp only; omega, fun q hq => a3 q (i3 q hq), fun j hj hne => by
        by_cases e : j = i
        · subst e; exact a4 hne
        · exact a3 _ (i4 j (by dsimp only at hj; omega) hne)⟩ (by dsimp only; omega)
    · have ei : i = l.length := by omega
      subst ei
      simp [hi, res_box2]
      exact ⟨p, ⟨rfl, rfl⟩, i1, i2, i3, fun t ht hne => by
        obtain ⟨j, hj, e⟩ := List.mem_iff_getElem.1 ht
        have e' : ix l (j : Int) = t := by rw [ix_nat hj, e]
        have := i4 j hj (by rw [e']; exact hne)
        rwa [e'] at this⟩
  obtain ⟨v, σ', h, o', rfl, h1, h2, h3, h4⟩ := LX_s key
  exact ⟨o', by simp only [PC, PCx, h]; rfl, h1, h2, h3, h4⟩
def Mly.trs (m : Mly) (ws : List (List Int)) : List Tr := ws.map fun w => ⟨w, m.outs m.start w⟩
abbrev trsA (l : List Tr) (e : Int) : AV := .tup [.imm false (l.map Tr.av), .int e]
def Mly.trsE (m : Mly) (ws : List (List Int)) : Int := if m.validE ≠ 0 then m.validE else wordsE ws m.inputs
theorem Traces_s (m : Mly) (h : m.fits) (ws : List (List Int)) (hl : (ws.length : Int) ≤ 9000) (hw : ∀ w ∈ ws, (w.length : Int) ≤ 9223372036854775807) : PC F_ref06_Traces [m.av, iLL ws] = some (trsA (if m.trsE ws ≠ 0 then [] else m.trs ws) (m.trsE ws)) := by
  refine PCx_of (go_ref06_Traces rfl ?_)
  have hv := rmValid_s m h
  unfold Mly.trsE
  by_cases e1 : m.validE = 0
  · rw [e1] at hv
    have hm := mvalidE_ok e1
    have h10 : ¬ 10000 < (ws.length : Int) := by omega
    unfold wordsE
    simp [e1, hv, h10]
    refine W_iter (fun i : Nat => [(4, .int i), (6, .sl 0 (2 * i) 0 i)]) (fun i => [⟨some 2, tcs (m.trs (ws.take i)), if i = 0 then .nul else .live⟩]) (fun i => i ≤ ws.length ∧ ∀ j : Int, 0 ≤ j → j < i → wordE (ix ws j) m.inputs = 0) (fun i => ws.length - i) 0 (by simp [sets, Mly.trs, tcs]) ⟨by omega, fun j h1 h2 => by omega⟩ ?_
    intro i ⟨i0, i1⟩
    have hlen : (tcs (m.trs (ws.take i))).length = 2 * i := by rw [tcs_len]; simp [Mly.trs]; omega
    by_cases hi : i < ws.length
    · have hc := rCheck_s (ix ws (i : Int)) m.inputs (hw _ (ix_get hi))
      by_cases he : wordE (ix ws (i : Int)) m.inputs = 0
      · rw [he] at hc
        have hwk := wordE_ok he
        have hou := ROuts_s m hm m.start hm.start (ix ws (i : Int)) (by omega) hwk.2
        have hj : PC F_ref01_Join [.imm false [iL (ix ws (i : Int))]] = some (iL (ix ws (i : Int))) := by
          have := RJoin_s [ix ws (i : Int)] (by simp) (by simp; omega)
          rwa [show [ix ws (i : Int)].flatten = ix ws (i : Int) by simp] at this
        have t1 : m.trs (ws.take (i + 1)) = m.trs (ws.take i) ++ [⟨ix ws (i : Int), m.outs m.start (ix ws (i : Int))⟩] := by
          unfold Mly.trs
          rw [List.take_add_one, List.getElem?_eq_getElem hi, ix_nat hi, List.map_append]; rfl
        have hk2 : (2 * i = i * kst (some 2)) = True := eq_true (by simp [kst]; omega)
        simp [-More_nor, hi, hc, hou, hj, hlen, hk2]
        (repeat' apply And.intro) <;> first | omega | (split <;> simp; done) | skip
        exact More_of (i + 1) (by simp [Nat.mul_add]) (by rw [t1]; simp [tcs_app, tcs_one, tc]) ⟨by omega, by
          have := upto_succ (P := fun j => wordE (ix ws j) m.inputs = 0) (i := (i : Int)) he i1
          simpa using this⟩ (by omega)
      · have hf := firstN_some (f := fun i => wordE (ix ws i) m.inputs) (n := ws.length) (i := (i : Int)) (by omega) (by omega) he i1
        simp [hi, hc, he, hf]
    · have ei : i = ws.length := by omega
      subst ei
      have hf := firstN_none (f := fun i => wordE (ix ws i) m.inputs) (n := ws.length) i1
      rw [List.take_length] at hlen ⊢
      have hv := view_tc (σ := [⟨some 2, tcs (m.trs ws), if ws.length = 0 then .nul else .live⟩]) (k := 9) (b := 0) (xs := m.trs ws) (n := ws.length) (u := 2 * ws.length) (st := if ws.length = 0 then .nul else .live) rfl (by split <;> simp) (by simp [Mly.trs]) rfl
      have hv' : view [⟨some 2, tcs (m.trs ws), if ws = [] then .nul else .live⟩] false vd (.sl 0 (2 * ws.length) 0 ws.length) = some (.imm false ((m.trs ws).map Tr.av)) := by
        by_cases h0 : ws = []
        · subst h0; exact hv
        · rw [if_neg (by simpa using h0)] at hv; rw [if_neg h0]; exact hv
      simp [-List.map_map, hf, hv']
  · simp [e1, hv]
theorem trs_of {m : Mly} {ws : List (List Int)} (hE : ∀ w ∈ ws, wordE w m.inputs = 0) : ∀ t ∈ m.trs ws, m.tr t := fun t ht => by
  obtain ⟨w, hw, rfl⟩ := List.mem_map.1 ht
  exact ⟨hE w hw, rfl⟩
theorem Of_s (m : Mly) (h : m.fits) (ws : List (List Int)) (hl : (ws.length : Int) ≤ 9000) (hw : ∀ w ∈ ws, (w.length : Int) ≤ 9223372036854775807) : ∃ (o : Obs) (e : Int), PC F_ref16_Of [m.av, iLL ws] = some (obsA o e) ∧ (e = 0 → m.validE = 0 ∧ m.Ok ∧ o.Of m ∧ o.traces.length ≤ ws.length) := by
  have hT := Traces_s m h ws hl hw
  by_cases hE : m.trsE ws = 0
  · have e1 : m.validE = 0 := by
      refine Classical.byContradiction fun e => ?_
      unfold Mly.trsE at hE; rw [if_pos e] at hE; exact e hE
    have hm := mvalidE_ok e1
    have e2 : wordsE ws m.inputs = 0 := by unfold Mly.trsE at hE; rwa [if_neg (by simpa using e1)] at hE
    have hEw : ∀ w ∈ ws, wordE w m.inputs = 0 := fun w hm => by
      obtain ⟨j, hj, e⟩ := List.mem_iff_getElem.1 hm
      have := firstN_eq.1 e2 j (by omega) (by omega)
      rwa [ix_nat hj, e] at this
    rw [hE] at hT
    simp only [ne_eq, not_true_eq_false, if_false] at hT
    obtain ⟨o', ha, a1, a2, _, _⟩ := All_s m hm ⟨m.inputs, []⟩ (m.trs ws) ⟨rfl, fun t ht => by simp at ht⟩ (trs_of hEw) (by simp [Mly.trs]; omega)
    have ha' : PC F_ref16_All [.agg [.int m.inputs, .imm false []], .imm false ((m.trs ws).map Tr.av)] = some (obsA o' 0) := ha
    refine ⟨o', 0, ?_, fun _ => ⟨e1, hm, a1, by simp [Mly.trs] at a2; omega⟩⟩
    refine PCx_of (go_ref16_Of rfl ?_)
    simp [-List.map_map, hT, ha', res_box2]
  · rw [if_pos hE] at hT
    have hT' : PC F_ref06_Traces [m.av, iLL ws] = some (.tup [.imm false [], .int (m.trsE ws)]) := hT
    refine ⟨⟨0, []⟩, m.trsE ws, ?_, fun e => absurd e hE⟩
    refine PCx_of (go_ref16_Of rfl ?_)
    simp [hT', hE, res_box2]
theorem Has_s (l : List (List Int)) (w : List Int) (hl : (l.length : Int) ≤ 1000000) (hw : ∀ x ∈ l, (x.length : Int) ≤ 1000000) (hx : w ∈ l) : PC F_ref02_Has [iLL l, iL w] = some (.bool true) := by
  refine PCx_of (go_ref02_Has rfl ?_)
  simp
  refine W_iter (fun i : Nat => [(2, .int i)]) (fun _ => []) (fun i => i ≤ l.length ∧ ∀ j : Nat, j < i → ¬ ix l (j : Int) = w) (fun i => l.length - i) 0 (by simp [sets]) ⟨by omega, fun j h => by omega⟩ ?_
  intro i ⟨i0, i1⟩
  by_cases hi : i < l.length
  · have hs := rsame_s (ix l (i : Int)) w (by have := hw _ (ix_get hi); omega) (by have := hw w hx; omega)
    by_cases hc : ix l (i : Int) = w
    · rw [decide_eq_true hc] at hs
      simp [hi, hs]
    · rw [decide_eq_false hc] at hs
      simp [-More_nor, hi, hs]
      (repeat' apply And.intro) <;> try omega
      exact More_of (i + 1) (by simp) rfl ⟨by omega, fun j hj => by
        by_cases e : j = i
        · subst e; exact hc
        · exact i1 j (by omega)⟩ (by omega)
  · exfalso
    obtain ⟨j, hj, e⟩ := List.mem_iff_getElem.1 hx
    exact i1 j (by omega) (by rw [ix_nat hj, e])
end Ab
