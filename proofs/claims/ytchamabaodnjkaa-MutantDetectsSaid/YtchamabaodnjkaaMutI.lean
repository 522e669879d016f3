/- Survivors of words, by the program and by the document. Condition: none. -/
import Derived.Test.YtchamabaodnjkaaMutH
import Derived.Test.YtchamabaodnjkaaEqv
import Derived.Test.YtchamabaodnjkaaRunR
import Derived.Test.YtchamabaodnjkaaViewT
set_option linter.all false
set_option maxRecDepth 100000
set_option maxHeartbeats 4000000
namespace Ab
/-- Whether two machines have the same output words for words. -/
def pass (m n : Mly) (ws : List (List Int)) : Bool := ws.all fun w => decide ((m.from m.start w).1 = (n.from n.start w).1)
theorem pass_no {m n : Mly} {ws : List (List Int)} {i : Int} (i0 : 0 ≤ i) (i1 : i < ws.length) (h : ¬ (m.from m.start (ix ws i)).1 = (n.from n.start (ix ws i)).1) : pass m n ws = false := by
  unfold pass
  rw [List.all_eq_false]
  exact ⟨_, ix_mem i0 i1, by simpa using h⟩
theorem pass_yes {m n : Mly} {ws : List (List Int)} (h : ∀ i, 0 ≤ i → i < (ws.length : Int) → (m.from m.start (ix ws i)).1 = (n.from n.start (ix ws i)).1) : pass m n ws = true := by
  unfold pass
  rw [List.all_eq_true]
  intro w hw
  obtain ⟨j, hj, rfl⟩ := List.mem_iff_getElem.1 hw
  have := h j (by omega) (by omega)
  rw [ix_nat hj] at this
  simpa using this
theorem passes_s (m n : Mly) (hm : m.fits) (hn : n.fits) (ws : List (List Int)) (hl : (ws.length : Int) ≤ 9223372036854775807) (hw : ∀ w ∈ ws, (w.length : Int) ≤ 9223372036854775807) : PC F_mutant_passes [m.av, n.av, iLL ws] = some (.bool (pass m n ws)) := by
  refine PCx_of (go_mutant_passes rfl ?_)
  simp
  refine W_iter (fun i : Int => [(3, .int i)]) (fun _ => []) (fun i => 0 ≤ i ∧ i ≤ ws.length ∧ ∀ j, 0 ≤ j → j < i → (m.from m.start (ix ws j)).1 = (n.from n.start (ix ws j)).1) (fun i => (ws.length - i).toNat) 0 rfl ⟨by omega, by omega, upto_zero⟩ fun i ⟨i0, i1, i2⟩ => ?_
  by_cases hi : i < ws.length
  · have hwi := hw _ (ix_mem i0 hi)
    have r1 := MRun_s m hm (ix ws i) hwi
    have r2 := MRun_s n hn (ix ws i) hwi
    have e := SEq_s (m.from m.start (ix ws i)).1 (n.from n.start (ix ws i)).1 (by have := from_len m m.start (ix ws i); omega) (by have := from_len n n.start (ix ws i); omega)
    by_cases he : (m.from m.start (ix ws i)).1 = (n.from n.start (ix ws i)).1
    · rw [decide_eq_true he] at e
      simp [-More_nor, hi, i0, r1, r2, e]
      exact ⟨by omega, More_of (i + 1) rfl rfl ⟨by omega, by omega, upto_succ he i2⟩ (by omega)⟩
    · rw [decide_eq_false he] at e
      have hp := pass_no i0 hi he
      simp [-More_nor, hi, i0, r1, r2, e, hp]
  · have hp := pass_yes (m := m) (n := n) (ws := ws) fun j j0 j1 => i2 j j0 (by omega)
    simp [hi, hp]
theorem rpasses_s (m n : Mly) (hm : m.fits) (hn : n.fits) (ws : List (List Int)) (hl : (ws.length : Int) ≤ 9223372036854775807) (hw : ∀ w ∈ ws, (w.length : Int) ≤ 9223372036854775807) : PC F_ref33_passes [m.av, n.av, iLL ws] = some (.bool (pass m n ws)) := by
  refine PCx_of (go_ref33_passes rfl ?_)
  simp
  refine W_iter (fun i : Int => [(3, .int i)]) (fun _ => []) (fun i => 0 ≤ i ∧ i ≤ ws.length ∧ ∀ j, 0 ≤ j → j < i → (m.from m.start (ix ws j)).1 = (n.from n.start (ix ws j)).1) (fun i => (ws.length - i).toNat) 0 rfl ⟨by omega, by omega, upto_zero⟩ fun i ⟨i0, i1, i2⟩ => ?_
  by_cases hi : i < ws.length
  · have hwi := hw _ (ix_mem i0 hi)
    have r1 := RRun_s m hm (ix ws i) hwi
    have r2 := RRun_s n hn (ix ws i) hwi
    have e := Ints_s (m.from m.start (ix ws i)).1 (n.from n.start (ix ws i)).1 (by have := from_len m m.start (ix ws i); omega) (by have := from_len n n.start (ix ws i); omega)
    by_cases he : (m.from m.start (ix ws i)).1 = (n.from n.start (ix ws i)).1
    · rw [decide_eq_true he] at e
      simp [-More_nor, hi, i0, r1, r2, e]
      exact ⟨by omega, More_of (i + 1) rfl rfl ⟨by omega, by omega, upto_succ he i2⟩ (by omega)⟩
    · rw [decide_eq_false he] at e
      have hp := pass_no i0 hi he
      simp [-More_nor, hi, i0, r1, r2, e, hp]
  · have hp := pass_yes (m := m) (n := n) (ws := ws) fun j j0 j1 => i2 j j0 (by omega)
    simp [hi, hp]
/-- The error of the first bad word. -/
def wordsE (ws : List (List Int)) (k : Int) : Int := firstN (fun i => wordE (ix ws i) k) ws.length
/-- Whether a mutation survives. -/
def mlive (m : Mly) (ws : List (List Int)) (x : Mut) : Bool := pass m (m.chg x) ws && (dist m (m.chg x) m.start (m.chg x).start).isSome
def Mly.survL (m : Mly) (ws : List (List Int)) : List Mut := if m.allE ≠ 0 ∨ wordsE ws m.inputs ≠ 0 then [] else m.allL.filter (mlive m ws)
def Mly.survE (m : Mly) (ws : List (List Int)) : Int := if m.allE ≠ 0 then m.allE else wordsE ws m.inputs
theorem allE_val {m : Mly} (h : m.allE = 0) : m.validE = 0 ∧ m.allL = m.allM ∧ m.allM.length ≤ 10000 := by
  have h1 : m.validE = 0 := by
    unfold Mly.allE at h
    split at h
    · rename_i h1; exact absurd h h1
    · rename_i h1; simpa using h1
  have h2 : m.allM.length ≤ 10000 := by
    unfold Mly.allE at h
    rw [if_neg (by simpa using h1)] at h
    split at h
    · simp at h
    · omega
  exact ⟨h1, by unfold Mly.allL; rw [if_neg (by simpa using h)], h2⟩
theorem chg_inputs {m : Mly} {x : Mut} : (m.chg x).inputs = m.inputs := by unfold Mly.chg; split; rfl; split <;> rfl
theorem chg_chk {m : Mly} (hv : m.validE = 0) {x : Mut} (h : x ∈ m.allM) : chkE m (m.chg x) = 0 := by
  have hm := mvalidE_ok hv
  obtain ⟨h1, h2⟩ := allM_fits hm h
  have := ok_valid (chg_ok hm h1 h2)
  unfold chkE
  rw [if_neg (by simpa using hv), if_neg (by simpa using this), if_neg (by rw [chg_inputs]; simp)]
theorem filter_take {p : Mut → Bool} {l : List Mut} {i : Nat} (h : i < l.length) : (l.take (i + 1)).filter p = (l.take i).filter p ++ (if p (ix l (i : Int)) = true then [ix l (i : Int)] else []) := by
  rw [List.take_add_one, List.getElem?_eq_getElem h, ix_nat h, List.filter_append]
  cases hp : p l[i] <;> simp [List.filter_cons, hp]
theorem elm_muL {l : List Mut} {i : Nat} (h : i < l.length) : ix (l.map Mut.av) (i : Int) = (ix l (i : Int)).av := ix_map (by omega) (by omega)
theorem Survivors_f (m : Mly) (hm : m.fits) (ws : List (List Int)) (hl : (ws.length : Int) ≤ 9223372036854775807) (hw : ∀ w ∈ ws, (w.length : Int) ≤ 9223372036854775807) : PF F_mutant_Survivors [m.av, iLL ws] (.tup [muL (m.survL ws), .int (m.survE ws)]) := by
  refine PF_of (go_mutant_Survivors rfl ?_)
  by_cases h0 : m.allE = 0
  case neg =>
    have e1 : m.survL ws = [] := by unfold Mly.survL; rw [if_pos (.inl h0)]
    have e2 : m.survE ws = m.allE := by unfold Mly.survE; rw [if_pos h0]
    rw [e1, e2]
    simp [All_s m hm, h0]
  obtain ⟨hv, hL, hb⟩ := allE_val h0
  have hmo := mvalidE_ok hv
  have hcase : ∀ i : Int, 0 ≤ i → i < ws.length → wordE (ix ws i) m.inputs ≠ 0 → (∀ j, 0 ≤ j → j < i → wordE (ix ws j) m.inputs = 0) → m.survL ws = [] ∧ m.survE ws = wordE (ix ws i) m.inputs := fun i i0 i1 h1 h2 => by
    have e : wordsE ws m.inputs = wordE (ix ws i) m.inputs := firstN_some (f := fun i => wordE (ix ws i) m.inputs) i0 i1 h1 h2
    exact ⟨by unfold Mly.survL; rw [e, if_pos (.inr h1)], by unfold Mly.survE; rw [e, if_neg (by simpa using h0)]⟩
  simp [-More_nor, All_s m hm, h0]
  refine W_iter (fun i : Int => [(4, .int i)]) (fun _ => []) (fun i => 0 ≤ i ∧ i ≤ ws.length ∧ ∀ j, 0 ≤ j → j < i → wordE (ix ws j) m.inputs = 0) (fun i => (ws.length - i).toNat) 0 rfl ⟨by omega, by omega, upto_zero⟩ fun i ⟨i0, i1, i2⟩ => ?_
  by_cases hi : i < ws.length
  · have hc := wCheck_s (ix ws i) m.inputs (hw _ (ix_mem i0 hi))
    by_cases he : wordE (ix ws i) m.inputs = 0
    · simp [-More_nor, hi, i0, hc, he]
      exact ⟨by omega, More_of (i + 1) rfl rfl ⟨by omega, by omega, upto_succ he i2⟩ (by omega)⟩
    · obtain ⟨z1, z2⟩ := hcase i i0 hi he i2
      rw [z1, z2]
      simp [-More_nor, hi, i0, hc, he]
  · have ew : wordsE ws m.inputs = 0 := firstN_none fun j j0 j1 => i2 j j0 (by omega)
    have e1 : m.survL ws = m.allM.filter (mlive m ws) := by unfold Mly.survL; rw [if_neg (by simp [h0, ew]), hL]
    have e2 : m.survE ws = 0 := by unfold Mly.survE; rw [if_neg (by simp [h0]), ew]
    rw [e1, e2]
    rw [hL]
    generalize hX : m.allM = X at *
    simp [-More_nor, hi]
    refine W_iter (fun i : Nat => [(10, .int i), (17, uS 0 ((X.take i).filter (mlive m ws)))]) (fun i => [uB ((X.take i).filter (mlive m ws))]) (fun i => i ≤ X.length) (fun i => X.length - i) 0 (by simp [sets, ucs]) (by omega) ?_
    intro k hk
    by_cases hk' : k < X.length
    · have ft := filter_take (p := mlive m ws) hk'
      have fl : ((X.take k).filter (mlive m ws)).length ≤ k := by
        have := List.length_filter_le (mlive m ws) (X.take k)
        rw [List.length_take] at this; omega
      have hxm : ix X (k : Int) ∈ m.allM := by rw [hX]; exact ix_mem (by omega) (by omega)
      have hel := elm_muL hk'
      obtain ⟨f1, f2⟩ := allM_fits hmo hxm
      have hch := changed_s m hmo (ix X (k : Int)) f1
      have hchk := chg_chk hv hxm
      have hcok := chg_ok hmo f1 f2
      have hps := passes_s m (m.chg (ix X (k : Int))) hm (ok_fits hcok) ws hl hw
      have heq := Equal_s m (m.chg (ix X (k : Int))) hm (ok_fits hcok)
      have hdis : (disE m (m.chg (ix X (k : Int)))).1 = dist m (m.chg (ix X (k : Int))) m.start (m.chg (ix X (k : Int))).start := by unfold disE; rw [if_neg (by simpa using hchk)]
      rw [hdis, hchk] at heq
      have hal : mlive m ws (ix X (k : Int)) = (pass m (m.chg (ix X (k : Int))) ws && (dist m (m.chg (ix X (k : Int))) m.start (m.chg (ix X (k : Int))).start).isSome) := rfl
      generalize m.chg (ix X (k : Int)) = M at *
      generalize (X.take k).filter (mlive m ws) = F at *
      cases hpv : pass m M ws with
      | false =>
        rw [hpv] at hps hal
        rw [hal] at ft
        simp [-More_nor, hk', hel, hch, hps]
        exact ⟨by omega, More_of (k + 1) (by simp [ft]) (by simp [ft]) (by omega) (by omega)⟩
      | true =>
        rw [hpv] at hps hal
        cases hdv : (dist m M m.start M.start).isSome with
        | false =>
          rw [hdv] at heq hal
          rw [hal] at ft
          simp [-More_nor, hk', hel, hch, hps, heq]
          exact ⟨by omega, More_of (k + 1) (by simp [ft]) (by simp [ft]) (by omega) (by omega)⟩
        | true =>
          rw [hdv] at heq hal
          rw [hal] at ft
          have hk5 : (5 * F.length = F.length * kst (some 5)) = True := eq_true (by simp [kst]; omega)
          simp [-More_nor, hk', hel, hch, hps, heq, hk5, ucs_len]
          refine ⟨by split <;> simp, by omega, by omega, More_of (k + 1) (by simp [ft, Nat.mul_add]) (by simp [ft, ucs_app, ucs_one, uc]) (by omega) (by omega)⟩
    · have ek : k = X.length := by omega
      subst ek
      rw [List.take_length]
      have hvw := view_uc (fr := true) (σ := [uB (X.filter (mlive m ws))]) (b := 0) (xs := X.filter (mlive m ws)) rfl
      simp [hvw]
theorem Survivors_s (m : Mly) (hm : m.fits) (ws : List (List Int)) (hl : (ws.length : Int) ≤ 9223372036854775807) (hw : ∀ w ∈ ws, (w.length : Int) ≤ 9223372036854775807) : PC F_mutant_Survivors [m.av, iLL ws] = some (.tup [muL (m.survL ws), .int (m.survE ws)]) := (Survivors_f m hm ws hl hw).pc
theorem RSurvivors_s (m : Mly) (hm : m.fits) (ws : List (List Int)) (hl : (ws.length : Int) ≤ 9223372036854775807) (hw : ∀ w ∈ ws, (w.length : Int) ≤ 9223372036854775807) : PC F_ref33_Survivors [m.av, iLL ws] = some (.tup [muL (m.survL ws), .int (m.survE ws)]) := by
  refine PCx_of (go_ref33_Survivors rfl ?_)
  by_cases h0 : m.allE = 0
  case neg =>
    have e1 : m.survL ws = [] := by unfold Mly.survL; rw [if_pos (.inl h0)]
    have e2 : m.survE ws = m.allE := by unfold Mly.survE; rw [if_pos h0]
    rw [e1, e2]
    simp [RAll_s m hm, h0]
  obtain ⟨hv, hL, hb⟩ := allE_val h0
  have hmo := mvalidE_ok hv
  have hcase : ∀ i : Int, 0 ≤ i → i < ws.length → wordE (ix ws i) m.inputs ≠ 0 → (∀ j, 0 ≤ j → j < i → wordE (ix ws j) m.inputs = 0) → m.survL ws = [] ∧ m.survE ws = wordE (ix ws i) m.inputs := fun i i0 i1 h1 h2 => by
    have e : wordsE ws m.inputs = wordE (ix ws i) m.inputs := firstN_some (f := fun i => wordE (ix ws i) m.inputs) i0 i1 h1 h2
    exact ⟨by unfold Mly.survL; rw [e, if_pos (.inr h1)], by unfold Mly.survE; rw [e, if_neg (by simpa using h0)]⟩
  simp [-More_nor, RAll_s m hm, h0]
  refine W_iter (fun i : Int => [(4, .int i)]) (fun _ => []) (fun i => 0 ≤ i ∧ i ≤ ws.length ∧ ∀ j, 0 ≤ j → j < i → wordE (ix ws j) m.inputs = 0) (fun i => (ws.length - i).toNat) 0 rfl ⟨by omega, by omega, upto_zero⟩ fun i ⟨i0, i1, i2⟩ => ?_
  by_cases hi : i < ws.length
  · have hc := rCheck_s (ix ws i) m.inputs (hw _ (ix_mem i0 hi))
    by_cases he : wordE (ix ws i) m.inputs = 0
    · simp [-More_nor, hi, i0, hc, he]
      exact ⟨by omega, More_of (i + 1) rfl rfl ⟨by omega, by omega, upto_succ he i2⟩ (by omega)⟩
    · obtain ⟨z1, z2⟩ := hcase i i0 hi he i2
      rw [z1, z2]
      simp [-More_nor, hi, i0, hc, he]
  · have ew : wordsE ws m.inputs = 0 := firstN_none fun j j0 j1 => i2 j j0 (by omega)
    have e1 : m.survL ws = m.allM.filter (mlive m ws) := by unfold Mly.survL; rw [if_neg (by simp [h0, ew]), hL]
    have e2 : m.survE ws = 0 := by unfold Mly.survE; rw [if_neg (by simp [h0]), ew]
    rw [e1, e2]
    rw [hL]
    generalize hX : m.allM = X at *
    simp [-More_nor, hi]
    refine W_iter (fun i : Nat => [(6, .int i), (10, uS 0 ((X.take i).filter (mlive m ws)))]) (fun i => [uB ((X.take i).filter (mlive m ws))]) (fun i => i ≤ X.length) (fun i => X.length - i) 0 (by simp [sets, ucs]) (by omega) ?_
    intro k hk
    by_cases hk' : k < X.length
    · have ft := filter_take (p := mlive m ws) hk'
      have fl : ((X.take k).filter (mlive m ws)).length ≤ k := by
        have := List.length_filter_le (mlive m ws) (X.take k)
        rw [List.length_take] at this; omega
      have hxm : ix X (k : Int) ∈ m.allM := by rw [hX]; exact ix_mem (by omega) (by omega)
      have hel := elm_muL hk'
      obtain ⟨f1, f2⟩ := allM_fits hmo hxm
      have hch : PC F_ref33_Apply [m.av, (ix X (k : Int)).av] = some (.tup [(m.chg (ix X (k : Int))).av, .int 0]) := by
        have h := RApply_s m hm (ix X (k : Int))
        have e : m.apply (ix X (k : Int)) = (m.chg (ix X (k : Int)), 0) := by
          unfold Mly.apply
          rw [if_neg (by simpa using hv), if_neg (by simpa using f1), if_neg (by rintro ⟨h1, h2⟩; have := f2 h1; omega)]
        rw [e] at h; exact h
      have hchk := chg_chk hv hxm
      have hcok := chg_ok hmo f1 f2
      have hps := rpasses_s m (m.chg (ix X (k : Int))) hm (ok_fits hcok) ws hl hw
      have heq := REqual_s m (m.chg (ix X (k : Int))) hm (ok_fits hcok)
      have hdis : (disE m (m.chg (ix X (k : Int)))).1 = dist m (m.chg (ix X (k : Int))) m.start (m.chg (ix X (k : Int))).start := by unfold disE; rw [if_neg (by simpa using hchk)]
      rw [hdis, hchk] at heq
      have hal : mlive m ws (ix X (k : Int)) = (pass m (m.chg (ix X (k : Int))) ws && (dist m (m.chg (ix X (k : Int))) m.start (m.chg (ix X (k : Int))).start).isSome) := rfl
      generalize m.chg (ix X (k : Int)) = M at *
      generalize (X.take k).filter (mlive m ws) = F at *
      cases hpv : pass m M ws with
      | false =>
        rw [hpv] at hps hal
        rw [Bool.false_and] at hal
        rw [hal] at ft
        cases hdv : (dist m M m.start M.start).isSome with
        | false =>
          rw [hdv] at heq
          simp [-More_nor, hk', hel, hch, hps, heq]
          exact ⟨by omega, More_of (k + 1) (by simp [ft]) (by simp [ft]) (by omega) (by omega)⟩
        | true =>
          rw [hdv] at heq
          simp [-More_nor, hk', hel, hch, hps, heq]
          exact ⟨by omega, More_of (k + 1) (by simp [ft]) (by simp [ft]) (by omega) (by omega)⟩
      | true =>
        rw [hpv] at hps hal
        cases hdv : (dist m M m.start M.start).isSome with
        | false =>
          rw [hdv] at heq hal
          rw [hal] at ft
          simp [-More_nor, hk', hel, hch, hps, heq]
          exact ⟨by omega, More_of (k + 1) (by simp [ft]) (by simp [ft]) (by omega) (by omega)⟩
        | true =>
          rw [hdv] at heq hal
          rw [hal] at ft
          have hk5 : (5 * F.length = F.length * kst (some 5)) = True := eq_true (by simp [kst]; omega)
          simp [-More_nor, hk', hel, hch, hps, heq, hk5, ucs_len]
          refine ⟨by split <;> simp, by omega, by omega, More_of (k + 1) (by simp [ft, Nat.mul_add]) (by simp [ft, ucs_app, ucs_one, uc]) (by omega) (by omega)⟩
    · have ek : k = X.length := by omega
      subst ek
      rw [List.take_length]
      have hvw := view_uc (fr := false) (σ := [uB (X.filter (mlive m ws))]) (b := 0) (xs := X.filter (mlive m ws)) rfl
      simp [hvw]
end Ab
