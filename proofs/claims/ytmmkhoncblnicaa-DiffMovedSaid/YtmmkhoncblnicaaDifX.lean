/- The transitions that differ between matched states, as the program finds them. Condition: none. -/
import Derived.Test.YtmmkhoncblnicaaDifV
set_option linter.all false
set_option maxRecDepth 100000
set_option maxHeartbeats 4000000
namespace Ab
theorem mbad_ok {b : Mly} {M : List Int} (h : M.any (mbad b) = false) {s : Int} (h0 : 0 ≤ s) (h1 : s < M.length) : -1 ≤ ix M s ∧ ix M s < b.next.length := by
  have := List.any_eq_false.1 h (ix M s) (ix_mem h0 h1)
  unfold mbad at this
  simp at this
  omega
theorem cgc_low {m : Nat} {l : List Cg} : (cgc l).all (lowv m) = true := by
  induction l with
  | nil => rfl
  | cons c l ih =>
    have e : cgc (c :: l) = [iL c.w, .int c.s, .int c.t, .int c.f, .int c.u] ++ cgc l := by simp [cgc]
    rw [e, List.all_append, ih]
    rfl
theorem Moved_s (a b : Mly) (ha : a.fits) (hb : b.fits) (M : List Int) (hM : (M.length : Int) ≤ 9223372036854775807) : PC F_diff_Moved [a.av, b.av, iL M] = some (.tup [.imm false ((mvA a b M).1.map Cg.av), .int (mvA a b M).2]) := by
  refine PCx_of (go_diff_Moved rfl ?_)
  have hc := dcheck_s a b ha hb
  by_cases h0 : chkE a b = 0
  case neg =>
    have e : mvA a b M = ([], chkE a b) := by unfold mvA; rw [if_pos h0]
    rw [e]
    simp [hc, h0]
  rw [h0] at hc
  obtain ⟨va, vb, hi⟩ := chkE_ok h0
  have hoa := mvalidE_ok va
  have hob := mvalidE_ok vb
  have hin := hoa.inputs
  have hsa := hoa.states
  have hsb := hob.states
  have hla := hoa.len
  have hlb := hob.len
  have hA := Acc_s a ha
  rw [acc_ok va] at hA
  have hmn := many_s b hb M hM
  have hAn : mvA a b M = if M.length ≠ a.next.length ∨ M.any (mbad b) = true then ([], 1) else if 10000 < (movs a b M).length then ([], 11) else (movs a b M, 0) := by unfold mvA; rw [if_neg (by omega)]
  by_cases hml : M.length = a.next.length
  case neg =>
    rw [if_pos (.inl hml)] at hAn
    rw [hAn]
    have hml' : ((M.length : Int) = (a.next.length : Int)) = False := eq_false (by omega)
    have hml2 : (M.length = a.next.length) = False := eq_false hml
    simp [hc, hml', hml2]
  cases hbd : M.any (mbad b) with
  | true =>
    rw [if_pos (.inr hbd)] at hAn
    rw [hAn]
    rw [hbd] at hmn
    simp [hc, hml, hmn]
  | false =>
    rw [if_neg (by rw [hbd]; simp [hml])] at hAn
    rw [hbd] at hmn
    have hf := places_bf a hoa a.start hoa.start
    have hle := hf.bq.le
    have hfit := movs_fit (b := b) (M := M) hoa
    have hasc := movs_asc (b := b) (M := M) hoa
    have hX : movs a b M = (gfails (mnx a b M) a.inputs (a.places a.start)).map (mcg a b M) := rfl
    rw [hAn]
    generalize movs a b M = X at *
    generalize a.places a.start = P at *
    simp [-List.map_map, -More_nor, hc, hml, hmn, hA]
    refine W_iter (fun i : Int => [(9, .int i), (20, .sl 0 (5 * (moo a b M P i 0).length) 0 (moo a b M P i 0).length)]) (fun i => [⟨some 5, cgc (moo a b M P i 0), stOf (moo a b M P i 0)⟩]) (fun i => 0 ≤ i ∧ i ≤ P.length) (fun i => (P.length - i).toNat) 0 (by simp [sets, moo_zero, cgc]) (by omega) ?_
    intro i ⟨i0, i1⟩
    refine WK_lexd rfl ?_
    by_cases hi' : i < P.length
    · have g1 : ix (P.map (·.1)) i = (ix P i).1 := ix_map i0 hi'
      have g2 : ix (P.map (·.2)) i = (ix P i).2 := ix_map i0 hi'
      have hrg := hf.bq.rng _ (ix_mem i0 hi')
      have hln := hf.bq.len i i0 hi'
      have hob2 : (i.toNat + 1) * a.inputs.toNat ≤ 129 * 64 := Nat.mul_le_mul (by omega) (by omega)
      have hol := fun x (x1 : x ≤ a.inputs) => moo_len (a := a) (b := b) (M := M) (P := P) (i := i) (x := x) i0 (by omega) x1
      have hMi := mbad_ok hbd hrg.1 (by omega)
      have hs1 : (ix P i).1 < (M.length : Int) := by omega
      by_cases ht : ix M (ix P i).1 < 0
      · have hen : moo a b M P (i + 1) 0 = moo a b M P i 0 := by rw [moo_next i0 hi', moo_skip ht]
        simp [-List.map_map, -More_nor, hi', i0, g1, g2, hrg.1, hrg.2, hs1, ht, cgc_low]
        refine ⟨by omega, More_of (i + 1) (by simp [hen]) (by simp [hen]) (by omega) (by omega)⟩
      · simp [-List.map_map, -More_nor, hi', i0, g1, g2, hrg.1, hrg.2, hs1, ht]
        refine W_iter (fun x : Int => [(14, .int x), (20, .sl 0 (5 * (moo a b M P i x).length) 0 (moo a b M P i x).length)]) (fun x => [⟨some 5, cgc (moo a b M P i x), stOf (moo a b M P i x)⟩]) (fun x => 0 ≤ x ∧ x ≤ a.inputs) (fun x => (a.inputs - x).toNat) 0 (by simp [sets]) (by omega) ?_
        intro x ⟨x0, x1⟩
        refine WK_lexd rfl ?_
        by_cases hx : x < a.inputs
        · have hj := join_i (ix P i).2 x (by omega)
          have hox := hol x (by omega)
          have ht0 : 0 ≤ ix M (ix P i).1 := by omega
          have ht1 : ix M (ix P i).1 < (b.next.length : Int) := hMi.2
          have hto : ix M (ix P i).1 < (b.out.length : Int) := by omega
          have hso : (ix P i).1 < (a.out.length : Int) := by omega
          have hra := hoa.row _ hrg.1 hrg.2
          have hrb := hob.row _ ht0 ht1
          have hxb : x < b.inputs := by omega
          have hna := hoa.nx _ x hrg.1 hrg.2 x0 hx
          have hsM : ix (ix a.next (ix P i).1) x < (M.length : Int) := by omega
          by_cases ho : ix (ix a.out (ix P i).1) x = ix (ix b.out (ix M (ix P i).1)) x
          · by_cases hn : ix M (ix (ix a.next (ix P i).1) x) = ix (ix b.next (ix M (ix P i).1)) x
            · have hex : moo a b M P i (x + 1) = moo a b M P i x := moo_no x0 (by unfold mnx; rw [if_neg ht, if_pos ⟨ho, hn⟩]; simp)
              have ho' := eq_true ho
              have hn' := eq_true hn
              simp [-List.map_map, -More_nor, hx, x0, i0, hi', g1, g2, hj, hrg.1, hrg.2, ht0, ht1, hto, hso, hra.1, hra.2, hrb.1, hrb.2, hxb, hna.1, hsM, ho', hn', cgc_low]
              refine ⟨by omega, More_of (x + 1) (by simp [hex]) (by simp [hex]) (by omega) (by omega)⟩
            · have hex := moo_hit (a := a) (b := b) (M := M) (P := P) (i := i) x0 (by unfold mnx; rw [if_neg ht, if_neg (fun h => hn h.2)])
              have hmc : mcg a b M ((ix P i).1, (ix P i).2 ++ [x], x) = ⟨(ix P i).2 ++ [x], (ix P i).1, ix M (ix P i).1, ix (ix a.next (ix P i).1) x, ix (ix b.next (ix M (ix P i).1)) x⟩ := by unfold mcg; rw [if_pos ho]
              rw [hmc] at hex
              have ho' := eq_true ho
              have hn' := eq_false hn
              generalize moo a b M P i x = O at *
              have hk5 : (5 * O.length = O.length * kst (some 5)) = True := eq_true (by simp [kst]; omega)
              simp [-List.map_map, -More_nor, hx, x0, i0, hi', g1, g2, hj, hrg.1, hrg.2, ht0, ht1, hto, hso, hra.1, hra.2, hrb.1, hrb.2, hxb, hna.1, hsM, ho', hn', cgc_low, hk5, cgc_len]
              refine ⟨by omega, by omega, More_of (x + 1) (by simp [hex, Nat.mul_add]) (by simp [hex, cgc_app, cgc_one, iL]) (by omega) (by omega)⟩
          · have hex := moo_hit (a := a) (b := b) (M := M) (P := P) (i := i) x0 (by unfold mnx; rw [if_neg ht, if_neg (fun h => ho h.1)])
            have hmc : mcg a b M ((ix P i).1, (ix P i).2 ++ [x], x) = ⟨(ix P i).2 ++ [x], (ix P i).1, ix M (ix P i).1, ix (ix a.out (ix P i).1) x, ix (ix b.out (ix M (ix P i).1)) x⟩ := by unfold mcg; rw [if_neg ho]
            rw [hmc] at hex
            have ho' := eq_false ho
            generalize moo a b M P i x = O at *
            have hk5 : (5 * O.length = O.length * kst (some 5)) = True := eq_true (by simp [kst]; omega)
            simp [-List.map_map, -More_nor, hx, x0, i0, hi', g1, g2, hj, hrg.1, hrg.2, ht0, ht1, hto, hso, hra.1, hra.2, hrb.1, hrb.2, hxb, ho', cgc_low, hk5, cgc_len]
            refine ⟨by omega, by omega, More_of (x + 1) (by simp [hex, Nat.mul_add]) (by simp [hex, cgc_app, cgc_one, iL]) (by omega) (by omega)⟩
        · have hxi : x = a.inputs := by omega
          subst hxi
          have hen : moo a b M P (i + 1) 0 = moo a b M P i a.inputs := moo_next i0 hi'
          simp [-List.map_map, -More_nor, cgc_low]
          refine ⟨by omega, More_of (i + 1) (by simp [hen]) (by simp [hen]) (by omega) (by omega)⟩
    · have hexe : moo a b M P i 0 = X := by rw [hX]; exact moo_end (by omega)
      rw [hexe]
      have hni : ¬ i < (P.length : Int) := hi'
      by_cases hl : 10000 < X.length
      · have e := dsorted_x (σ := [⟨some 5, cgc X, stOf X⟩]) (b := 0) (n := 5 * X.length) (m := X.length) (by omega)
        simp [-List.map_map, hni, e, hl, cgc_low]
      · have e := dsorted_l (σ := [⟨some 5, cgc X, stOf X⟩]) (b := 0) (n := 5 * X.length) (m := X.length) rfl rfl rfl (by omega) hfit hasc
        have hv := fun fr => view_cg (σ := [⟨some 5, cgc X, stOf X⟩]) (b := 0) (n := 5 * X.length) (m := X.length) (k := 9) (fr := fr) rfl rfl rfl
        simp [-List.map_map, hni, e, hl, vd, hv, cgc_low]
end Ab
