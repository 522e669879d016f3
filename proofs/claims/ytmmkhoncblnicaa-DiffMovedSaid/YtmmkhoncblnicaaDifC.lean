/- The changes that the program finds. Condition: none. -/
import Derived.Test.YtmmkhoncblnicaaDifB
set_option linter.all false
set_option maxRecDepth 100000
set_option maxHeartbeats 4000000
namespace Ab
/-- What Explain answers. -/
def exA (a b : Mly) : List Cg × Int := if chkE a b ≠ 0 then ([], chkE a b) else if 10000 < (exps a b).length then ([], 11) else (exps a b, 0)
theorem exps_fit {a b : Mly} (ha : a.Ok) (hb : b.Ok) (hi : a.inputs = b.inputs) : cgFit (exps a b) := by
  have hG := pgr ha hb hi
  have ok0 : pok a b (a.start, b.start) := ⟨ha.start, hb.start⟩
  have hsa := ha.states
  have hsb := hb.states
  obtain ⟨i, _, h⟩ := gplaces_gi hG ok0
  have hN : a.next.length * b.next.length ≤ 128 * 128 := Nat.mul_le_mul (by omega) (by omega)
  have hle := h.gq.le hG
  intro c hc
  unfold exps at hc
  obtain ⟨x, hx, rfl⟩ := List.mem_map.1 hc
  obtain ⟨p, hp, _, _, _, e⟩ := gfails_mem.1 hx
  obtain ⟨j, hj, rfl⟩ := List.mem_iff_getElem.1 hp
  have := h.gq.len (j : Int) (by omega) (by unfold ppl at hj; omega)
  rw [ix_nat (by unfold ppl at hj; exact hj)] at this
  show ((x.2.1.length : Nat) : Int) ≤ 1000000
  rw [e]
  simp only [List.length_append, List.length_singleton]
  unfold ppl at hj ⊢
  omega
theorem pT_qc3 {q : List P3} {n : Int} {K : AV → Prop} {t : Tk K} (h0 : 0 ≤ n) (h1 : n < q.length) : pT (qc q) (0 + n.toNat * 3) (some 3) K t = K (.agg [.int (ix q n).1.1, .int (ix q n).1.2, wB (true, (ix q n).2)]) := by
  have e := qc_drop (q := q) (n := n.toNat) (by omega)
  have hn : ((n.toNat : Nat) : Int) = n := by omega
  rw [hn] at e
  rw [Nat.zero_add]
  show optK (if n.toNat * 3 + 3 ≤ (qc q).length then some (AV.agg (((qc q).drop (n.toNat * 3)).take 3)) else none) K = _
  rw [if_pos (by rw [qc_len]; omega), e, optK_some]
  rfl
theorem li1_wB {p : Bool × List Int} {K : AV → Prop} : li1 (.pimm (wB p)) none K = K (wB p) := by
  obtain ⟨c, w⟩ := p
  cases c <;> cases w <;> rfl
theorem Explain_s (a b : Mly) (ha : a.fits) (hb : b.fits) : PC F_diff_Explain [a.av, b.av] = some (.tup [.imm false ((exA a b).1.map Cg.av), .int (exA a b).2]) := by
  have hc := dcheck_s a b ha hb
  refine PCx_of (go_diff_Explain rfl ?_)
  by_cases h0 : chkE a b = 0
  case neg =>
    have e : exA a b = ([], chkE a b) := by unfold exA; rw [if_pos h0]
    rw [e]
    simp [hc, h0]
  rw [h0] at hc
  obtain ⟨va, vb, hi⟩ := chkE_ok h0
  have hoa := mvalidE_ok va
  have hob := mvalidE_ok vb
  have hG := pgr hoa hob hi
  have hin := hoa.inputs
  have hsa := hoa.states
  have hsb := hob.states
  have hla := hoa.len
  have hlb := hob.len
  have hfit := exps_fit hoa hob hi
  have hasc := exps_asc hoa hob hi
  have ok0 : pok a b (a.start, b.start) := ⟨hoa.start, hob.start⟩
  have hNb : a.next.length * b.next.length ≤ 128 * 128 := Nat.mul_le_mul (by omega) (by omega)
  have hP : gplaces (pnx a b) a.inputs (a.next.length * b.next.length) (a.start, b.start) = ppl a b := rfl
  have hX : exps a b = (gfails (pnx a b) a.inputs (ppl a b)).map (cgOf a b) := rfl
  have hA : exA a b = if 10000 < (exps a b).length then ([], 11) else (exps a b, 0) := by unfold exA; rw [if_neg (by omega)]
  generalize exA a b = A at *
  generalize exps a b = X at *
  generalize a.next.length * b.next.length = N at *
  generalize ppl a b = P at *
  simp [-More_nor, hc, kf2, findM]
  refine W_iter (fun p : Int × List P3 => [(6, .int p.1), (7, .sl 1 (3 * p.2.length) 0 p.2.length), (14, .sl 2 (5 * (exo a b P p.1 0).length) 0 (exo a b P p.1 0).length)]) (fun p => [⟨some 0, [], .map (sm p.2)⟩, ⟨some 3, qc p.2, .live⟩, ⟨some 5, cgc (exo a b P p.1 0), stOf (exo a b P p.1 0)⟩])
    (fun p => p.1 ≤ p.2.length ∧ Gst (pnx a b) a.inputs (pok a b) N (a.start, b.start) p.1 0 p.2) (fun p => (N + 1 - p.1).toNat) (0, [((a.start, b.start), [])]) (by simp [sets, qc_one, wB, catR, exo_zero, cgc, sm]) ⟨by simp, Gst.init hG ok0⟩ ?_
  rintro ⟨i, q⟩ ⟨i1, hq⟩
  dsimp only at i1 hq ⊢
  have i0 := hq.i0
  have hql := hq.gi.gq.le hG
  by_cases hi' : i < q.length
  · have hp := hq.gi.gq.rng _ (ix_mem i0 hi')
    have hol := fun x (x1 : x ≤ a.inputs) => exo_len (a := a) (b := b) (P := P) (i := i) (x := x) i0 (by omega) x1
    have hob2 : (i.toNat + 1) * a.inputs.toNat ≤ 16385 * 64 := Nat.mul_le_mul (by omega) (by omega)
    have p2 := fun (K : AV → Prop) (t : Tk K) => pT_qc3 (K := K) (t := t) i0 hi'
    obtain ⟨r0, hr0⟩ := hq.pre hG hi' (Int.le_refl _) (by omega)
    rw [hP] at hr0
    have hPi : ix P i = ix q i := by rw [hr0, ixa_app i0 hi']
    simp [-More_nor, hi', i0, qc_len, ↓p2, noLoc_wB]
    refine W_iter (fun p : Int × List P3 => [(7, .sl 1 (3 * p.2.length) 0 p.2.length), (8, .int p.1), (14, .sl 2 (5 * (exo a b P i p.1).length) 0 (exo a b P i p.1).length)]) (fun p => [⟨some 0, [], .map (sm p.2)⟩, ⟨some 3, qc p.2, .live⟩, ⟨some 5, cgc (exo a b P i p.1), stOf (exo a b P i p.1)⟩])
      (fun p => (0 ≤ p.1 ∧ p.1 ≤ a.inputs) ∧ (i < p.2.length ∧ ix p.2 i = ix q i) ∧ Gst (pnx a b) a.inputs (pok a b) N (a.start, b.start) i p.1 p.2)
      (fun p => (a.inputs - p.1).toNat) (0, q) (by simp [sets]) ⟨by dsimp only; omega, ⟨hi', rfl⟩, hq⟩ ?_
    rintro ⟨x, q'⟩ ⟨⟨x0, x1⟩, ⟨hiq, gx⟩, gq⟩
    dsimp only at x0 x1 hiq gx gq ⊢
    have gql := gq.gi.gq.le hG
    by_cases hx : x < a.inputs
    · have hra := hoa.row _ hp.1.1 hp.1.2
      have hrb := hob.row _ hp.2.1 hp.2.2
      have hna := hoa.nx _ x hp.1.1 hp.1.2 x0 hx
      have hnb := hob.nx _ x hp.2.1 hp.2.2 x0 (by omega)
      have hwl := gq.gi.gq.len i i0 hiq
      rw [gx] at hwl
      have hj := join_w (ix q i).2 x (by omega)
      obtain ⟨⟨q1, q2⟩, q3, q4⟩ := hp
      have hp1o : (ix q i).1.1 < (a.out.length : Int) := by omega
      have hp2o : (ix q i).1.2 < (b.out.length : Int) := by omega
      have hxb : x < b.inputs := by omega
      have hox := hol x (by omega)
      by_cases ho : ix (ix a.out (ix q i).1.1) x = ix (ix b.out (ix q i).1.2) x
      · have hx1 : pnx a b (ix q i).1 x = some (ix (ix a.next (ix q i).1.1) x, ix (ix b.next (ix q i).1.2) x) := by unfold pnx; rw [if_pos ho]
        have ho' : (ix (ix a.out (ix q i).1.1) x = ix (ix b.out (ix q i).1.2) x) = True := eq_true ho
        have hex : exo a b P i (x + 1) = exo a b P i x := exo_no x0 (by rw [hPi, hx1]; simp)
        generalize hu : ix (ix a.next (ix q i).1.1) x = u at *
        generalize hv : ix (ix b.next (ix q i).1.2) x = v at *
        have hf := find_sm (u := u) (v := v) (q := q')
        cases hh : hasG q' (u, v) with
        | true =>
          have hstay : Gst (pnx a b) a.inputs (pok a b) N (a.start, b.start) i (x + 1) q' := gq.stay hG hiq x0 hx (gstep_has (by rw [gx]; exact hx1) hh)
          rw [hh] at hf
          simp [-More_nor, hx, x0, q1, q2, q3, q4, hp1o, hp2o, hra.1, hra.2, hrb.1, hrb.2, hxb, ↓li1_wB, noLoc_wB, cells_wB, notUnd_wB, ho', hu, hv, hj, hf, kf2]
          refine ⟨by omega, More_of (x + 1, q') (by simp [hex]) (by simp [hex]) ⟨by dsimp only; omega, ⟨hiq, gx⟩, hstay⟩ (by dsimp only; omega)⟩
        | false =>
          have hnew : Gst (pnx a b) a.inputs (pok a b) N (a.start, b.start) i (x + 1) (q' ++ [((u, v), (ix q i).2 ++ [x])]) := by
            have := gq.step hG hiq x0 hx
            rw [gstep_new (by rw [gx]; exact hx1) hh, gx] at this
            exact this
          rw [hh] at hf
          have hk3 : (3 * q'.length = q'.length * kst (some 3)) = True := eq_true (by simp [kst]; omega)
          simp [-More_nor, hx, x0, q1, q2, q3, q4, hp1o, hp2o, hra.1, hra.2, hrb.1, hrb.2, hxb, ↓li1_wB, noLoc_wB, cells_wB, notUnd_wB, ho', hu, hv, hj, hf, kf2, hk3, qc_len]
          refine ⟨by omega, by omega, More_of (x + 1, q' ++ [((u, v), (ix q i).2 ++ [x])]) (by simp [hex, Nat.mul_add]) (by simp [hex, qc_app, qc_one, sm_app, sm_one, wB, iL]) ⟨by dsimp only; omega, ⟨by simp; omega, by dsimp only; rw [ixa_app i0 hiq, gx]⟩, hnew⟩ (by dsimp only; omega)⟩
      · have hx1 : pnx a b (ix q i).1 x = none := by unfold pnx; rw [if_neg ho]
        have ho' : (ix (ix a.out (ix q i).1.1) x = ix (ix b.out (ix q i).1.2) x) = False := eq_false ho
        have hex := exo_hit (P := P) (i := i) x0 (by rw [hPi]; exact hx1)
        have hstay : Gst (pnx a b) a.inputs (pok a b) N (a.start, b.start) i (x + 1) q' := gq.stay hG hiq x0 hx (gstep_none (by rw [gx]; exact hx1))
        generalize exo a b P i x = O at *
        have hk5 : (5 * O.length = O.length * kst (some 5)) = True := eq_true (by simp [kst]; omega)
        simp [-More_nor, hx, x0, q1, q2, q3, q4, hp1o, hp2o, hra.1, hra.2, hrb.1, hrb.2, hxb, ↓li1_wB, noLoc_wB, cells_wB, notUnd_wB, ho', hj, hk5, cgc_len]
        rw [hPi] at hex
        refine ⟨by omega, by omega, More_of (x + 1, q') (by simp [hex, Nat.mul_add]) (by simp [hex, cgc_app, cgc_one, iL]) ⟨by dsimp only; omega, ⟨hiq, gx⟩, hstay⟩ (by dsimp only; omega)⟩
    · have hxi : x = a.inputs := by omega
      subst hxi
      have hen : exo a b P (i + 1) 0 = exo a b P i a.inputs := exo_next i0 (by rw [hr0]; simp; omega)
      simp [-More_nor]
      refine ⟨by omega, More_of (i + 1, q') (by simp [hen]) (by simp [hen]) ⟨by dsimp only; omega, gq.next hG hiq⟩ (by dsimp only; omega)⟩
  · have hqP := hq.fin hi'
    rw [hP] at hqP
    have hexe : exo a b P i 0 = X := by rw [hX]; exact exo_end (by rw [← hqP]; omega)
    rw [hexe]
    have hni : ¬ i < (q.length : Int) := hi'
    by_cases hl : 10000 < X.length
    · rw [if_pos hl] at hA
      have e := dsorted_x (σ := [⟨some 0, [], .map (sm q)⟩, ⟨some 3, qc q, .live⟩, ⟨some 5, cgc X, stOf X⟩]) (b := 2) (n := 5 * X.length) (m := X.length) (by omega)
      subst hA
      simp [hni, e]
    · rw [if_neg hl] at hA
      have e := dsorted_l (σ := [⟨some 0, [], .map (sm q)⟩, ⟨some 3, qc q, .live⟩, ⟨some 5, cgc X, stOf X⟩]) (b := 2) (n := 5 * X.length) (m := X.length) rfl rfl rfl (by omega) hfit hasc
      have hv := fun fr => view_cg (σ := [⟨some 0, [], .map (sm q)⟩, ⟨some 3, qc q, .live⟩, ⟨some 5, cgc X, stOf X⟩]) (b := 2) (n := 5 * X.length) (m := X.length) (k := 9) (fr := fr) rfl rfl rfl
      subst hA
      simp [hni, e, vd, hv]
      trace_state
theorem RExplain_s (a b : Mly) (ha : a.fits) (hb : b.fits) : PC F_ref49_Explain [a.av, b.av] = some (.tup [.imm false ((exA a b).1.map Cg.av), .int (exA a b).2]) := by
  have hc := rChk_s a b ha hb
  refine PCx_of (go_ref49_Explain rfl ?_)
  by_cases h0 : chkE a b = 0
  case neg =>
    have e : exA a b = ([], chkE a b) := by unfold exA; rw [if_pos h0]
    rw [e]
    simp [hc, h0]
  rw [h0] at hc
  obtain ⟨va, vb, hi⟩ := chkE_ok h0
  have hoa := mvalidE_ok va
  have hob := mvalidE_ok vb
  have hG := pgr hoa hob hi
  have hin := hoa.inputs
  have hsa := hoa.states
  have hsb := hob.states
  have hla := hoa.len
  have hlb := hob.len
  have ok0 : pok a b (a.start, b.start) := ⟨hoa.start, hob.start⟩
  have hNb : a.next.length * b.next.length ≤ 128 * 128 := Nat.mul_le_mul (by omega) (by omega)
  have hP : gplaces (pnx a b) a.inputs (a.next.length * b.next.length) (a.start, b.start) = ppl a b := rfl
  have hX : exps a b = (gfails (pnx a b) a.inputs (ppl a b)).map (cgOf a b) := rfl
  have hA : exA a b = if 10000 < (exps a b).length then ([], 11) else (exps a b, 0) := by unfold exA; rw [if_neg (by omega)]
  generalize exA a b = A at *
  generalize exps a b = X at *
  generalize a.next.length * b.next.length = N at *
  generalize ppl a b = P at *
  simp [-More_nor, hc]
  refine W_iter (fun p : Int × List P3 => [(5, .int p.1), (6, .sl 0 (3 * p.2.length) 0 p.2.length), (9, .sl 1 (5 * (exo a b P p.1 0).length) 0 (exo a b P p.1 0).length)]) (fun p => [⟨some 3, qc p.2, .live⟩, ⟨some 5, cgc (exo a b P p.1 0), stOf (exo a b P p.1 0)⟩])
    (fun p => p.1 ≤ p.2.length ∧ Gst (pnx a b) a.inputs (pok a b) N (a.start, b.start) p.1 0 p.2) (fun p => (N + 1 - p.1).toNat) (0, [((a.start, b.start), [])]) (by simp [sets, qc_one, wB, catR, exo_zero, cgc]) ⟨by simp, Gst.init hG ok0⟩ ?_
  rintro ⟨i, q⟩ ⟨i1, hq⟩
  dsimp only at i1 hq ⊢
  have i0 := hq.i0
  have hql := hq.gi.gq.le hG
  by_cases hi' : i < q.length
  · have hp := hq.gi.gq.rng _ (ix_mem i0 hi')
    have hol := fun x (x1 : x ≤ a.inputs) => exo_len (a := a) (b := b) (P := P) (i := i) (x := x) i0 (by omega) x1
    have hob2 : (i.toNat + 1) * a.inputs.toNat ≤ 16385 * 64 := Nat.mul_le_mul (by omega) (by omega)
    have p2 := fun (K : AV → Prop) (t : Tk K) => pT_qc3 (K := K) (t := t) i0 hi'
    obtain ⟨r0, hr0⟩ := hq.pre hG hi' (Int.le_refl _) (by omega)
    rw [hP] at hr0
    have hPi : ix P i = ix q i := by rw [hr0, ixa_app i0 hi']
    simp [-More_nor, hi', i0, qc_len, ↓p2, noLoc_wB]
    refine W_iter (fun p : Int × List P3 => [(6, .sl 0 (3 * p.2.length) 0 p.2.length), (7, .int p.1), (9, .sl 1 (5 * (exo a b P i p.1).length) 0 (exo a b P i p.1).length)]) (fun p => [⟨some 3, qc p.2, .live⟩, ⟨some 5, cgc (exo a b P i p.1), stOf (exo a b P i p.1)⟩])
      (fun p => (0 ≤ p.1 ∧ p.1 ≤ a.inputs) ∧ (i < p.2.length ∧ ix p.2 i = ix q i) ∧ Gst (pnx a b) a.inputs (pok a b) N (a.start, b.start) i p.1 p.2)
      (fun p => (a.inputs - p.1).toNat) (0, q) (by simp [sets]) ⟨by dsimp only; omega, ⟨hi', rfl⟩, hq⟩ ?_
    rintro ⟨x, q'⟩ ⟨⟨x0, x1⟩, ⟨hiq, gx⟩, gq⟩
    dsimp only at x0 x1 hiq gx gq ⊢
    have gql := gq.gi.gq.le hG
    by_cases hx : x < a.inputs
    · have hra := hoa.row _ hp.1.1 hp.1.2
      have hrb := hob.row _ hp.2.1 hp.2.2
      have hna := hoa.nx _ x hp.1.1 hp.1.2 x0 hx
      have hnb := hob.nx _ x hp.2.1 hp.2.2 x0 (by omega)
      have hwl := gq.gi.gq.len i i0 hiq
      rw [gx] at hwl
      have hj := ExtW_s (ix q i).2 x (by omega)
      obtain ⟨⟨q1, q2⟩, q3, q4⟩ := hp
      have hp1o : (ix q i).1.1 < (a.out.length : Int) := by omega
      have hp2o : (ix q i).1.2 < (b.out.length : Int) := by omega
      have hxb : x < b.inputs := by omega
      have hox := hol x (by omega)
      by_cases ho : ix (ix a.out (ix q i).1.1) x = ix (ix b.out (ix q i).1.2) x
      · have hx1 : pnx a b (ix q i).1 x = some (ix (ix a.next (ix q i).1.1) x, ix (ix b.next (ix q i).1.2) x) := by unfold pnx; rw [if_pos ho]
        have ho' : (ix (ix a.out (ix q i).1.1) x = ix (ix b.out (ix q i).1.2) x) = True := eq_true ho
        have hex : exo a b P i (x + 1) = exo a b P i x := exo_no x0 (by rw [hPi, hx1]; simp)
        generalize hu : ix (ix a.next (ix q i).1.1) x = u at *
        generalize hv : ix (ix b.next (ix q i).1.2) x = v at *
        simp [-More_nor, hx, x0, q1, q2, q3, q4, hp1o, hp2o, hra.1, hra.2, hrb.1, hrb.2, hxb, ↓li1_wB, noLoc_wB, cells_wB, notUnd_wB, ho', hu, hv, hj]
        refine W_iter (fun k : Nat => [(11, .int k), (12, .bool (hasG (q'.take k) (u, v)))]) (fun _ => [⟨some 3, qc q', .live⟩, ⟨some 5, cgc (exo a b P i x), stOf (exo a b P i x)⟩]) (fun k => k ≤ q'.length) (fun k => q'.length - k) 0 (by simp [sets, hasG]) (by omega) ?_
        intro k hk
        by_cases hk' : k < q'.length
        · have ht := hasG_take (t := (u, v)) hk'
          have gk := qc_get (q := q') (n := (k : Int)) (by omega) (by omega)
          rw [Int.toNat_natCast] at gk
          generalize hasG (q'.take k) (u, v) = B at *
          cases B with
          | true =>
            simp [-More_nor, hk', qc_len, gk]
            exact ⟨by omega, More_of (k + 1) (by simp [ht]) rfl (by omega) (by omega)⟩
          | false =>
            rw [Bool.false_or] at ht
            simp [-More_nor, hk', qc_len, gk]
            refine ⟨fun h1 => ⟨by omega, More_of (k + 1) (by
              rw [ht]
              have e : (decide ((ix q' (k : Int)).1 = (u, v)) : Bool) = decide ((ix q' (k : Int)).1.2 = v) := by
                rw [decide_eq_decide, Prod.ext_iff]; simp [h1]
              simp [e]) rfl (by omega) (by omega)⟩, fun h1 => ⟨by omega, More_of (k + 1) (by
              rw [ht]
              have e : (decide ((ix q' (k : Int)).1 = (u, v)) : Bool) = false := by
                rw [decide_eq_false_iff_not, Prod.ext_iff]; simp [h1]
              simp [e]) rfl (by omega) (by omega)⟩⟩
        · have ek : k = q'.length := by omega
          subst ek
          rw [List.take_length]
          cases hh : hasG q' (u, v) with
          | true =>
            have hst : Gst (pnx a b) a.inputs (pok a b) N (a.start, b.start) i (x + 1) q' := gq.stay hG hiq x0 hx (gstep_has (by rw [gx]; exact hx1) hh)
            simp [-More_nor]
            refine ⟨by omega, More_of (x + 1, q') (by simp [hex]) (by simp [hex]) ⟨by dsimp only; omega, ⟨hiq, gx⟩, hst⟩ (by dsimp only; omega)⟩
          | false =>
            have hnew : Gst (pnx a b) a.inputs (pok a b) N (a.start, b.start) i (x + 1) (q' ++ [((u, v), (ix q i).2 ++ [x])]) := by
              have := gq.step hG hiq x0 hx
              rw [gstep_new (by rw [gx]; exact hx1) hh, gx] at this
              exact this
            have hk3 : (3 * q'.length = q'.length * kst (some 3)) = True := eq_true (by simp [kst]; omega)
            simp [-More_nor, qc_len, hk3]
            refine ⟨by omega, by omega, More_of (x + 1, q' ++ [((u, v), (ix q i).2 ++ [x])]) (by simp [hex, Nat.mul_add]) (by simp [hex, qc_app, qc_one, wB, iL]) ⟨by dsimp only; omega, ⟨by simp; omega, by dsimp only; rw [ixa_app i0 hiq, gx]⟩, hnew⟩ (by dsimp only; omega)⟩
      · have hx1 : pnx a b (ix q i).1 x = none := by unfold pnx; rw [if_neg ho]
        have ho' : (ix (ix a.out (ix q i).1.1) x = ix (ix b.out (ix q i).1.2) x) = False := eq_false ho
        have hex := exo_hit (P := P) (i := i) x0 (by rw [hPi]; exact hx1)
        have hstay : Gst (pnx a b) a.inputs (pok a b) N (a.start, b.start) i (x + 1) q' := gq.stay hG hiq x0 hx (gstep_none (by rw [gx]; exact hx1))
        rw [hPi] at hex
        generalize exo a b P i x = O at *
        have hk5 : (5 * O.length = O.length * kst (some 5)) = True := eq_true (by simp [kst]; omega)
        simp [-More_nor, hx, x0, q1, q2, q3, q4, hp1o, hp2o, hra.1, hra.2, hrb.1, hrb.2, hxb, ↓li1_wB, noLoc_wB, cells_wB, notUnd_wB, ho', hj, hk5, cgc_len]
        refine ⟨by omega, by omega, More_of (x + 1, q') (by simp [hex, Nat.mul_add]) (by simp [hex, cgc_app, cgc_one, iL]) ⟨by dsimp only; omega, ⟨hiq, gx⟩, hstay⟩ (by dsimp only; omega)⟩
    · have hxi : x = a.inputs := by omega
      subst hxi
      have hen : exo a b P (i + 1) 0 = exo a b P i a.inputs := exo_next i0 (by rw [hr0]; simp; omega)
      simp [-More_nor, hx]
      refine ⟨by omega, More_of (i + 1, q') (by simp [hen]) (by simp [hen]) ⟨by dsimp only; omega, gq.next hG hiq⟩ (by dsimp only; omega)⟩
  · have hqP := hq.fin hi'
    rw [hP] at hqP
    have hexe : exo a b P i 0 = X := by rw [hX]; exact exo_end (by rw [← hqP]; omega)
    rw [hexe]
    have hni : ¬ i < (q.length : Int) := hi'
    by_cases hl : 10000 < X.length
    · rw [if_pos hl] at hA
      subst hA
      have hl' : (10000 : Int) < (X.length : Int) := by omega
      simp [hni, hl']
    · rw [if_neg hl] at hA
      have hl' : ¬ (10000 : Int) < (X.length : Int) := by omega
      have hv := fun fr => view_cg (σ := [⟨some 3, qc q, .live⟩, ⟨some 5, cgc X, stOf X⟩]) (b := 1) (n := 5 * X.length) (m := X.length) (k := 9) (fr := fr) rfl rfl rfl
      subst hA
      simp [hni, hl', vd, hv]
end Ab
