/- slices.Repeat of one number. The states that are matched. The transitions that differ between matched states: what is answered. The transitions that differ between matched states, as the program finds them. What a match without moved transitions is. Minimal machines that answer alike: the places have the same words, the match is the isomorphism, no transition is moved. Condition: none. -/
import Derived.Test.YtmmkhoncblnicaaBfsOrd
import Derived.Test.YtmmkhoncblnicaaDifF
import Derived.Test.YtmmkhoncblnicaaIso
import Derived.Test.YtmmkhoncblnicaaMini
import Derived.Test.YtmmkhoncblnicaaTrimT
set_option linter.all false
set_option maxRecDepth 100000
set_option maxHeartbeats 4000000
namespace Ab
theorem vd_ik {σ : List Blk} {fr : Bool} {j : Nat} {n : Int} : view σ fr vd (.ik j n) = some (.ik j n) := rfl
theorem Mul64_s (n : Int) (h : 0 ≤ n ∧ n ≤ 1000000) : PC F_math_bits_Mul64 [.ik 7 1, .ik 7 n] = some (.tup [.ik 7 0, .ik 7 n]) := by
  have e : L F_math_bits_Mul64 [.ik 7 1, .ik 7 n] [] = some (.tup [.ik 7 0, .ik 7 n], []) := by
    refine go_math_bits_Mul64 (N := 0) ?_
    unfold pMul64
    simp only
    rw [if_pos (by omega)]
    have h1 : 1 * n / 18446744073709551616 = 0 := by omega
    have h2 : 1 * n % 18446744073709551616 = n := by omega
    rw [h1, h2]
  show PCx L _ _ = _
  unfold PCx
  rw [e]
  rfl
theorem Mul_s (n : Int) (h : 0 ≤ n ∧ n ≤ 1000000) : PC F_math_bits_Mul [.ik 7 1, .ik 7 n] = some (.tup [.ik 7 0, .ik 7 n]) := by
  refine PCx_of (go_math_bits_Mul rfl ?_)
  simp [Mul64_s n h, vd_ik]
/-- A slice on its way. -/
def rpt (x : Int) (n k : Nat) : List AV := List.replicate k (.int x) ++ List.replicate (n - k) (.int 0)
theorem rpt_len {x : Int} {n k : Nat} (h : k ≤ n) : (rpt x n k).length = n := by simp [rpt]; omega
theorem rpt_put {x : Int} {n k : Nat} (h1 : 1 ≤ k) (h : k < n) : putAt (rpt x n k) k (((rpt x n k).take k).take (min k (n - k))) = rpt x n (k + min k (n - k)) := by
  have e : (rpt x n k).take k = List.replicate k (.int x) := by unfold rpt; rw [List.take_left' (by simp)]
  rw [e, List.take_replicate, Nat.min_eq_left (by omega)]
  unfold putAt
  rw [e]
  generalize hm : min k (n - k) = m
  have hmk : m ≤ n - k := by omega
  unfold rpt
  rw [List.length_replicate, List.drop_append, List.drop_replicate, List.drop_replicate, List.length_replicate, show k - (k + m) = 0 by omega, List.replicate_zero, List.nil_append, show k + m - k = m by omega, List.replicate_append_replicate, show n - k - m = n - (k + m) by omega]
theorem Repeat_l (x : Int) (n : Nat) (h : 1 ≤ n ∧ n ≤ 1000000) : L F_slices_Repeat_Sint_int [.imm false [.int x], .int n] [] = some (.sl 0 n 0 n, [⟨none, List.replicate n (.int x), .live⟩]) := by
  refine LX_eq (go_slices_Repeat_Sint_int rfl ?_)
  have e := Mul_s (n : Int) (by omega)
  simp [-More_nor, e]
  refine ⟨by omega, by omega, fun _ => ⟨by omega, by omega, fun h0 => absurd h0 (by omega), fun _ => ?_⟩⟩
  rw [Nat.min_eq_left (by omega : 1 ≤ n)]
  refine W_iter (fun k : Nat => [(5, .int k)]) (fun k => [⟨none, rpt x n k, .live⟩]) (fun k => 1 ≤ k ∧ k ≤ n) (fun k => n - k) 1 ?_ (by omega) ?_
  · obtain ⟨j, rfl⟩ : ∃ j, n = j + 1 := ⟨n - 1, by omega⟩
    simp [sets, rpt, putAt, List.replicate_succ, AV.cells]
  · intro k ⟨k1, k2⟩
    by_cases hk : k < n
    · have hr := rpt_len (x := x) k2
      simp [-More_nor, hk, hr]
      refine ⟨by omega, by omega, fun h0 => absurd h0 (by omega), fun _ _ => ⟨by omega, More_of (k + min k (n - k)) (by simp) (by rw [rpt_put k1 hk]) (by omega) (by omega)⟩⟩
    · have : k = n := by omega
      subst this
      simp [rpt]
end Ab
namespace Ab
/-- Some states are matched. -/
def mset (b : Mly) (o : List Int) (ps : List Pl) : List Int := ps.foldl (fun o p => o.set p.1.toNat (b.run b.start p.2)) o
theorem mset_len {b : Mly} : ∀ {ps : List Pl} {o : List Int}, (mset b o ps).length = o.length
  | [], _ => rfl
  | p :: ps, o => by
    show (mset b (o.set p.1.toNat (b.run b.start p.2)) ps).length = _
    rw [mset_len, List.length_set]
theorem mset_snoc {b : Mly} {o : List Int} {ps : List Pl} {p : Pl} : mset b o (ps ++ [p]) = (mset b o ps).set p.1.toNat (b.run b.start p.2) := by simp [mset]
/-- Which states are matched. -/
def mt (a b : Mly) : List Int := mset b (List.replicate a.next.length (-1)) (a.places a.start)
def mtA (a b : Mly) : List Int × Int := if chkE a b ≠ 0 then ([], chkE a b) else (mt a b, 0)
theorem mt_len {a b : Mly} : (mt a b).length = a.next.length := by simp [mt, mset_len]
theorem Match_s (a b : Mly) (ha : a.fits) (hb : b.fits) : PC F_diff_Match [a.av, b.av] = some (.tup [iL (mtA a b).1, .int (mtA a b).2]) := by
  refine PCx_of (go_diff_Match rfl ?_)
  have hc := dcheck_s a b ha hb
  by_cases h0 : chkE a b = 0
  case neg =>
    have e : mtA a b = ([], chkE a b) := by unfold mtA; rw [if_pos h0]
    rw [e]
    simp [hc, h0]
  rw [h0] at hc
  obtain ⟨va, vb, hi⟩ := chkE_ok h0
  have hoa := mvalidE_ok va
  have hob := mvalidE_ok vb
  have hsa := hoa.states
  have hA := Acc_s a ha
  rw [acc_ok va] at hA
  have hf := places_bf a hoa a.start hoa.start
  have hle := hf.bq.le
  have hMt : mt a b = mset b (List.replicate a.next.length (-1)) (a.places a.start) := rfl
  have e : mtA a b = (mt a b, 0) := by unfold mtA; rw [if_neg (by omega)]
  rw [e]
  have hR := Repeat_l (-1) a.next.length (by omega)
  generalize mt a b = M at *
  generalize a.places a.start = ps at *
  simp [-List.map_map, -More_nor, hc, hA, hR, shV, shL, shB]
  have hsh : shL 0 (List.replicate a.next.length (AV.int (-1))) = (List.replicate a.next.length (-1 : Int)).map .int := by rw [shL_map]; simp [shV]
  rw [hsh]
  generalize hO : List.replicate a.next.length (-1 : Int) = O at *
  have hOl : O.length = a.next.length := by rw [← hO]; simp
  refine W_iter (fun i : Nat => [(7, .int i)]) (fun i => [⟨none, (mset b O (ps.take i)).map .int, .live⟩]) (fun i => i ≤ ps.length) (fun i => ps.length - i) 0 (by simp [sets, mset]) (by omega) ?_
  intro i i1
  by_cases hi' : i < ps.length
  · have i0' : (0 : Int) ≤ i := by omega
    have i1' : (i : Int) < ps.length := by omega
    have g1 : ix (ps.map (·.1)) (i : Int) = (ix ps (i : Int)).1 := ix_map i0' i1'
    have g2 : ix (ps.map (·.2)) (i : Int) = (ix ps (i : Int)).2 := ix_map i0' i1'
    have hrg := hf.bq.rng _ (ix_mem i0' i1')
    have hrun := hf.run i i0' i1'
    have hln := hf.bq.len i i0' i1'
    have hub : ∀ y ∈ (ix ps (i : Int)).2, 0 ≤ y ∧ y < b.inputs := by rw [← hi]; exact hrun.2
    have f2 := From_s b hb b.start (ix ps (i : Int)).2 (by omega)
    rw [from_ok vb hub (by omega)] at f2
    have hml : (mset b O (ps.take i)).length = a.next.length := by rw [mset_len, hOl]
    have hnx : mset b O (ps.take (i + 1)) = (mset b O (ps.take i)).set (ix ps (i : Int)).1.toNat (b.run b.start (ix ps (i : Int)).2) := by
      rw [← mset_snoc]
      congr 1
      rw [List.take_succ, List.getElem?_eq_getElem hi', ix_nat hi']; rfl
    generalize mset b O (ps.take i) = N at *
    simp [-List.map_map, -List.map_set, -More_nor, hi', g1, g2, f2, hrg.1, hrg.2, hml]
    refine ⟨by omega, More_of (i + 1) (by simp) (by rw [hnx]) (by omega) (by omega)⟩
  · have : i = ps.length := by omega
    subst this
    rw [List.take_length, ← hMt]
    have hv := vd_iL (σ := [⟨none, M.map .int, .live⟩]) (fr := false) (b := 0) (xs := M) (n := a.next.length) (st := .live) rfl (by simp) (by rw [hMt, mset_len, hOl])
    simp [hv]
/-- The state that is matched with this one. -/
def mtS (b : Mly) (ps : List Pl) (s : Int) (t : Int) : Int := ps.foldl (fun t p => if p.1 = s then b.run b.start p.2 else t) t
theorem mset_ix {b : Mly} {s : Int} (s0 : 0 ≤ s) : ∀ {ps : List Pl} {O : List Int}, s < (O.length : Int) → (∀ p ∈ ps, 0 ≤ p.1) → ix (mset b O ps) s = mtS b ps s (ix O s)
  | [], O, _, _ => rfl
  | p :: ps, O, hs, hp => by
    show ix (mset b (O.set p.1.toNat (b.run b.start p.2)) ps) s = mtS b ps s (if p.1 = s then b.run b.start p.2 else ix O s)
    rw [mset_ix s0 (by simpa using hs) (fun q hq => hp q (by simp [hq]))]
    congr 1
    have h0 := hp p (by simp)
    by_cases e : p.1 = s
    · rw [if_pos e, e]
      simp [ix, List.getD_eq_getElem?_getD, List.getElem?_set, show s.toNat < O.length by omega]
    · rw [if_neg e]
      have : ¬ p.1.toNat = s.toNat := by omega
      simp [ix, List.getD_eq_getElem?_getD, List.getElem?_set, this]
theorem mt_range {a b : Mly} (ha : a.Ok) : mt a b = (List.range a.next.length).map fun (s : Nat) => mtS b (a.places a.start) (s : Int) (-1) := by
  have hf := places_bf a ha a.start ha.start
  apply List.ext_getElem
  · simp [mt_len]
  · intro i h1 h2
    rw [mt_len] at h1
    have hm := mset_ix (b := b) (s := (i : Int)) (ps := a.places a.start) (O := List.replicate a.next.length (-1)) (by omega) (by simpa using h1) (fun p hp => (hf.bq.rng p hp).1)
    have e1 : ix (List.replicate a.next.length (-1 : Int)) (i : Int) = -1 := by rw [ix_nat (by simpa using h1)]; simp
    rw [e1] at hm
    have e2 : ix (mt a b) (i : Int) = (mt a b)[i] := ix_nat (by rw [mt_len]; exact h1)
    rw [← e2]
    simp only [List.getElem_map, List.getElem_range]
    exact hm
end Ab
namespace Ab
/-- Whether a transition is moved (none: it is). -/
def mnx (a b : Mly) (M : List Int) (s x : Int) : Option Int := if ix M s < 0 then some 0 else if ix (ix a.out s) x = ix (ix b.out (ix M s)) x ∧ ix M (ix (ix a.next s) x) = ix (ix b.next (ix M s)) x then some 0 else none
/-- How it is moved. -/
def mcg (a b : Mly) (M : List Int) (y : Int × List Int × Int) : Cg := if ix (ix a.out y.1) y.2.2 = ix (ix b.out (ix M y.1)) y.2.2 then ⟨y.2.1, y.1, ix M y.1, ix (ix a.next y.1) y.2.2, ix (ix b.next (ix M y.1)) y.2.2⟩ else ⟨y.2.1, y.1, ix M y.1, ix (ix a.out y.1) y.2.2, ix (ix b.out (ix M y.1)) y.2.2⟩
def moo (a b : Mly) (M : List Int) (P : List Pl) (i x : Int) : List Cg := (gfails (mnx a b M) a.inputs (P.take i.toNat) ++ gfrow (mnx a b M) (ix P i) x).map (mcg a b M)
def movs (a b : Mly) (M : List Int) : List Cg := (gfails (mnx a b M) a.inputs (a.places a.start)).map (mcg a b M)
/-- A list that matches no states. -/
def mbad (b : Mly) (t : Int) : Bool := decide (t < -1) || decide ((b.next.length : Int) ≤ t)
def mvA (a b : Mly) (M : List Int) : List Cg × Int := if chkE a b ≠ 0 then ([], chkE a b) else if M.length ≠ a.next.length ∨ M.any (mbad b) = true then ([], 1) else if 10000 < (movs a b M).length then ([], 11) else (movs a b M, 0)
section
variable {a b : Mly} {M : List Int} {P : List Pl} {i x : Int}
theorem moo_zero : moo a b M P 0 0 = [] := by simp [moo, gfails, gfrow_zero]
theorem moo_hit (x0 : 0 ≤ x) (h : mnx a b M (ix P i).1 x = none) : moo a b M P i (x + 1) = moo a b M P i x ++ [mcg a b M ((ix P i).1, (ix P i).2 ++ [x], x)] := by
  unfold moo
  rw [gfrow_succ x0, if_pos h]
  simp
theorem moo_no (x0 : 0 ≤ x) (h : mnx a b M (ix P i).1 x ≠ none) : moo a b M P i (x + 1) = moo a b M P i x := by
  unfold moo
  rw [gfrow_succ x0, if_neg h, List.append_nil]
theorem moo_next (i0 : 0 ≤ i) (i1 : i < P.length) : moo a b M P (i + 1) 0 = moo a b M P i a.inputs := by
  unfold moo
  have e : P.take (i + 1).toNat = P.take i.toNat ++ [ix P i] := by
    rw [show (i + 1).toNat = i.toNat + 1 by omega, List.take_succ, ix_eq i0 i1]; rfl
  rw [e, gfails_app, gfails_one, gfrow_zero, List.append_nil]
theorem moo_skip (h : ix M (ix P i).1 < 0) : moo a b M P i x = moo a b M P i 0 := by
  unfold moo
  rw [gfrow_zero, gfrow_nil (fun c _ _ => by unfold mnx; rw [if_pos h]; simp)]
theorem moo_end (h : i = P.length) : moo a b M P i 0 = (gfails (mnx a b M) a.inputs P).map (mcg a b M) := by
  subst h
  unfold moo
  simp [gfrow_zero]
theorem moo_len (i0 : 0 ≤ i) (h0 : 0 ≤ a.inputs) (x1 : x ≤ a.inputs) : (moo a b M P i x).length ≤ (i.toNat + 1) * a.inputs.toNat := by
  have h1 : ∀ q : List Pl, (gfails (mnx a b M) a.inputs q).length ≤ q.length * a.inputs.toNat := fun q => by
    induction q with
    | nil => simp [gfails]
    | cons p q ih =>
      have e : p :: q = [p] ++ q := rfl
      rw [e, gfails_app, gfails_one, List.length_append, List.length_append, Nat.add_mul]
      have : (gfrow (mnx a b M) p a.inputs).length ≤ a.inputs.toNat := by
        unfold gfrow
        rw [List.length_map]
        exact Nat.le_trans (List.length_filter_le _ _) (by simp)
      simp only [List.length_singleton]
      omega
  unfold moo
  have := h1 (P.take i.toNat)
  have h2 : (gfrow (mnx a b M) (ix P i) x).length ≤ a.inputs.toNat := by
    unfold gfrow
    rw [List.length_map]
    exact Nat.le_trans (List.length_filter_le _ _) (by simp; omega)
  rw [List.length_map, List.length_append, Nat.add_mul]
  have h3 : (P.take i.toNat).length * a.inputs.toNat ≤ i.toNat * a.inputs.toNat := Nat.mul_le_mul_right _ (by simp; omega)
  omega
end
theorem mcg_w {a b : Mly} {M : List Int} {y : Int × List Int × Int} : (mcg a b M y).w = y.2.1 := by unfold mcg; split <;> rfl
theorem movs_asc {a b : Mly} {M : List Int} (ha : a.Ok) : cgAsc (movs a b M) := by
  have hf := places_bf a ha a.start ha.start
  unfold cgAsc movs
  rw [List.pairwise_map]
  exact (gfails_asc hf.asc).imp fun h => by rw [mcg_w, mcg_w]; exact h
theorem movs_fit {a b : Mly} {M : List Int} (ha : a.Ok) : cgFit (movs a b M) := by
  have hf := places_bf a ha a.start ha.start
  have hsa := ha.states
  intro c hc
  unfold movs at hc
  obtain ⟨y, hy, rfl⟩ := List.mem_map.1 hc
  obtain ⟨p, hp, _, _, _, e⟩ := gfails_mem.1 hy
  obtain ⟨j, hj, rfl⟩ := List.mem_iff_getElem.1 hp
  have := hf.bq.len (j : Int) (by omega) (by omega)
  have hle := hf.bq.le
  rw [ix_nat hj] at this
  rw [mcg_w, e]
  simp only [List.length_append, List.length_singleton]
  omega
theorem mbad_s (b : Mly) (hb : b.fits) (t : Int) : PC F_diff_Moved_1 [.int t, .pimm b.av] = some (.bool (mbad b t)) := by
  refine PCx_of (go_diff_Moved_1 rfl ?_)
  have := hb.next.1
  by_cases h : t < -1
  · simp [mbad, h]
  · simp [mbad, h]
theorem many_s (b : Mly) (hb : b.fits) (M : List Int) (hl : (M.length : Int) ≤ 9223372036854775807) : PC F_slices_ContainsFunc_Sint_int [iL M, .func F_diff_Moved_1 [.pimm b.av]] = some (.bool (M.any (mbad b))) := ContainsFunc_s M F_diff_Moved_1 [.pimm b.av] (mbad b) hl (by simp) rfl (fun t _ => mbad_s b hb t)
theorem join_i (w : List Int) (a : Int) (h : w.length ≤ 100000) : PCx L F_word_Join [.imm false [iL w, .imm false [.int a]]] = some (iL (w ++ [a])) := by
  have e := Join_s [(false, w), (false, [a])] (by simp) (by simp [cat]; omega)
  simp [wB, cat] at e
  exact e
end Ab
namespace Ab
theorem mbad_ok {b : Mly} {M : List Int} (h : M.any (mbad b) = false) {s : Int} (h0 : 0 ≤ s) (h1 : s < M.length) : -1 ≤ ix M s ∧ ix M s < b.next.length := by
  have := List.any_eq_false.1 h (ix M s) (ix_mem h0 h1)
  unfold mbad at this
  simp at this
  omega
theorem cgc_low {m : Nat} {l : List Cg} : (cgc l).all (lowv m) = true := by
  induction l with
  | nil => rfl
  | cons c l ih =>
    have e : cgc (c :: l) = [iL c.w, .int c.s, .int c.t, .int c.f, .int c.u] ++ cgc l := by simp [cgc]
    rw [e, List.all_append, ih]
    rfl
theorem Moved_s (a b : Mly) (ha : a.fits) (hb : b.fits) (M : List Int) (hM : (M.length : Int) ≤ 9223372036854775807) : PC F_diff_Moved [a.av, b.av, iL M] = some (.tup [.imm false ((mvA a b M).1.map Cg.av), .int (mvA a b M).2]) := by
  refine PCx_of (go_diff_Moved rfl ?_)
  have hc := dcheck_s a b ha hb
  by_cases h0 : chkE a b = 0
  case neg =>
    have e : mvA a b M = ([], chkE a b) := by unfold mvA; rw [if_pos h0]
    rw [e]
    simp [hc, h0]
  rw [h0] at hc
  obtain ⟨va, vb, hi⟩ := chkE_ok h0
  have hoa := mvalidE_ok va
  have hob := mvalidE_ok vb
  have hin := hoa.inputs
  have hsa := hoa.states
  have hsb := hob.states
  have hla := hoa.len
  have hlb := hob.len
  have hA := Acc_s a ha
  rw [acc_ok va] at hA
  have hmn := many_s b hb M hM
  have hAn : mvA a b M = if M.length ≠ a.next.length ∨ M.any (mbad b) = true then ([], 1) else if 10000 < (movs a b M).length then ([], 11) else (movs a b M, 0) := by unfold mvA; rw [if_neg (by omega)]
  by_cases hml : M.length = a.next.length
  case neg =>
    rw [if_pos (.inl hml)] at hAn
    rw [hAn]
    have hml' : ((M.length : Int) = (a.next.length : Int)) = False := eq_false (by omega)
    have hml2 : (M.length = a.next.length) = False := eq_false hml
    simp [hc, hml', hml2]
  cases hbd : M.any (mbad b) with
  | true =>
    rw [if_pos (.inr hbd)] at hAn
    rw [hAn]
    rw [hbd] at hmn
    simp [hc, hml, hmn]
  | false =>
    rw [if_neg (by rw [hbd]; simp [hml])] at hAn
    rw [hbd] at hmn
    have hf := places_bf a hoa a.start hoa.start
    have hle := hf.bq.le
    have hfit := movs_fit (b := b) (M := M) hoa
    have hasc := movs_asc (b := b) (M := M) hoa
    have hX : movs a b M = (gfails (mnx a b M) a.inputs (a.places a.start)).map (mcg a b M) := rfl
    rw [hAn]
    generalize movs a b M = X at *
    generalize a.places a.start = P at *
    simp [-List.map_map, -More_nor, hc, hml, hmn, hA]
    refine W_iter (fun i : Int => [(9, .int i), (20, .sl 0 (5 * (moo a b M P i 0).length) 0 (moo a b M P i 0).length)]) (fun i => [⟨some 5, cgc (moo a b M P i 0), stOf (moo a b M P i 0)⟩]) (fun i => 0 ≤ i ∧ i ≤ P.length) (fun i => (P.length - i).toNat) 0 (by simp [sets, moo_zero, cgc]) (by omega) ?_
    intro i ⟨i0, i1⟩
    refine WK_lexd rfl ?_
    by_cases hi' : i < P.length
    · have g1 : ix (P.map (·.1)) i = (ix P i).1 := ix_map i0 hi'
      have g2 : ix (P.map (·.2)) i = (ix P i).2 := ix_map i0 hi'
      have hrg := hf.bq.rng _ (ix_mem i0 hi')
      have hln := hf.bq.len i i0 hi'
      have hob2 : (i.toNat + 1) * a.inputs.toNat ≤ 129 * 64 := Nat.mul_le_mul (by omega) (by omega)
      have hol := fun x (x1 : x ≤ a.inputs) => moo_len (a := a) (b := b) (M := M) (P := P) (i := i) (x := x) i0 (by omega) x1
      have hMi := mbad_ok hbd hrg.1 (by omega)
      have hs1 : (ix P i).1 < (M.length : Int) := by omega
      by_cases ht : ix M (ix P i).1 < 0
      · have hen : moo a b M P (i + 1) 0 = moo a b M P i 0 := by rw [moo_next i0 hi', moo_skip ht]
        simp [-List.map_map, -More_nor, hi', i0, g1, g2, hrg.1, hrg.2, hs1, ht, cgc_low]
        refine ⟨by omega, More_of (i + 1) (by simp [hen]) (by simp [hen]) (by omega) (by omega)⟩
      · simp [-List.map_map, -More_nor, hi', i0, g1, g2, hrg.1, hrg.2, hs1, ht]
        refine W_iter (fun x : Int => [(14, .int x), (20, .sl 0 (5 * (moo a b M P i x).length) 0 (moo a b M P i x).length)]) (fun x => [⟨some 5, cgc (moo a b M P i x), stOf (moo a b M P i x)⟩]) (fun x => 0 ≤ x ∧ x ≤ a.inputs) (fun x => (a.inputs - x).toNat) 0 (by simp [sets]) (by omega) ?_
        intro x ⟨x0, x1⟩
        refine WK_lexd rfl ?_
        by_cases hx : x < a.inputs
        · have hj := join_i (ix P i).2 x (by omega)
          have hox := hol x (by omega)
          have ht0 : 0 ≤ ix M (ix P i).1 := by omega
          have ht1 : ix M (ix P i).1 < (b.next.length : Int) := hMi.2
          have hto : ix M (ix P i).1 < (b.out.length : Int) := by omega
          have hso : (ix P i).1 < (a.out.length : Int) := by omega
          have hra := hoa.row _ hrg.1 hrg.2
          have hrb := hob.row _ ht0 ht1
          have hxb : x < b.inputs := by omega
          have hna := hoa.nx _ x hrg.1 hrg.2 x0 hx
          have hsM : ix (ix a.next (ix P i).1) x < (M.length : Int) := by omega
          by_cases ho : ix (ix a.out (ix P i).1) x = ix (ix b.out (ix M (ix P i).1)) x
          · by_cases hn : ix M (ix (ix a.next (ix P i).1) x) = ix (ix b.next (ix M (ix P i).1)) x
            · have hex : moo a b M P i (x + 1) = moo a b M P i x := moo_no x0 (by unfold mnx; rw [if_neg ht, if_pos ⟨ho, hn⟩]; simp)
              have ho' := eq_true ho
              have hn' := eq_true hn
              simp [-List.map_map, -More_nor, hx, x0, i0, hi', g1, g2, hj, hrg.1, hrg.2, ht0, ht1, hto, hso, hra.1, hra.2, hrb.1, hrb.2, hxb, hna.1, hsM, ho', hn', cgc_low]
              refine ⟨by omega, More_of (x + 1) (by simp [hex]) (by simp [hex]) (by omega) (by omega)⟩
            · have hex := moo_hit (a := a) (b := b) (M := M) (P := P) (i := i) x0 (by unfold mnx; rw [if_neg ht, if_neg (fun h => hn h.2)])
              have hmc : mcg a b M ((ix P i).1, (ix P i).2 ++ [x], x) = ⟨(ix P i).2 ++ [x], (ix P i).1, ix M (ix P i).1, ix (ix a.next (ix P i).1) x, ix (ix b.next (ix M (ix P i).1)) x⟩ := by unfold mcg; rw [if_pos ho]
              rw [hmc] at hex
              have ho' := eq_true ho
              have hn' := eq_false hn
              generalize moo a b M P i x = O at *
              have hk5 : (5 * O.length = O.length * kst (some 5)) = True := eq_true (by simp [kst]; omega)
              simp [-List.map_map, -More_nor, hx, x0, i0, hi', g1, g2, hj, hrg.1, hrg.2, ht0, ht1, hto, hso, hra.1, hra.2, hrb.1, hrb.2, hxb, hna.1, hsM, ho', hn', cgc_low, hk5, cgc_len]
              refine ⟨by omega, by omega, More_of (x + 1) (by simp [hex, Nat.mul_add]) (by simp [hex, cgc_app, cgc_one, iL]) (by omega) (by omega)⟩
          · have hex := moo_hit (a := a) (b := b) (M := M) (P := P) (i := i) x0 (by unfold mnx; rw [if_neg ht, if_neg (fun h => ho h.1)])
            have hmc : mcg a b M ((ix P i).1, (ix P i).2 ++ [x], x) = ⟨(ix P i).2 ++ [x], (ix P i).1, ix M (ix P i).1, ix (ix a.out (ix P i).1) x, ix (ix b.out (ix M (ix P i).1)) x⟩ := by unfold mcg; rw [if_neg ho]
            rw [hmc] at hex
            have ho' := eq_false ho
            generalize moo a b M P i x = O at *
            have hk5 : (5 * O.length = O.length * kst (some 5)) = True := eq_true (by simp [kst]; omega)
            simp [-List.map_map, -More_nor, hx, x0, i0, hi', g1, g2, hj, hrg.1, hrg.2, ht0, ht1, hto, hso, hra.1, hra.2, hrb.1, hrb.2, hxb, ho', cgc_low, hk5, cgc_len]
            refine ⟨by omega, by omega, More_of (x + 1) (by simp [hex, Nat.mul_add]) (by simp [hex, cgc_app, cgc_one, iL]) (by omega) (by omega)⟩
        · have hxi : x = a.inputs := by omega
          subst hxi
          have hen : moo a b M P (i + 1) 0 = moo a b M P i a.inputs := moo_next i0 hi'
          simp [-List.map_map, -More_nor, cgc_low]
          refine ⟨by omega, More_of (i + 1) (by simp [hen]) (by simp [hen]) (by omega) (by omega)⟩
    · have hexe : moo a b M P i 0 = X := by rw [hX]; exact moo_end (by omega)
      rw [hexe]
      have hni : ¬ i < (P.length : Int) := hi'
      by_cases hl : 10000 < X.length
      · have e := dsorted_x (σ := [⟨some 5, cgc X, stOf X⟩]) (b := 0) (n := 5 * X.length) (m := X.length) (by omega)
        simp [-List.map_map, hni, e, hl, cgc_low]
      · have e := dsorted_l (σ := [⟨some 5, cgc X, stOf X⟩]) (b := 0) (n := 5 * X.length) (m := X.length) rfl rfl rfl (by omega) hfit hasc
        have hv := fun fr => view_cg (σ := [⟨some 5, cgc X, stOf X⟩]) (b := 0) (n := 5 * X.length) (m := X.length) (k := 9) (fr := fr) rfl rfl rfl
        simp [-List.map_map, hni, e, hl, vd, hv, cgc_low]
end Ab
namespace Ab
theorem mtS_at {b : Mly} {s v : Int} : ∀ {ps : List Pl} {t : Int}, (∀ q ∈ ps, q.1 = s → b.run b.start q.2 = v) → (t = v ∨ ∃ q ∈ ps, q.1 = s) → mtS b ps s t = v
  | [], t, _, h => by
    rcases h with h | ⟨q, hq, _⟩
    · exact h
    · simp at hq
  | p :: ps, t, h1, h2 => by
    show mtS b ps s (if p.1 = s then b.run b.start p.2 else t) = v
    refine mtS_at (fun q hq => h1 q (by simp [hq])) ?_
    by_cases e : p.1 = s
    · rw [if_pos e]; exact .inl (h1 p (by simp) e)
    · rw [if_neg e]
      rcases h2 with h | ⟨q, hq, hs⟩
      · exact .inl h
      · rcases List.mem_cons.1 hq with rfl | hq
        · exact absurd hs e
        · exact .inr ⟨q, hq, hs⟩
theorem mtS_off {b : Mly} {s : Int} : ∀ {ps : List Pl} {t : Int}, (∀ q ∈ ps, q.1 ≠ s) → mtS b ps s t = t
  | [], t, _ => rfl
  | p :: ps, t, h => by
    show mtS b ps s (if p.1 = s then b.run b.start p.2 else t) = t
    rw [if_neg (h p (by simp)), mtS_off fun q hq => h q (by simp [hq])]
theorem mt_ix {a b : Mly} (ha : a.Ok) {s : Int} (h0 : 0 ≤ s) (h1 : s < a.next.length) : ix (mt a b) s = mtS b (a.places a.start) s (-1) := by
  obtain ⟨n, rfl⟩ := Int.eq_ofNat_of_zero_le h0
  rw [ix_nat (by rw [mt_len]; omega)]
  have := mt_range (b := b) ha
  simp only [this, List.getElem_map, List.getElem_range]
theorem bq_inj' {m : Mly} {s : Int} {q : List Pl} (h : Bq m s q) {i j : Int} (i0 : 0 ≤ i) (i1 : i < q.length) (j0 : 0 ≤ j) (j1 : j < q.length) (e : (ix q i).1 = (ix q j).1) : i = j := by
  have hn : (q.map (·.1)).Pairwise (fun a b => a ≠ b) := h.nd
  rw [List.pairwise_iff_getElem] at hn
  have key : ∀ a b : Nat, a < b → b < q.length → (ix q (a : Int)).1 = (ix q (b : Int)).1 → False := fun a b hab hb e => by
    have := hn a b (by simp; omega) (by simp; omega) hab
    rw [ix_nat (by omega), ix_nat hb] at e
    simp [e] at this
  rcases Int.lt_trichotomy i j with hlt | he | hgt
  · exact (key i.toNat j.toNat (by omega) (by omega) (by rw [show ((i.toNat : Nat) : Int) = i by omega, show ((j.toNat : Nat) : Int) = j by omega]; exact e)).elim
  · exact he
  · exact (key j.toNat i.toNat (by omega) (by omega) (by rw [show ((i.toNat : Nat) : Int) = i by omega, show ((j.toNat : Nat) : Int) = j by omega]; exact e.symm)).elim
theorem mt_at {a b : Mly} (ha : a.Ok) {p : Pl} (hp : p ∈ a.places a.start) : ix (mt a b) p.1 = b.run b.start p.2 := by
  have hf := places_bf a ha a.start ha.start
  have hrg := hf.bq.rng p hp
  rw [mt_ix ha hrg.1 hrg.2]
  refine mtS_at (fun q hq e => ?_) (.inr ⟨p, hp, rfl⟩)
  obtain ⟨i, hi, rfl⟩ := List.mem_iff_getElem.1 hp
  obtain ⟨j, hj, rfl⟩ := List.mem_iff_getElem.1 hq
  have := bq_inj' hf.bq (i := (j : Int)) (j := (i : Int)) (by omega) (by omega) (by omega) (by omega) (by rw [ix_nat hi, ix_nat hj]; exact e)
  have : j = i := by omega
  subst this; rfl
theorem mt_off {a b : Mly} (ha : a.Ok) {s : Int} (h0 : 0 ≤ s) (h1 : s < a.next.length) (h : ∀ q ∈ a.places a.start, q.1 ≠ s) : ix (mt a b) s = -1 := by
  rw [mt_ix ha h0 h1, mtS_off h]
/-- The state after a word is that of a place. -/
theorem run_place {a : Mly} (ha : a.Ok) {w : List Int} (hw : ∀ x ∈ w, 0 ≤ x ∧ x < a.inputs) : ∃ p ∈ a.places a.start, p.1 = a.run a.start w := by
  have hf := places_bf a ha a.start ha.start
  obtain ⟨k, k0, k1, e, _⟩ := hf.all w hw
  exact ⟨_, ix_mem k0 k1, e⟩
theorem place_run {a : Mly} (ha : a.Ok) {p : Pl} (hp : p ∈ a.places a.start) : a.run a.start p.2 = p.1 ∧ ∀ x ∈ p.2, 0 ≤ x ∧ x < a.inputs := by
  have hf := places_bf a ha a.start ha.start
  obtain ⟨i, hi, rfl⟩ := List.mem_iff_getElem.1 hp
  have := hf.run (i : Int) (by omega) (by omega)
  rwa [ix_nat hi] at this
/-- Without moved transitions the machines do the same. -/
theorem movs_none {a b : Mly} (ha : a.Ok) (hb : b.Ok) (hi : a.inputs = b.inputs) (h : movs a b (mt a b) = []) : ∀ {w : List Int}, (∀ x ∈ w, 0 ≤ x ∧ x < a.inputs) → ix (mt a b) (a.run a.start w) = b.run b.start w ∧ a.outs a.start w = b.outs b.start w := by
  unfold movs at h
  rw [List.map_eq_nil_iff, List.eq_nil_iff_forall_not_mem] at h
  have hf := places_bf a ha a.start ha.start
  have step : ∀ p ∈ a.places a.start, ∀ x, 0 ≤ x → x < a.inputs → mnx a b (mt a b) p.1 x ≠ none := fun p hp x x0 x1 hn =>
    h (p.1, p.2 ++ [x], x) (gfails_mem.2 ⟨p, hp, ⟨x0, x1⟩, hn, rfl, rfl⟩)
  have hmt0 : ∀ p ∈ a.places a.start, 0 ≤ ix (mt a b) p.1 := fun p hp => by
    rw [mt_at ha hp]
    exact (run_rng hb hb.start (by rw [← hi]; exact (place_run ha hp).2)).1
  have main : ∀ n : Nat, ∀ w : List Int, w.length = n → (∀ x ∈ w, 0 ≤ x ∧ x < a.inputs) → ix (mt a b) (a.run a.start w) = b.run b.start w ∧ a.outs a.start w = b.outs b.start w := by
    intro n
    induction n with
    | zero =>
      intro w hw _
      obtain rfl := List.eq_nil_of_length_eq_zero hw
      refine ⟨?_, rfl⟩
      have hh := hf.bq.head
      have := mt_at (b := b) ha (ix_mem (l := a.places a.start) (n := 0) (by omega) (by have := hf.bq.pos; omega))
      rw [hh] at this
      exact this
    | succ n ih =>
      intro w hw hx
      have hne : w ≠ [] := by intro e; subst e; simp at hw
      obtain ⟨u, x, rfl⟩ : ∃ u x, w = u ++ [x] := ⟨w.dropLast, w.getLast hne, (List.dropLast_concat_getLast hne).symm⟩
      have hu : ∀ y ∈ u, 0 ≤ y ∧ y < a.inputs := fun y hy => hx y (by simp [hy])
      have hxx := hx x (by simp)
      obtain ⟨i1, i2⟩ := ih u (by simpa using hw) hu
      obtain ⟨p, hp, e⟩ := run_place ha hu
      have hs := step p hp x hxx.1 hxx.2
      have h0 := hmt0 p hp
      unfold mnx at hs
      rw [if_neg (by omega)] at hs
      split at hs
      · rename_i hc
        rw [e, i1] at hc
        refine ⟨?_, ?_⟩
        · rw [run_app, run_app]; exact hc.2
        · rw [outs_app, outs_app, i2]
          congr 1
          show [_] = [_]
          rw [hc.1]
      · simp at hs
  intro w hw
  exact main _ w rfl hw
theorem movs_dist {a b : Mly} (ha : a.Ok) (hb : b.Ok) (hi : a.inputs = b.inputs) (h : movs a b (mt a b) = []) : dist a b a.start b.start = none := by
  cases hd : dist a b a.start b.start with
  | none => rfl
  | some w =>
    have hG := pgr ha hb hi
    have ok0 : pok a b (a.start, b.start) := ⟨ha.start, hb.start⟩
    obtain ⟨⟨u, x, t, rfl, hw, hr, hn⟩, _⟩ := gfirst_some hG ok0 hd
    have hu : ∀ y ∈ u, 0 ≤ y ∧ y < a.inputs := fun y hy => hw y (by simp [hy])
    have h1 := (movs_none ha hb hi h hu).2
    have h2 := (movs_none ha hb hi h hw).2
    rw [prun, if_pos h1] at hr
    simp at hr; subst hr
    rw [outs_app, outs_app, h1] at h2
    have h3 : [ix (ix a.out (a.run a.start u)) x] = [ix (ix b.out (b.run b.start u)) x] := List.append_cancel_left h2
    simp at h3
    unfold pnx at hn
    rw [if_pos h3] at hn
    simp at hn
end Ab
namespace Ab
theorem mok_valid {m : Mly} (h : m.Ok) : m.validE = 0 := by
  have h1 := h.inputs
  have h2 := h.states
  have h3 := h.start
  have h4 := h.len
  have hne : m.next ≠ [] := by intro e; rw [e] at h2; simp at h2
  have hs : m.sizeE = 0 := by
    unfold Mly.sizeE
    rw [if_neg (by omega), if_neg (by omega), if_neg hne, if_neg (by omega), if_neg (by omega), if_neg (by omega), if_neg (by omega)]
  unfold Mly.validE
  rw [if_neg (by simpa using hs)]
  refine firstN_none fun s s0 s1 => ?_
  obtain ⟨r1, r2⟩ := h.row s s0 s1
  have b1 : bad (ix m.next s) m.next.length = false := bad_fi.2 fun j j0 j1 => h.nx s j s0 s1 j0 (by omega)
  have b2 : bad (ix m.out s) 1048577 = false := bad_fi.2 fun j j0 j1 => by have := h.ot s j s0 s1 j0 (by omega); omega
  unfold Mly.rowE
  rw [if_neg (by omega), if_neg (by simp [b1, b2])]
/-- A valid machine is one in memory. -/
theorem mok_fits {m : Mly} (hm : m.Ok) : m.fits := by
  have hin := hm.inputs
  have hst := hm.states
  have hml := hm.len
  have hsr := hm.start
  refine ⟨inR_iff.2 (by omega), inR_iff.2 (by omega), ⟨by omega, fun r hr => ?_⟩, ⟨by omega, fun r hr => ?_⟩⟩
  · obtain ⟨i, hi, rfl⟩ := List.mem_iff_getElem.1 hr
    have hro := (hm.row i (by omega) (by omega)).1
    rw [ix_nat hi] at hro
    refine ⟨by omega, fun x hx => ?_⟩
    obtain ⟨j, hj, rfl⟩ := List.mem_iff_getElem.1 hx
    have := hm.nx i j (by omega) (by omega) (by omega) (by omega)
    rw [ix_nat hi, ix_nat hj] at this
    exact inR_iff.2 (by omega)
  · obtain ⟨i, hi, rfl⟩ := List.mem_iff_getElem.1 hr
    have hro := (hm.row i (by omega) (by omega)).2
    rw [ix_nat hi] at hro
    refine ⟨by omega, fun x hx => ?_⟩
    obtain ⟨j, hj, rfl⟩ := List.mem_iff_getElem.1 hx
    have := hm.ot i j (by omega) (by omega) (by omega) (by omega)
    rw [ix_nat hi, ix_nat hj] at this
    exact inR_iff.2 (by omega)
theorem mnl_len {m : Mly} (h : Mnl m) : (m.places m.start).length = m.next.length := by
  have hf := places_bf m h.ok m.start h.ok.start
  have hle := hf.bq.le
  refine Nat.le_antisymm hle ?_
  have key : ∀ s : Nat, s < m.next.length → ∃ k : Nat, k < (m.places m.start).length ∧ (ix (m.places m.start) (k : Int)).1 = (s : Int) := fun s hs => by
    obtain ⟨w, hw, e⟩ := h.all (s : Int) (by omega) (by omega)
    obtain ⟨k, k0, k1, e1, _⟩ := hf.all w hw
    exact ⟨k.toNat, by omega, by rw [show ((k.toNat : Nat) : Int) = k by omega, e1, e]⟩
  have := nodup_len (m.places m.start).length (l := (List.range m.next.length).map fun (s : Nat) => ix m.num (s : Int)) (by
    rw [List.nodup_iff_pairwise_ne, List.pairwise_map]
    refine List.Pairwise.imp_of_mem (fun {a b} ha hb hne e => ?_) List.nodup_range
    obtain ⟨k, hk, e1⟩ := key a (by simpa using ha)
    obtain ⟨j, hj, e2⟩ := key b (by simpa using hb)
    rw [← e1, ← e2, num_at h.ok hk, num_at h.ok hj] at e
    have : k = j := by omega
    subst this
    rw [e1] at e2
    exact hne (by omega)) (fun x hx => by
    obtain ⟨s, hs, rfl⟩ := List.mem_map.1 hx
    obtain ⟨k, hk, e1⟩ := key s (by simpa using hs)
    rw [← e1, num_at h.ok hk]
    omega)
  simpa using this
/-- The words of the places are the first ones of their states. -/
theorem place_iff {m : Mly} (hm : m.Ok) {w : List Int} : w ∈ (m.places m.start).map (·.2) ↔ (∀ x ∈ w, 0 ≤ x ∧ x < m.inputs) ∧ ∀ u, (∀ x ∈ u, 0 ≤ x ∧ x < m.inputs) → m.run m.start u = m.run m.start w → slxC w u ≤ 0 := by
  have hf := places_bf m hm m.start hm.start
  constructor
  · intro h
    obtain ⟨p, hp, rfl⟩ := List.mem_map.1 h
    obtain ⟨r1, r2⟩ := place_run hm hp
    refine ⟨r2, fun u hu e => ?_⟩
    obtain ⟨k, k0, k1, e1, e2⟩ := hf.all u hu
    obtain ⟨i, hi, rfl⟩ := List.mem_iff_getElem.1 hp
    have : k = (i : Int) := bq_inj' hf.bq k0 k1 (by omega) (by omega) (by rw [e1, e, r1, ix_nat hi])
    rw [this, ix_nat hi] at e2
    exact e2
  · rintro ⟨h1, h2⟩
    obtain ⟨k, k0, k1, e1, e2⟩ := hf.all w h1
    obtain ⟨r1, r2⟩ := hf.run k k0 k1
    have h3 := h2 _ r2 (by rw [r1, e1])
    have h4 : slxC w (ix (m.places m.start) k).2 = 0 := by have := slxC_ok.anti w (ix (m.places m.start) k).2; omega
    rw [slxC_ok.eq _ _ h4]
    exact List.mem_map.2 ⟨_, ix_mem k0 k1, rfl⟩
theorem places_asc {m : Mly} (hm : m.Ok) : asc ((m.places m.start).map (·.2)) := by
  have hf := places_bf m hm m.start hm.start
  show List.Pairwise (fun a b => slxC a b < 0) _
  rw [List.pairwise_map, List.pairwise_iff_getElem]
  intro i j hi hj hij
  have := hf.asc (i : Int) (j : Int) (by omega) (by omega) (by omega)
  rwa [ix_nat hi, ix_nat hj] at this
/-- Machines that answer alike. -/
def Like (a b : Mly) : Prop := ∀ w, (∀ x ∈ w, 0 ≤ x ∧ x < a.inputs) → a.outs a.start w = b.outs b.start w
theorem Like.after {a b : Mly} (h : Like a b) {u v : List Int} (hu : ∀ x ∈ u, 0 ≤ x ∧ x < a.inputs) (hv : ∀ x ∈ v, 0 ≤ x ∧ x < a.inputs) : a.outs (a.run a.start u) v = b.outs (b.run b.start u) v := by
  have h1 := h (u ++ v) (fun x hx => by
    rcases List.mem_append.1 hx with hx | hx
    · exact hu x hx
    · exact hv x hx)
  rw [outs_app, outs_app] at h1
  exact (List.append_inj h1 (by rw [outs_len, outs_len])).2
theorem Like.runs {a b : Mly} (h : Like a b) (ha : a.Ok) (hb : Mnl b) (hi : a.inputs = b.inputs) {u v : List Int} (hu : ∀ x ∈ u, 0 ≤ x ∧ x < a.inputs) (hv : ∀ x ∈ v, 0 ≤ x ∧ x < a.inputs) (e : a.run a.start u = a.run a.start v) : b.run b.start u = b.run b.start v := by
  have r1 := run_rng hb.ok hb.ok.start (by rw [← hi]; exact hu)
  have r2 := run_rng hb.ok hb.ok.start (by rw [← hi]; exact hv)
  refine hb.dif _ _ r1.1 r1.2 r2.1 r2.2 fun w hw => ?_
  rw [← hi] at hw
  rw [← h.after hu hw, ← h.after hv hw, e]
theorem Like.symm {a b : Mly} (h : Like a b) (hi : a.inputs = b.inputs) : Like b a := fun w hw => (h w (by rw [hi]; exact hw)).symm
theorem like_words {a b : Mly} (h : Like a b) (ha : Mnl a) (hb : Mnl b) (hi : a.inputs = b.inputs) : (a.places a.start).map (·.2) = (b.places b.start).map (·.2) := by
  have hs := h.symm hi
  have e1 := sortU_eq (l := (a.places a.start).map (·.2)) (places_asc hb.ok) (fun w => by
    rw [place_iff ha.ok, place_iff hb.ok, ← hi]
    constructor
    · rintro ⟨h1, h2⟩
      exact ⟨h1, fun u hu e => h2 u hu (hs.runs hb.ok ha hi.symm (by rw [← hi]; exact hu) (by rw [← hi]; exact h1) e)⟩
    · rintro ⟨h1, h2⟩
      exact ⟨h1, fun u hu e => h2 u hu (h.runs ha.ok hb hi hu h1 e)⟩)
  have e2 := sortU_eq (l := (a.places a.start).map (·.2)) (places_asc ha.ok) (fun w => Iff.rfl)
  rw [← e2, e1]
theorem like_mt {a b : Mly} (h : Like a b) (ha : Mnl a) (hb : Mnl b) (hi : a.inputs = b.inputs) {w : List Int} (hw : ∀ x ∈ w, 0 ≤ x ∧ x < a.inputs) : ix (mt a b) (a.run a.start w) = b.run b.start w := by
  obtain ⟨p, hp, e⟩ := run_place ha.ok hw
  obtain ⟨r1, r2⟩ := place_run ha.ok hp
  rw [← e, mt_at ha.ok hp]
  exact h.runs ha.ok hb hi r2 hw (by rw [r1, e])
theorem like_step {a b : Mly} (h : Like a b) (ha : Mnl a) (hb : Mnl b) (hi : a.inputs = b.inputs) {s x : Int} (s0 : 0 ≤ s) (s1 : s < a.next.length) (x0 : 0 ≤ x) (x1 : x < a.inputs) : ix (ix a.out s) x = ix (ix b.out (ix (mt a b) s)) x ∧ ix (mt a b) (ix (ix a.next s) x) = ix (ix b.next (ix (mt a b) s)) x := by
  obtain ⟨w, hw, rfl⟩ := ha.all s s0 s1
  have hx : ∀ y ∈ [x], 0 ≤ y ∧ y < a.inputs := by intro y hy; simp at hy; omega
  have h1 := h.after hw hx
  have hwx : ∀ y ∈ w ++ [x], 0 ≤ y ∧ y < a.inputs := by
    intro y hy
    rcases List.mem_append.1 hy with hy | hy
    · exact hw y hy
    · exact hx y hy
  have h2 := like_mt h ha hb hi hwx
  rw [like_mt h ha hb hi hw]
  rw [run_app, run_app] at h2
  refine ⟨?_, h2⟩
  simp only [Mly.outs, List.cons.injEq, and_true] at h1
  exact h1
theorem like_movs {a b : Mly} (h : Like a b) (ha : Mnl a) (hb : Mnl b) (hi : a.inputs = b.inputs) : movs a b (mt a b) = [] := by
  unfold movs
  rw [List.map_eq_nil_iff, List.eq_nil_iff_forall_not_mem]
  intro y hy
  obtain ⟨p, hp, hx, hn, e1, e2⟩ := gfails_mem.1 hy
  have hrg := (places_bf a ha.ok a.start ha.ok.start).bq.rng p hp
  obtain ⟨r1, r2⟩ := place_run ha.ok hp
  have h1 := mt_at (b := b) ha.ok hp
  have h2 := run_rng hb.ok hb.ok.start (w := p.2) (by rw [← hi]; exact r2)
  obtain ⟨h3, h4⟩ := like_step h ha hb hi hrg.1 hrg.2 hx.1 hx.2
  unfold mnx at hn
  rw [if_neg (by omega), if_pos ⟨h3, h4⟩] at hn
  simp at hn
theorem imt_fput {P Q : List Pl} {O : List Int} : ∀ {n : Nat}, imt P Q O n = fput (fun i => (ix P (i : Int)).1.toNat) (fun i => (ix Q (i : Int)).1) O n
  | 0 => rfl
  | n + 1 => by unfold imt fput; rw [imt_fput]
theorem isoM_at {a b : Mly} (ha : a.Ok) (hl : (a.places a.start).length = a.next.length) {i : Nat} (hi : i < a.next.length) : ix (isoM a b) (ix (a.places a.start) (i : Int)).1 = (ix (b.places b.start) (i : Int)).1 := by
  have hf := places_bf a ha a.start ha.start
  have hr : ∀ j : Nat, j < (a.places a.start).length → 0 ≤ (ix (a.places a.start) (j : Int)).1 ∧ (ix (a.places a.start) (j : Int)).1 < (a.next.length : Int) := fun j hj => hf.bq.rng _ (ix_mem (by omega) (by omega))
  have h := fput_hit (p := fun i => (ix (a.places a.start) (i : Int)).1.toNat) (v := fun i => (ix (b.places b.start) (i : Int)).1) (O := List.replicate (a.places a.start).length 0) (n := (a.places a.start).length) (fun x y hx hy e => bq_injn hf.bq hx hy (by have := hr x hx; have := hr y hy; omega)) (fun x hx => by have := hr x hx; simp; omega) i (by omega)
  have h0 := hr i (by omega)
  rw [show (((ix (a.places a.start) (i : Int)).1.toNat : Nat) : Int) = (ix (a.places a.start) (i : Int)).1 by omega] at h
  unfold isoM
  rw [imt_fput]
  exact h
theorem isoM_len {a b : Mly} (hl : (a.places a.start).length = a.next.length) : (isoM a b).length = a.next.length := by
  unfold isoM; rw [imt_len]; simp [hl]
theorem like_iso {a b : Mly} (h : Like a b) (ha : Mnl a) (hb : Mnl b) (hi : a.inputs = b.inputs) : isoA a b = (mt a b, true, 0) := by
  have la := mnl_len ha
  have lb := mnl_len hb
  have hw := like_words h ha hb hi
  have hlw := congrArg List.length hw
  simp only [List.length_map] at hlw
  have hfa := places_bf a ha.ok a.start ha.ok.start
  have hfb := places_bf b hb.ok b.start hb.ok.start
  have e : isoM a b = mt a b := by
    refine ix_ext (by rw [isoM_len la, mt_len]) fun s s0 s1 => ?_
    rw [isoM_len la] at s1
    obtain ⟨w, hv, e⟩ := ha.all s s0 s1
    obtain ⟨k, k0, k1, e1, _⟩ := hfa.all w hv
    obtain ⟨i, rfl⟩ := Int.eq_ofNat_of_zero_le k0
    have h1 := isoM_at (b := b) ha.ok la (i := i) (by omega)
    have h2 := mt_at (b := b) ha.ok (ix_mem (l := a.places a.start) (n := (i : Int)) (by omega) (by omega))
    have h3 := (hfb.run (i : Int) (by omega) (by omega)).1
    have h4 : (ix (a.places a.start) (i : Int)).2 = (ix (b.places b.start) (i : Int)).2 := by
      have h5 := List.getElem_of_eq hw (i := i) (by simp; omega)
      simp only [List.getElem_map] at h5
      rw [ix_nat (by omega), ix_nat (by omega)]
      exact h5
    rw [← e, ← e1, h1, h2, h4, h3]
  unfold isoA
  have hc : chkE a b = 0 := by unfold chkE; rw [if_neg (by have := mok_valid ha.ok; omega), if_neg (by have := mok_valid hb.ok; omega), if_neg (by omega)]
  rw [if_neg (by omega), if_neg (by omega), e, if_pos ?_]
  unfold isoS
  rw [List.all_eq_true]
  intro s hs
  unfold isoR
  rw [List.all_eq_true]
  intro x hx
  simp only [List.mem_range] at hs hx
  obtain ⟨h3, h4⟩ := like_step h ha hb hi (s := (s : Int)) (x := (x : Int)) (by omega) (by omega) (by omega) (by omega)
  simp [isoT, h3, h4]
/-- Machines with an isomorphism answer alike. -/
theorem iso_like {a b : Mly} (ha : a.Ok) (hb : b.Ok) (hi : a.inputs = b.inputs) (h : (isoA a b).2.1 = true) : Like a b := by
  have hc : chkE a b = 0 := by unfold chkE; rw [if_neg (by have := mok_valid ha; omega), if_neg (by have := mok_valid hb; omega), if_neg (by omega)]
  unfold isoA at h
  rw [if_neg (by omega)] at h
  split at h
  · simp at h
  rename_i hl
  split at h
  case isFalse => simp at h
  rename_i hS
  have hst := ha.states
  have hfa := places_bf a ha a.start ha.start
  have hfb := places_bf b hb b.start hb.start
  have h0 : ix (isoM a b) a.start = b.start := by
    have := isoM_at (b := b) ha (by omega) (i := 0) (by omega)
    have h1 := hfa.bq.head
    have h2 := hfb.bq.head
    simp only [Int.natCast_zero] at this
    rw [h1, h2] at this
    exact this
  have hT : ∀ s x, 0 ≤ s → s < (a.next.length : Int) → 0 ≤ x → x < a.inputs → ix (ix a.out s) x = ix (ix b.out (ix (isoM a b) s)) x ∧ ix (isoM a b) (ix (ix a.next s) x) = ix (ix b.next (ix (isoM a b) s)) x := fun s x s0 s1 x0 x1 => by
    unfold isoS at hS
    rw [List.all_eq_true] at hS
    have h1 := hS s.toNat (by simp; omega)
    unfold isoR at h1
    rw [List.all_eq_true] at h1
    have h2 := h1 x.toNat (by simp; omega)
    rw [show ((s.toNat : Nat) : Int) = s by omega, show ((x.toNat : Nat) : Int) = x by omega] at h2
    simpa [isoT] using h2
  have main : ∀ (w : List Int) (s : Int), 0 ≤ s → s < (a.next.length : Int) → (∀ x ∈ w, 0 ≤ x ∧ x < a.inputs) → a.outs s w = b.outs (ix (isoM a b) s) w := by
    intro w
    induction w with
    | nil => intro s _ _ _; rfl
    | cons x w ih =>
      intro s s0 s1 hw
      have hx := hw x (by simp)
      obtain ⟨h1, h2⟩ := hT s x s0 s1 hx.1 hx.2
      have hn := ha.nx s x s0 s1 hx.1 hx.2
      show ix (ix a.out s) x :: a.outs (ix (ix a.next s) x) w = ix (ix b.out (ix (isoM a b) s)) x :: b.outs (ix (ix b.next (ix (isoM a b) s)) x) w
      rw [h1, ← h2, ih _ hn.1 hn.2 (fun y hy => hw y (by simp [hy]))]
  intro w hw
  rw [main w a.start ha.start.1 ha.start.2 hw, h0]
theorem dist_like {a b : Mly} (ha : a.Ok) (hb : b.Ok) (hi : a.inputs = b.inputs) : dist a b a.start b.start = none ↔ Like a b := by
  have hG := pgr ha hb hi
  have ok0 : pok a b (a.start, b.start) := ⟨ha.start, hb.start⟩
  constructor
  · intro h w hw
    have := gfirst_none hG ok0 h w hw
    rw [prun] at this
    refine Classical.byContradiction fun hc => this ?_
    rw [if_neg hc]
  · intro h
    cases hd : dist a b a.start b.start with
    | none => rfl
    | some w =>
      obtain ⟨⟨u, x, t, rfl, hw, hr, hn⟩, _⟩ := gfirst_some hG ok0 hd
      have hu : ∀ y ∈ u, 0 ≤ y ∧ y < a.inputs := fun y hy => hw y (by simp [hy])
      have h1 := h u hu
      have h2 := h _ hw
      rw [prun, if_pos h1] at hr
      simp at hr; subst hr
      rw [outs_app, outs_app, h1] at h2
      have h3 : [ix (ix a.out (a.run a.start u)) x] = [ix (ix b.out (b.run b.start u)) x] := List.append_cancel_left h2
      simp at h3
      unfold pnx at hn
      rw [if_pos h3] at hn
      simp at hn
end Ab
