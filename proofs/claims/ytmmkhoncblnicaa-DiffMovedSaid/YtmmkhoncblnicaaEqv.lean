/- Two machines side by side: the first word with different outputs, by the program and by the document. Condition: none. -/
import Derived.Test.YtmmkhoncblnicaaGbf
import Derived.Test.YtmmkhoncblnicaaGrid
import Derived.Test.YtmmkhoncblnicaaFrom
set_option linter.all false
set_option maxRecDepth 100000
set_option maxHeartbeats 4000000
namespace Ab
abbrev P2 := Int × Int
def pnx (a b : Mly) (p : P2) (x : Int) : Option P2 := if ix (ix a.out p.1) x = ix (ix b.out p.2) x then some (ix (ix a.next p.1) x, ix (ix b.next p.2) x) else none
def pok (a b : Mly) (p : P2) : Prop := (0 ≤ p.1 ∧ p.1 < (a.next.length : Int)) ∧ (0 ≤ p.2 ∧ p.2 < (b.next.length : Int))
theorem pfin {n m : Nat} {l : List P2} (hn : l.Nodup) (h : ∀ p ∈ l, (0 ≤ p.1 ∧ p.1 < (n : Int)) ∧ (0 ≤ p.2 ∧ p.2 < (m : Int))) : l.length ≤ n * m := by
  have hd : (l.map fun p : P2 => p.1 * (m : Int) + p.2).Nodup := by
    rw [List.nodup_iff_pairwise_ne, List.pairwise_map]
    refine List.Pairwise.imp_of_mem ?_ hn
    intro a b ha hb hab e
    obtain ⟨_, h3, h4⟩ := h a ha
    obtain ⟨_, h7, h8⟩ := h b hb
    apply hab
    have hm : (0 : Int) < m := by omega
    have e1 : (a.1 * (m : Int) + a.2) / m = a.1 := by rw [Int.add_comm, Int.add_mul_ediv_right _ _ (by omega), Int.ediv_eq_zero_of_lt h3 h4]; omega
    have e2 : (b.1 * (m : Int) + b.2) / m = b.1 := by rw [Int.add_comm, Int.add_mul_ediv_right _ _ (by omega), Int.ediv_eq_zero_of_lt h7 h8]; omega
    have e3 : a.1 = b.1 := by rw [← e1, ← e2, e]
    rw [e3] at e
    exact Prod.ext e3 (by omega)
  have := nodup_len (n * m) hd (fun x hx => by
    obtain ⟨p, hp, rfl⟩ := List.mem_map.1 hx
    obtain ⟨⟨h1, h2⟩, h3, h4⟩ := h p hp
    have hmul : p.1 * (m : Int) ≤ ((n : Int) - 1) * m := Int.mul_le_mul_of_nonneg_right (by omega) (by omega)
    have h0 : 0 ≤ p.1 * (m : Int) := Int.mul_nonneg h1 (by omega)
    have e : ((n * m : Nat) : Int) = (n : Int) * m := Int.natCast_mul n m
    rw [Int.sub_mul, Int.one_mul] at hmul
    rw [e]
    omega)
  simpa using this
theorem pgr {a b : Mly} (ha : a.Ok) (hb : b.Ok) (hi : a.inputs = b.inputs) : GrOk (pnx a b) a.inputs (pok a b) (a.next.length * b.next.length) := by
  have hin := ha.inputs
  refine ⟨by omega, fun p x y hp x0 x1 hy => ?_, fun l hn hl => pfin hn hl⟩
  unfold pnx at hy
  split at hy
  · injection hy with hy
    subst hy
    exact ⟨ha.nx _ _ hp.1.1 hp.1.2 x0 x1, hb.nx _ _ hp.2.1 hp.2.2 x0 (by omega)⟩
  · simp at hy
/-- The first word with different outputs from two states. -/
def dist (a b : Mly) (s t : Int) : Option (List Int) := gfirst (pnx a b) a.inputs (a.next.length * b.next.length) (s, t)
theorem prun {a b : Mly} : ∀ {w : List Int} {s t : Int}, grun (pnx a b) (s, t) w = if a.outs s w = b.outs t w then some (a.run s w, b.run t w) else none
  | [], s, t => by simp [grun, Mly.outs, Mly.run]
  | x :: w, s, t => by
    simp only [grun, Mly.outs, Mly.run, pnx]
    by_cases h : ix (ix a.out s) x = ix (ix b.out t) x
    · rw [if_pos h, Option.bind_some, prun]
      simp [h]
    · rw [if_neg h]
      simp [h]
/-! ### The queue in memory -/
abbrev P3 := P2 × List Int
def qc (q : List P3) : List AV := q.flatMap fun p => [.int p.1.1, .int p.1.2, wB (true, p.2)]
theorem qc_len : ∀ {q : List P3}, (qc q).length = 3 * q.length
  | [] => rfl
  | p :: q => by
    have := qc_len (q := q)
    simp only [qc, List.flatMap_cons, List.length_append, List.length_cons, List.length_nil] at this ⊢; omega
theorem qc_app {q r : List P3} : qc (q ++ r) = qc q ++ qc r := by simp [qc]
theorem qc_one {p : P3} : qc [p] = [.int p.1.1, .int p.1.2, wB (true, p.2)] := by simp [qc]
theorem qc_drop : ∀ {q : List P3} {n : Nat}, n < q.length → (qc q).drop (n * 3) = .int (ix q (n : Int)).1.1 :: .int (ix q (n : Int)).1.2 :: wB (true, (ix q (n : Int)).2) :: (qc q).drop (n * 3 + 3)
  | p :: q, 0, _ => rfl
  | p :: q, n + 1, h => by
    have := qc_drop (q := q) (n := n) (by simpa using h)
    have e : ix (p :: q) ((n + 1 : Nat) : Int) = ix q (n : Int) := by simp [ix]
    rw [e, show (n + 1) * 3 = n * 3 + 1 + 1 + 1 by omega]
    exact this
section
variable {q : List P3} {n : Int} {K : AV → Prop} {t : Tk K}
theorem qc_get (h0 : 0 ≤ n) (h1 : n < q.length) : elm (qc q) (n.toNat * 3) = some (.int (ix q n).1.1) ∧ elm (qc q) (n.toNat * 3 + 1) = some (.int (ix q n).1.2) ∧ elm (qc q) (n.toNat * 3 + 2) = some (wB (true, (ix q n).2)) := by
  have := qc_drop (q := q) (n := n.toNat) (by omega)
  rw [show ((n.toNat : Nat) : Int) = n by omega] at this
  rw [elm_eq, elm_eq, elm_eq]
  have g : ∀ j, (qc q)[n.toNat * 3 + j]? = ((qc q).drop (n.toNat * 3))[j]? := fun j => by rw [List.getElem?_drop]
  have g0 := g 0
  rw [Nat.add_zero] at g0
  rw [g0, g 1, g 2, this]
  exact ⟨rfl, rfl, rfl⟩
theorem pT_qc2 (h0 : 0 ≤ n) (h1 : n < q.length) : pT (qc q) (0 + n.toNat * 3) (some 2) K t = K (.agg [.int (ix q n).1.1, .int (ix q n).1.2]) := by
  have := qc_drop (q := q) (n := n.toNat) (by omega)
  rw [show ((n.toNat : Nat) : Int) = n by omega] at this
  unfold pT part
  rw [Nat.zero_add]
  simp only
  rw [if_pos (by rw [qc_len]; omega), this]
  rfl
theorem pT_qc2' (h0 : 0 ≤ n) (h1 : n < q.length) : pT (qc q) (0 + n.toNat * 3 + 0) (some 2) K t = K (.agg [.int (ix q n).1.1, .int (ix q n).1.2]) := pT_qc2 h0 h1
end
/-- The pairs that were seen. -/
structure Sn2 (N C : Nat) (T : List (List Bool)) (q : List P3) : Prop where
  sh : Sh N C T
  ok : ∀ s t, 0 ≤ s → s < (N : Int) → 0 ≤ t → t < (C : Int) → ix (ix T s) t = hasG q (s, t)
theorem Sn2.add {N C : Nat} {T : List (List Bool)} {q : List P3} (h : Sn2 N C T q) {s t : Int} {w : List Int} (s0 : 0 ≤ s) (s1 : s < N) (t0 : 0 ≤ t) (t1 : t < C) : Sn2 N C (T.set s.toNat ((ix T s).set t.toNat true)) (q ++ [((s, t), w)]) := by
  have hl := h.sh.len
  refine ⟨⟨by rw [List.length_set]; exact hl, fun r hr => ?_⟩, fun u v u0 u1 v0 v1 => ?_⟩
  · rcases List.mem_or_eq_of_mem_set hr with hr | hr
    · exact h.sh.row r hr
    · rw [hr, List.length_set]; exact h.sh.ix s0 s1
  · have hg : hasG (q ++ [((s, t), w)]) (u, v) = (hasG q (u, v) || decide (s = u ∧ t = v)) := by
      unfold hasG
      rw [List.any_append]
      simp
    rw [ixs_set u0 (by omega), hg, ← h.ok u v u0 u1 v0 v1]
    by_cases e : u = s
    · subst e
      have hr := h.sh.ix u0 u1
      rw [if_pos (by omega), ixs_set v0 (by omega)]
      by_cases e2 : v = t
      · subst e2; rw [if_pos (by omega)]; simp
      · rw [if_neg (by omega)]
        simp
        intro e3; exact absurd e3.symm e2
    · rw [if_neg (by omega)]
      simp
      intro e2; exact absurd e2.symm e
theorem notUnd_wB (p : Bool × List Int) : notUnd (wB p) = true := by
  rcases wB_cases p with h | h
  · rw [h.1]; rfl
  · rw [h]; rfl
theorem hasG_at {q : List P3} {i : Int} {t : P2} (i0 : 0 ≤ i) (i1 : i < q.length) (h : (ix q i).1 = t) : hasG q t = true := hasG_iff.2 (List.mem_map.2 ⟨_, ix_mem i0 i1, h⟩)
theorem join_w (w : List Int) (a : Int) (h : w.length ≤ 100000) : PCx L F_word_Join [.imm false [wB (true, w), .imm false [.int a]]] = some (iL (w ++ [a])) := by
  have := Join_s [(true, w), (false, [a])] (by simp) (by simp [cat]; omega)
  simp [cat] at this
  rw [← this]
  rfl
theorem ExtW_s (w : List Int) (a : Int) (hl : (w.length : Int) ≤ 1000000) : PCx L F_ref09_Extended [wk (wB (true, w)), .int a] = some (iL (w ++ [a])) := by
  have e : wk (wB (true, w)) = iL w := by
    rcases wB_cases (true, w) with ⟨h1, h2⟩ | h1
    · simp at h2; subst h2; rfl
    · rw [h1]; rfl
  rw [e]
  refine PCx_of (go_ref09_Extended rfl ?_)
  simp
  refine ⟨by omega, fun h => ?_, fun h => ⟨by omega, ?_⟩⟩
  · subst h; rfl
  · have := vd_iL (σ := [⟨none, (w ++ [a]).map .int, .live⟩]) (fr := false) (b := 0) (xs := w ++ [a]) (n := w.length + 1) (st := .live) rfl (by simp) (by simp)
    simp at this
    simp [this]
theorem hasG_take {q : List P3} {t : P2} {k : Nat} (h : k < q.length) : hasG (q.take (k + 1)) t = (hasG (q.take k) t || decide ((ix q (k : Int)).1 = t)) := by
  unfold hasG
  rw [List.take_add_one, List.getElem?_eq_getElem h, ix_nat h, List.any_append]
  simp
theorem search_s (a b : Mly) (ha : a.Ok) (hb : b.Ok) (hi : a.inputs = b.inputs) (s t : Int) (hs : 0 ≤ s ∧ s < (a.next.length : Int)) (ht : 0 ≤ t ∧ t < (b.next.length : Int)) : PC F_equiv_search [a.av, b.av, .agg [.int s, .int t]] = some (.tup [iL ((dist a b s t).getD []), .bool (dist a b s t).isSome]) := by
  refine PCx_of (go_equiv_search rfl ?_)
  have hG := pgr ha hb hi
  have hin := ha.inputs
  have hsa := ha.states
  have hsb := hb.states
  have hla := ha.len
  have hlb := hb.len
  have hD : gfirst (pnx a b) a.inputs (a.next.length * b.next.length) (s, t) = dist a b s t := rfl
  generalize dist a b s t = D at *
  have hNb : a.next.length * b.next.length ≤ 128 * 128 := Nat.mul_le_mul (by omega) (by omega)
  generalize a.next.length * b.next.length = N at *
  simp [-List.map_replicate]
  refine ⟨by omega, ?_⟩
  refine W_iter (fun p : Nat => [(5, .int p)]) (fun p => grid0 b.next.length a.next.length (List.replicate p (List.replicate b.next.length false)) []) (fun p => p ≤ a.next.length) (fun p => a.next.length - p) 0 (by simp [sets, grid0]) (by simp) ?_
  intro k hk
  by_cases h : k < a.next.length
  · have e := g0_next' (C := b.next.length) (N := a.next.length) (m := List.replicate k (List.replicate b.next.length false)) (r := List.replicate b.next.length false) (by simpa using h)
    simp [-More_nor, -List.map_replicate, -List.map_append, -List.map_set, h, g0_app, g0_len, g0_outer, -pU_lit, ↓pU_sets]
    (repeat' apply And.intro) <;> try omega
    simp only [List.length_replicate] at e
    refine More_of (k + 1) (by simp) (by rw [List.replicate_succ']; exact e) (by omega) (by omega)
  · have e : k = a.next.length := by omega
    subst e
    have hsn : Sn2 a.next.length b.next.length (List.replicate a.next.length (List.replicate b.next.length false)) ([] : List P3) := ⟨⟨by simp, fun r hr => by rw [List.eq_of_mem_replicate hr]; simp⟩, fun u v u0 u1 v0 v1 => by rw [ixs_rep u0 u1, ixs_rep v0 v1]; rfl⟩
    generalize List.replicate a.next.length (List.replicate b.next.length false) = T0 at *
    have hT0 := hsn.sh
    have hrl := hT0.ix hs.1 hs.2
    have hsn1 := hsn.add (w := []) hs.1 hs.2 ht.1 ht.2
    rw [List.nil_append] at hsn1
    have o1 := g0_outerN (C := b.next.length) (rest := []) hT0.len
    have r1 := g0_row (C := b.next.length) (N := a.next.length) (rest := []) (m := T0) hs.1 (by rw [hT0.len]; exact hs.2)
    have p1 := fun (K : AV → Prop) (t : Tk K) => pT_rfsN (e := 1) (C := b.next.length) (k := a.next.length) (K := K) (t := t) hs.1 hs.2
    have s1 := fun r => g0_set (C := b.next.length) (N := a.next.length) (rest := []) (T := T0) (r := r) hs.1 (by rw [hT0.len]; exact hs.2)
    have ln := hT0.len
    have htl : max t 0 < (b.next.length : Int) := by omega
    simp [-More_nor, -List.map_set, h, o1, r1, s1, hs.1, hs.2, ht.1, ht.2, ↓p1, hrl, g0_app, g0_len, ln, htl]
    have ok0 : pok a b (s, t) := ⟨hs, ht⟩
    refine W_iter (fun p : Int × List P3 × List (List Bool) => [(10, .int p.1), (11, .sl (1 + a.next.length) (3 * p.2.1.length) 0 p.2.1.length)]) (fun p => grid0 b.next.length a.next.length p.2.2 [⟨some 3, qc p.2.1, .live⟩])
      (fun p => p.1 ≤ p.2.1.length ∧ Gst (pnx a b) a.inputs (pok a b) N (s, t) p.1 0 p.2.1 ∧ Nof (pnx a b) a.inputs p.1 0 p.2.1 ∧ Sn2 a.next.length b.next.length p.2.2 p.2.1)
      (fun p => (N + 1 - p.1).toNat) (0, [((s, t), [])], T0.set s.toNat ((ix T0 s).set t.toNat true)) (by simp [sets, qc_one, wB, catR]) ⟨by simp, Gst.init hG ok0, Nof.init, hsn1⟩ ?_
    rintro ⟨i, q, T⟩ ⟨i1, hq, hn, hT⟩
    dsimp only at i1 hq hn hT ⊢
    have i0 := hq.i0
    have hql := hq.gi.gq.le hG
    by_cases hi' : i < q.length
    · have hp := hq.gi.gq.rng _ (ix_mem i0 hi')
      have b1 := g0_outerN (C := b.next.length) (rest := [⟨some 3, qc q, .live⟩]) hT.sh.len
      have b2 := g0_rest (C := b.next.length) (B := ⟨some 3, qc q, .live⟩) hT.sh.len
      have p2 := fun (K : AV → Prop) (t : Tk K) => pT_qc2 (K := K) (t := t) i0 hi'
      have p2' := fun (K : AV → Prop) (t : Tk K) => pT_qc2' (K := K) (t := t) i0 hi'
      simp [-More_nor, hi', i0, b2, qc_len, ↓p2, ↓p2']
      refine W_iter (fun p : Int × List P3 × List (List Bool) => [(11, .sl (1 + a.next.length) (3 * p.2.1.length) 0 p.2.1.length), (12, .int p.1)]) (fun p => grid0 b.next.length a.next.length p.2.2 [⟨some 3, qc p.2.1, .live⟩])
        (fun p => (0 ≤ p.1 ∧ p.1 ≤ a.inputs) ∧ (i < p.2.1.length ∧ ix p.2.1 i = ix q i) ∧ Gst (pnx a b) a.inputs (pok a b) N (s, t) i p.1 p.2.1 ∧ Nof (pnx a b) a.inputs i p.1 p.2.1 ∧ Sn2 a.next.length b.next.length p.2.2 p.2.1)
        (fun p => (a.inputs - p.1).toNat) (0, q, T) (by simp [sets]) ⟨by dsimp only; omega, ⟨hi', rfl⟩, hq, hn, hT⟩ ?_
      rintro ⟨x, q', T'⟩ ⟨⟨x0, x1⟩, ⟨hiq, gx⟩, gq, gn, gT⟩
      dsimp only at x0 x1 hiq gx gq gn gT ⊢
      have gql := gq.gi.gq.le hG
      by_cases hx : x < a.inputs
      · have hra := ha.row _ hp.1.1 hp.1.2
        have hrb := hb.row _ hp.2.1 hp.2.2
        have hna := ha.nx _ x hp.1.1 hp.1.2 x0 hx
        have hnb := hb.nx _ x hp.2.1 hp.2.2 x0 (by omega)
        have hwl := gq.gi.gq.len i i0 hiq
        rw [gx] at hwl
        have hj := join_w (ix q i).2 x (by omega)
        have b1 := g0_outerN (C := b.next.length) (rest := [⟨some 3, qc q', .live⟩]) gT.sh.len
        have b2 := g0_rest (C := b.next.length) (B := ⟨some 3, qc q', .live⟩) gT.sh.len
        have gel := qc_get i0 hiq
        rw [gx] at gel
        obtain ⟨⟨q1, q2⟩, q3, q4⟩ := hp
        have hp1o : (ix q i).1.1 < (a.out.length : Int) := by omega
        have hp2o : (ix q i).1.2 < (b.out.length : Int) := by omega
        have hxb : x < b.inputs := by omega
        by_cases ho : ix (ix a.out (ix q i).1.1) x = ix (ix b.out (ix q i).1.2) x
        · have hx1 : pnx a b (ix q i).1 x = some (ix (ix a.next (ix q i).1.1) x, ix (ix b.next (ix q i).1.2) x) := by unfold pnx; rw [if_pos ho]
          have ho' : (ix (ix a.out (ix q i).1.1) x = ix (ix b.out (ix q i).1.2) x) = True := eq_true ho
          generalize hu : ix (ix a.next (ix q i).1.1) x = u at *
          generalize hv : ix (ix b.next (ix q i).1.2) x = v at *
          have hstay : hasG q' (u, v) = true → Gst (pnx a b) a.inputs (pok a b) N (s, t) i (x + 1) q' := fun hh => gq.stay hG hiq x0 hx (gstep_has (by rw [gx]; exact hx1) hh)
          have hnof : Nof (pnx a b) a.inputs i (x + 1) q' := gn.step (by rw [gx, hx1]; simp)
          by_cases he : u = (ix q i).1.1 ∧ v = (ix q i).1.2
          · have h1 : (u = (ix q i).1.1) = True := eq_true he.1
            have h2 : (v = (ix q i).1.2) = True := eq_true he.2
            simp [-More_nor, hx, x0, q1, q2, q3, q4, hp1o, hp2o, hra.1, hra.2, hrb.1, hrb.2, hxb, ho', hu, hv, h1, h2]
            refine ⟨by omega, More_of (x + 1, q', T') (by simp) rfl ⟨by dsimp only; omega, ⟨hiq, gx⟩, hstay (hasG_at i0 hiq (by rw [gx]; exact Prod.ext he.1.symm he.2.symm)), hnof, gT⟩ (by dsimp only; omega)⟩
          · have h1 : (¬ u = (ix q i).1.1 ∨ ¬ v = (ix q i).1.2) = True := eq_true (by omega)
            have b3 := g0_row (C := b.next.length) (N := a.next.length) (rest := [⟨some 3, qc q', .live⟩]) (m := T') hna.1 (by rw [gT.sh.len]; exact hna.2)
            have p1 := fun (K : AV → Prop) (t : Tk K) => pT_rfsN (e := 1) (C := b.next.length) (k := a.next.length) (K := K) (t := t) hna.1 hna.2
            have hrl := gT.sh.ix hna.1 hna.2
            have hsee := gT.ok u v hna.1 hna.2 hnb.1 hnb.2
            have hvm : max v 0 < (b.next.length : Int) := by omega
            cases hh : hasG q' (u, v) with
            | true =>
              rw [hh] at hsee
              simp [-More_nor, hx, x0, q1, q2, q3, q4, hp1o, hp2o, hra.1, hra.2, hrb.1, hrb.2, hxb, ho', hu, hv, h1, hna.1, hna.2, hnb.1, hnb.2, b1, b3, ↓p1, hrl, hsee, hvm]
              refine ⟨⟨by omega, More_of (x + 1, q', T') (by simp) rfl ⟨by dsimp only; omega, ⟨hiq, gx⟩, hstay hh, hnof, gT⟩ (by dsimp only; omega)⟩, fun e1 e2 => absurd ⟨e1, e2⟩ he⟩
            | false =>
              rw [hh] at hsee
              have hnew : Gst (pnx a b) a.inputs (pok a b) N (s, t) i (x + 1) (q' ++ [((u, v), (ix q i).2 ++ [x])]) := by
                have := gq.step hG hiq x0 hx
                rw [gstep_new (by rw [gx]; exact hx1) hh, gx] at this
                exact this
              have s1 := fun r => g0_set (C := b.next.length) (N := a.next.length) (rest := [⟨some 3, qc q', .live⟩]) (T := T') (r := r) hna.1 (by rw [gT.sh.len]; exact hna.2)
              have hsn2 := gT.add (w := (ix q i).2 ++ [x]) hna.1 hna.2 hnb.1 hnb.2
              have hsl := hsn2.sh.len
              have b4 := fun r => g0_rest (C := b.next.length) (N := a.next.length) (T := T'.set u.toNat r) (B := ⟨some 3, qc q', .live⟩) (by rw [List.length_set]; exact gT.sh.len)
              have s2 := fun r B => g0_setrest (C := b.next.length) (N := a.next.length) (T := T'.set u.toNat r) (B := ⟨some 3, qc q', .live⟩) (B' := B) (by rw [List.length_set]; exact gT.sh.len)
              have hk3 : (3 * q'.length = q'.length * kst (some 3)) = True := eq_true (by simp [kst]; omega)
              simp [-More_nor, -List.map_set, hx, x0, q1, q2, q3, q4, hp1o, hp2o, hra.1, hra.2, hrb.1, hrb.2, hxb, ho', hu, hv, h1, hna.1, hna.2, hnb.1, hnb.2, b1, b3, ↓p1, hrl, hsee, hvm, s1, b4, s2, qc_len, hk3, gel, hiq, hj, i0, noLoc_wB, cells_wB, notUnd_wB]
              refine ⟨⟨by omega, by omega, More_of (x + 1, q' ++ [((u, v), (ix q i).2 ++ [x])], T'.set u.toNat ((ix T' u).set v.toNat true)) (by simp [Nat.mul_add]) (by simp [-List.map_set, qc_app, qc_one, wB, iL]) ⟨by dsimp only; omega, ⟨by simp; omega, by dsimp only; rw [ixa_app i0 hiq, gx]⟩, hnew, hnof.app i0 hiq, hsn2⟩ (by dsimp only; omega)⟩, fun e1 e2 => absurd ⟨e1, e2⟩ he⟩
        · have hx1 : pnx a b (ix q i).1 x = none := by unfold pnx; rw [if_neg ho]
          have hres := gfirst_hit hG gq gn hiq x0 hx (by rw [gx]; exact hx1)
          rw [hD, gx] at hres
          subst hres
          simp [-More_nor, hx, x0, q1, q2, q3, q4, hp1o, hp2o, hra.1, hra.2, hrb.1, hrb.2, hxb, ho, b2, qc_len, gel, hiq, hj, i0, noLoc_wB, cells_wB, notUnd_wB]
      · have hxi : x = a.inputs := by omega
        subst hxi
        simp [-More_nor]
        refine ⟨by omega, More_of (i + 1, q', T') (by simp) rfl ⟨by dsimp only; omega, gq.next hG hiq, gn.next, gT⟩ (by dsimp only; omega)⟩
    · have hres := gfirst_no hq hn hi'
      rw [hD] at hres
      subst hres
      simp [hi']
/-- The error of two machines. -/
def chkE (a b : Mly) : Int := if a.validE ≠ 0 then a.validE else if b.validE ≠ 0 then b.validE else if a.inputs ≠ b.inputs then 15 else 0
theorem chkE_ok {a b : Mly} (h : chkE a b = 0) : a.validE = 0 ∧ b.validE = 0 ∧ a.inputs = b.inputs := by
  unfold chkE at h
  split at h
  · rename_i h1; exact absurd h h1
  split at h
  · rename_i h1; exact absurd h h1
  split at h
  · simp at h
  · rename_i h1 h2 h3
    exact ⟨by simpa using h1, by simpa using h2, by simpa using h3⟩
theorem rChk_s (a b : Mly) (ha : a.fits) (hb : b.fits) : PC F_ref09_Check [a.av, b.av] = some (.int (chkE a b)) := by
  refine PCx_of (go_ref09_Check rfl ?_)
  unfold chkE
  by_cases h1 : a.validE = 0
  · by_cases h2 : b.validE = 0
    · by_cases h3 : a.inputs = b.inputs
      · have h3' : (a.inputs = b.inputs) = True := eq_true h3
        simp [rmValid_s a ha, rmValid_s b hb, h1, h2, h3']
      · simp [rmValid_s a ha, rmValid_s b hb, h1, h2, h3]
    · simp [rmValid_s a ha, rmValid_s b hb, h1, h2]
  · simp [rmValid_s a ha, h1]
/-- What Distinguish answers. -/
def disE (a b : Mly) : Option (List Int) × Int := if chkE a b ≠ 0 then (none, chkE a b) else (dist a b a.start b.start, 0)
abbrev disA (r : Option (List Int) × Int) : AV := .tup [iL (r.1.getD []), .bool r.1.isSome, .int r.2]
theorem check_s (a b : Mly) (ha : a.fits) (hb : b.fits) : PC F_equiv_check [a.av, b.av] = some (.int (chkE a b)) := by
  refine PCx_of (go_equiv_check rfl ?_)
  simp
  refine W_iter (fun i : Nat => [(4, .int i)]) (fun _ => []) (fun i => i ≤ 2 ∧ (0 < i → a.validE = 0) ∧ (1 < i → b.validE = 0)) (fun i => 2 - i) 0 (by simp [sets]) (by simp) ?_
  intro i ⟨i1, i2, i3⟩
  have e1 := mValid_s a ha
  have e2 := mValid_s b hb
  match i, i1, i2, i3 with
  | 0, _, _, _ =>
    by_cases h1 : a.validE = 0
    · rw [h1] at e1
      simp [-More_nor, e1]
      exact More_of 1 (by simp) rfl ⟨by omega, fun _ => h1, by omega⟩ (by omega)
    · simp [-More_nor, e1, h1]
      unfold chkE; rw [if_pos h1]
  | 1, _, i2, _ =>
    have h1 := i2 (by omega)
    by_cases h2 : b.validE = 0
    · rw [h2] at e2
      simp [-More_nor, e2]
      exact More_of 2 (by simp) rfl ⟨by omega, fun _ => h1, fun _ => h2⟩ (by omega)
    · simp [-More_nor, e2, h2]
      unfold chkE; rw [if_neg (by omega), if_pos h2]
  | 2, _, i2, i3 =>
    have h1 := i2 (by omega)
    have h2 := i3 (by omega)
    simp [-More_nor]
    unfold chkE; rw [if_neg (by omega), if_neg (by omega)]
    exact ⟨fun h => by simp [h], fun h => by simp [h]⟩
theorem Distinguish_s (a b : Mly) (ha : a.fits) (hb : b.fits) : PC F_equiv_Distinguish [a.av, b.av] = some (disA (disE a b)) := by
  refine PCx_of (go_equiv_Distinguish rfl ?_)
  unfold disE
  by_cases h : chkE a b = 0
  · obtain ⟨h1, h2, h3⟩ := chkE_ok h
    have hma := mvalidE_ok h1
    have hmb := mvalidE_ok h2
    have e := search_s a b hma hmb h3 a.start b.start hma.start hmb.start
    simp [check_s a b ha hb, h, e]
  · simp [check_s a b ha hb, h]
theorem Equal_s (a b : Mly) (ha : a.fits) (hb : b.fits) : PC F_equiv_Equal [a.av, b.av] = some (.tup [.bool (decide (chkE a b = 0) && !(disE a b).1.isSome), .int (chkE a b)]) := by
  refine PCx_of (go_equiv_Equal rfl ?_)
  have e2 : (disE a b).2 = chkE a b := by unfold disE; split <;> simp_all
  by_cases h : chkE a b = 0
  · simp [Distinguish_s a b ha hb, e2, h]
  · simp [Distinguish_s a b ha hb, e2, h]
end Ab
