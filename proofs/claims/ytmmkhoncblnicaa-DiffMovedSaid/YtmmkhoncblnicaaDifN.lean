/- What a match without moved transitions is. Condition: none. -/
import Derived.Test.YtmmkhoncblnicaaDifZ
set_option linter.all false
set_option maxRecDepth 100000
set_option maxHeartbeats 4000000
namespace Ab
theorem mtS_at {b : Mly} {s v : Int} : ∀ {ps : List Pl} {t : Int}, (∀ q ∈ ps, q.1 = s → b.run b.start q.2 = v) → (t = v ∨ ∃ q ∈ ps, q.1 = s) → mtS b ps s t = v
  | [], t, _, h => by
    rcases h with h | ⟨q, hq, _⟩
    · exact h
    · simp at hq
  | p :: ps, t, h1, h2 => by
    show mtS b ps s (if p.1 = s then b.run b.start p.2 else t) = v
    refine mtS_at (fun q hq => h1 q (by simp [hq])) ?_
    by_cases e : p.1 = s
    · rw [if_pos e]; exact .inl (h1 p (by simp) e)
    · rw [if_neg e]
      rcases h2 with h | ⟨q, hq, hs⟩
      · exact .inl h
      · rcases List.mem_cons.1 hq with rfl | hq
        · exact absurd hs e
        · exact .inr ⟨q, hq, hs⟩
theorem mtS_off {b : Mly} {s : Int} : ∀ {ps : List Pl} {t : Int}, (∀ q ∈ ps, q.1 ≠ s) → mtS b ps s t = t
  | [], t, _ => rfl
  | p :: ps, t, h => by
    show mtS b ps s (if p.1 = s then b.run b.start p.2 else t) = t
    rw [if_neg (h p (by simp)), mtS_off fun q hq => h q (by simp [hq])]
theorem mt_ix {a b : Mly} (ha : a.Ok) {s : Int} (h0 : 0 ≤ s) (h1 : s < a.next.length) : ix (mt a b) s = mtS b (a.places a.start) s (-1) := by
  obtain ⟨n, rfl⟩ := Int.eq_ofNat_of_zero_le h0
  rw [ix_nat (by rw [mt_len]; omega)]
  have := mt_range (b := b) ha
  simp only [this, List.getElem_map, List.getElem_range]
theorem bq_inj' {m : Mly} {s : Int} {q : List Pl} (h : Bq m s q) {i j : Int} (i0 : 0 ≤ i) (i1 : i < q.length) (j0 : 0 ≤ j) (j1 : j < q.length) (e : (ix q i).1 = (ix q j).1) : i = j := by
  have hn : (q.map (·.1)).Pairwise (fun a b => a ≠ b) := h.nd
  rw [List.pairwise_iff_getElem] at hn
  have key : ∀ a b : Nat, a < b → b < q.length → (ix q (a : Int)).1 = (ix q (b : Int)).1 → False := fun a b hab hb e => by
    have := hn a b (by simp; omega) (by simp; omega) hab
    rw [ix_nat (by omega), ix_nat hb] at e
    simp [e] at this
  rcases Int.lt_trichotomy i j with hlt | he | hgt
  · exact (key i.toNat j.toNat (by omega) (by omega) (by rw [show ((i.toNat : Nat) : Int) = i by omega, show ((j.toNat : Nat) : Int) = j by omega]; exact e)).elim
  · exact he
  · exact (key j.toNat i.toNat (by omega) (by omega) (by rw [show ((i.toNat : Nat) : Int) = i by omega, show ((j.toNat : Nat) : Int) = j by omega]; exact e.symm)).elim
theorem mt_at {a b : Mly} (ha : a.Ok) {p : Pl} (hp : p ∈ a.places a.start) : ix (mt a b) p.1 = b.run b.start p.2 := by
  have hf := places_bf a ha a.start ha.start
  have hrg := hf.bq.rng p hp
  rw [mt_ix ha hrg.1 hrg.2]
  refine mtS_at (fun q hq e => ?_) (.inr ⟨p, hp, rfl⟩)
  obtain ⟨i, hi, rfl⟩ := List.mem_iff_getElem.1 hp
  obtain ⟨j, hj, rfl⟩ := List.mem_iff_getElem.1 hq
  have := bq_inj' hf.bq (i := (j : Int)) (j := (i : Int)) (by omega) (by omega) (by omega) (by omega) (by rw [ix_nat hi, ix_nat hj]; exact e)
  have : j = i := by omega
  subst this; rfl
theorem mt_off {a b : Mly} (ha : a.Ok) {s : Int} (h0 : 0 ≤ s) (h1 : s < a.next.length) (h : ∀ q ∈ a.places a.start, q.1 ≠ s) : ix (mt a b) s = -1 := by
  rw [mt_ix ha h0 h1, mtS_off h]
/-- The state after a word is that of a place. -/
theorem run_place {a : Mly} (ha : a.Ok) {w : List Int} (hw : ∀ x ∈ w, 0 ≤ x ∧ x < a.inputs) : ∃ p ∈ a.places a.start, p.1 = a.run a.start w := by
  have hf := places_bf a ha a.start ha.start
  obtain ⟨k, k0, k1, e, _⟩ := hf.all w hw
  exact ⟨_, ix_mem k0 k1, e⟩
theorem place_run {a : Mly} (ha : a.Ok) {p : Pl} (hp : p ∈ a.places a.start) : a.run a.start p.2 = p.1 ∧ ∀ x ∈ p.2, 0 ≤ x ∧ x < a.inputs := by
  have hf := places_bf a ha a.start ha.start
  obtain ⟨i, hi, rfl⟩ := List.mem_iff_getElem.1 hp
  have := hf.run (i : Int) (by omega) (by omega)
  rwa [ix_nat hi] at this
theorem mt_own {a : Mly} (ha : a.Ok) {p : Pl} (hp : p ∈ a.places a.start) : ix (mt a a) p.1 = p.1 := by
  rw [mt_at ha hp, (place_run ha hp).1]
theorem movs_own {a : Mly} (ha : a.Ok) : movs a a (mt a a) = [] := by
  unfold movs
  rw [List.map_eq_nil_iff, List.eq_nil_iff_forall_not_mem]
  intro y hy
  obtain ⟨p, hp, hx, hn, e1, e2⟩ := gfails_mem.1 hy
  have hm := mt_own ha hp
  have hrg := (places_bf a ha a.start ha.start).bq.rng p hp
  obtain ⟨r1, r2⟩ := place_run ha hp
  have hw : ∀ x ∈ p.2 ++ [y.2.2], 0 ≤ x ∧ x < a.inputs := by
    intro x hx'
    rcases List.mem_append.1 hx' with h | h
    · exact r2 x h
    · simp at h; rw [h]; exact hx
  obtain ⟨q, hq, e⟩ := run_place ha hw
  have e' : q.1 = ix (ix a.next p.1) y.2.2 := by rw [e, run_app, r1]; rfl
  have hm2 := mt_own ha hq
  rw [e'] at hm2
  unfold mnx at hn
  rw [hm, if_neg (by omega), if_pos ⟨rfl, hm2⟩] at hn
  simp at hn
/-- Without moved transitions the machines do the same. -/
theorem movs_none {a b : Mly} (ha : a.Ok) (hb : b.Ok) (hi : a.inputs = b.inputs) (h : movs a b (mt a b) = []) : ∀ {w : List Int}, (∀ x ∈ w, 0 ≤ x ∧ x < a.inputs) → ix (mt a b) (a.run a.start w) = b.run b.start w ∧ a.outs a.start w = b.outs b.start w := by
  unfold movs at h
  rw [List.map_eq_nil_iff, List.eq_nil_iff_forall_not_mem] at h
  have hf := places_bf a ha a.start ha.start
  have step : ∀ p ∈ a.places a.start, ∀ x, 0 ≤ x → x < a.inputs → mnx a b (mt a b) p.1 x ≠ none := fun p hp x x0 x1 hn =>
    h (p.1, p.2 ++ [x], x) (gfails_mem.2 ⟨p, hp, ⟨x0, x1⟩, hn, rfl, rfl⟩)
  have hmt0 : ∀ p ∈ a.places a.start, 0 ≤ ix (mt a b) p.1 := fun p hp => by
    rw [mt_at ha hp]
    exact (run_rng hb hb.start (by rw [← hi]; exact (place_run ha hp).2)).1
  have main : ∀ n : Nat, ∀ w : List Int, w.length = n → (∀ x ∈ w, 0 ≤ x ∧ x < a.inputs) → ix (mt a b) (a.run a.start w) = b.run b.start w ∧ a.outs a.start w = b.outs b.start w := by
    intro n
    induction n with
    | zero =>
      intro w hw _
      obtain rfl := List.eq_nil_of_length_eq_zero hw
      refine ⟨?_, rfl⟩
      have hh := hf.bq.head
      have := mt_at (b := b) ha (ix_mem (l := a.places a.start) (n := 0) (by omega) (by have := hf.bq.pos; omega))
      rw [hh] at this
      exact this
    | succ n ih =>
      intro w hw hx
      have hne : w ≠ [] := by intro e; subst e; simp at hw
      obtain ⟨u, x, rfl⟩ : ∃ u x, w = u ++ [x] := ⟨w.dropLast, w.getLast hne, (List.dropLast_concat_getLast hne).symm⟩
      have hu : ∀ y ∈ u, 0 ≤ y ∧ y < a.inputs := fun y hy => hx y (by simp [hy])
      have hxx := hx x (by simp)
      obtain ⟨i1, i2⟩ := ih u (by simpa using hw) hu
      obtain ⟨p, hp, e⟩ := run_place ha hu
      have hs := step p hp x hxx.1 hxx.2
      have h0 := hmt0 p hp
      unfold mnx at hs
      rw [if_neg (by omega)] at hs
      split at hs
      · rename_i hc
        rw [e, i1] at hc
        refine ⟨?_, ?_⟩
        · rw [run_app, run_app]; exact hc.2
        · rw [outs_app, outs_app, i2]
          congr 1
          show [_] = [_]
          rw [hc.1]
      · simp at hs
  intro w hw
  exact main _ w rfl hw
theorem movs_dist {a b : Mly} (ha : a.Ok) (hb : b.Ok) (hi : a.inputs = b.inputs) (h : movs a b (mt a b) = []) : dist a b a.start b.start = none := by
  cases hd : dist a b a.start b.start with
  | none => rfl
  | some w =>
    have hG := pgr ha hb hi
    have ok0 : pok a b (a.start, b.start) := ⟨ha.start, hb.start⟩
    obtain ⟨⟨u, x, t, rfl, hw, hr, hn⟩, _⟩ := gfirst_some hG ok0 hd
    have hu : ∀ y ∈ u, 0 ≤ y ∧ y < a.inputs := fun y hy => hw y (by simp [hy])
    have h1 := (movs_none ha hb hi h hu).2
    have h2 := (movs_none ha hb hi h hw).2
    rw [prun, if_pos h1] at hr
    simp at hr; subst hr
    rw [outs_app, outs_app, h1] at h2
    have h3 : [ix (ix a.out (a.run a.start u)) x] = [ix (ix b.out (b.run b.start u)) x] := List.append_cancel_left h2
    simp at h3
    unfold pnx at hn
    rw [if_pos h3] at hn
    simp at hn
end Ab
