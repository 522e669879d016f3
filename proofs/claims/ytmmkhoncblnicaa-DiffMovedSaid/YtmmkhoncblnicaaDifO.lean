/- The law on moved transitions. Condition: none. -/
import Derived.Test.YtmmkhoncblnicaaDifH
set_option linter.all false
set_option maxRecDepth 100000
set_option maxHeartbeats 4000000
namespace Ab
theorem chkE_own {a : Mly} (va : a.validE = 0) : chkE a a = 0 := by unfold chkE; simp [va]
theorem mt_rng {a b : Mly} (ha : a.Ok) (hb : b.Ok) (hi : a.inputs = b.inputs) {s : Int} (h0 : 0 ≤ s) (h1 : s < a.next.length) : (ix (mt a b) s = -1 ∧ ∀ q ∈ a.places a.start, q.1 ≠ s) ∨ ((0 ≤ ix (mt a b) s ∧ ix (mt a b) s < b.next.length) ∧ ∃ q ∈ a.places a.start, q.1 = s) := by
  by_cases h : ∃ q ∈ a.places a.start, q.1 = s
  · obtain ⟨q, hq, rfl⟩ := h
    right
    rw [mt_at ha hq]
    exact ⟨run_rng hb hb.start (by rw [← hi]; exact (place_run ha hq).2), q, hq, rfl⟩
  · have h' : ∀ q ∈ a.places a.start, q.1 ≠ s := fun q hq e => h ⟨q, hq, e⟩
    exact .inl ⟨mt_off ha h0 h1 h', h'⟩
theorem mt_good {a b : Mly} (ha : a.Ok) (hb : b.Ok) (hi : a.inputs = b.inputs) : (mt a b).any (mbad b) = false := by
  rw [List.any_eq_false]
  intro t ht
  obtain ⟨j, hj, rfl⟩ := List.mem_iff_getElem.1 ht
  rw [mt_len] at hj
  have := mt_rng ha hb hi (s := (j : Int)) (by omega) (by omega)
  rw [ix_nat (by rw [mt_len]; exact hj)] at this
  have hn := hb.states
  unfold mbad
  simp
  omega
theorem movs_few {a b : Mly} {M : List Int} (ha : a.Ok) (hA : a.great = false) : (movs a b M).length ≤ 10000 := by
  have hf := places_bf a ha a.start ha.start
  have hle := hf.bq.le
  have h1 := great_f hA
  have hin := ha.inputs
  have e : movs a b M = moo a b M (a.places a.start) ((a.places a.start).length : Int) 0 := (moo_end rfl).symm
  rw [e]
  have h2 := moo_len (a := a) (b := b) (M := M) (P := a.places a.start) (i := ((a.places a.start).length : Int)) (x := 0) (by omega) (by omega) (by omega)
  have h3 : (((a.places a.start).length : Int).toNat + 1) * a.inputs.toNat ≤ 13 * 6 := Nat.mul_le_mul (by omega) (by omega)
  omega
theorem mvA_mt {a b : Mly} (h0 : chkE a b = 0) (hA : a.great = false) : mvA a b (mt a b) = (movs a b (mt a b), 0) := by
  obtain ⟨va, vb, hi⟩ := chkE_ok h0
  have hoa := mvalidE_ok va
  have hob := mvalidE_ok vb
  unfold mvA
  rw [if_neg (by omega), if_neg (by rw [mt_good hoa hob hi, mt_len]; simp), if_neg (by have := movs_few (b := b) (M := mt a b) hoa hA; omega)]
theorem mtA_ok {a b : Mly} (h0 : chkE a b = 0) : mtA a b = (mt a b, 0) := by unfold mtA; rw [if_neg (by omega)]
theorem any_take {l : List Int} {s : Int} {k : Nat} (h : k < l.length) : ((l.take (k + 1)).any fun x => x == s) = (((l.take k).any fun x => x == s) || (ix l (k : Int) == s)) := by
  rw [List.take_add_one, List.getElem?_eq_getElem h, ix_nat h, List.any_append]
  simp
theorem DiffMoved_l (aw : PC F_law49_exampleHolds [] = some (.bool true)) (a b : Mly) (ha : a.fits) (hb : b.fits) (w : List Int) (hl : (w.length : Int) ≤ 9223372036854775807) : PC F_law49_DiffMoved [a.av, b.av, iL w] = some (.bool true) := by
  refine PCx_of (go_law49_DiffMoved rfl ?_)
  have h1 := Great_s a ha
  have h2 := Great_s b hb
  cases hg : a.great
  case true => rw [hg] at h1; simp [h1, aw]
  rw [hg] at h1
  cases hg' : b.great
  case true => rw [hg'] at h2; simp [h1, h2, aw]
  rw [hg'] at h2
  have hc := rChk_s a b ha hb
  by_cases h0 : chkE a b = 0
  case neg => simp [h1, h2, hc, h0, aw]
  rw [h0] at hc
  obtain ⟨va, vb, hi⟩ := chkE_ok h0
  have hoa := mvalidE_ok va
  have hob := mvalidE_ok vb
  have hsa := hoa.states
  have hM := Match_s a b ha hb
  rw [mtA_ok h0] at hM
  have hml : (mt a b).length = a.next.length := mt_len
  have hV := Moved_s a b ha hb (mt a b) (by omega)
  rw [mvA_mt h0 hg] at hV
  have hM' := Match_s a a ha ha
  rw [mtA_ok (chkE_own va)] at hM'
  have hml' : (mt a a).length = a.next.length := mt_len
  have hV' := Moved_s a a ha ha (mt a a) (by omega)
  rw [mvA_mt (chkE_own va) hg, movs_own hoa] at hV'
  have hE := Equal_s a b ha hb
  have hd : disE a b = (dist a b a.start b.start, 0) := by unfold disE; rw [if_neg (by omega)]
  rw [hd, h0] at hE
  have hR := RReach_t a ha va
  have hf := places_bf a hoa a.start hoa.start
  have hle := hf.bq.le
  have hrg := fun s h0 h1 => mt_rng (s := s) hoa hob hi h0 h1
  have hno := fun h w hw => movs_none hoa hob hi h (w := w) hw
  have hdn := fun h => movs_dist hoa hob hi h
  have f1 := From_s a ha a.start w hl
  have f2 := From_s b hb b.start w hl
  have g1 := From_e va hoa.start (w := w)
  have g2 := From_e vb hob.start (w := w)
  rw [← hi] at g2
  have hrr : wordE w a.inputs = 0 → 0 ≤ a.run a.start w ∧ a.run a.start w < (a.next.length : Int) := fun h => run_rng hoa hoa.start (wordE_ok h).2
  generalize mt a b = N at *
  generalize mt a a = N' at *
  generalize movs a b N = V at *
  generalize a.places a.start = P at *
  generalize dist a b a.start b.start = D at *
  generalize hQ : P.map (·.1) = Q at *
  have hQl : Q.length = P.length := by rw [← hQ]; simp
  simp [-List.map_map, -More_nor, h1, h2, hc, aw, hM, hV, hM', hV', hE, hR, hml, hml']
  refine W_iter (fun s : Int => [(13, .int s)]) (fun _ => []) (fun s => 0 ≤ s ∧ s ≤ a.next.length) (fun s => (a.next.length - s).toNat) 0 (by simp [sets]) (by omega) ?_
  intro s ⟨s0, s1⟩
  by_cases hs : s < (a.next.length : Int)
  · have hin : decide (0 ≤ ix N s) = Q.any fun x => x == s := by
      rcases hrg s s0 hs with ⟨e1, e2⟩ | ⟨e1, q, hq, e2⟩
      · have : (Q.any fun x => x == s) = false := by
          rw [← hQ, List.any_map, List.any_eq_false]
          intro q hq
          simpa using e2 q hq
        rw [this, e1]; rfl
      · have : (Q.any fun x => x == s) = true := by
          rw [← hQ, List.any_map, List.any_eq_true]
          exact ⟨q, hq, by simpa using e2⟩
        rw [this]; simp; omega
    simp [-List.map_map, -More_nor, hs]
    refine W_iter (fun k : Nat => [(16, .int k), (18, .bool ((Q.take k).any fun x => x == s))]) (fun _ => []) (fun k => k ≤ Q.length) (fun k => Q.length - k) 0 (by simp [sets]) (by omega) ?_
    intro k k1
    by_cases hk : k < Q.length
    · have ht := any_take (s := s) hk
      generalize (Q.take k).any (fun x => x == s) = B at *
      cases B with
      | true =>
        simp [-List.map_map, -More_nor, hk]
        refine ⟨by omega, More_of (k + 1) (by simp [ht]) rfl (by omega) (by omega)⟩
      | false =>
        have ht' : ((Q.take (k + 1)).any fun x => decide (x = s)) = decide (ix Q (k : Int) = s) := by rw [Bool.false_or] at ht; exact ht
        simp [-List.map_map, -More_nor, hk]
        refine ⟨by omega, More_of (k + 1) (by simp; exact ht'.symm) rfl (by omega) (by omega)⟩
    · have : k = Q.length := by omega
      subst this
      rw [List.take_length]
      generalize (Q.any fun x => x == s) = B at *
      cases B with
      | true =>
        have hp : 0 ≤ ix N s := by simpa using hin
        have hs2 : s < (N.length : Int) := by omega
        simp [-List.map_map, -More_nor, s0, hs2, hp]
        refine ⟨by omega, More_of (s + 1) (by simp) rfl (by omega) (by omega)⟩
      | false =>
        have hp : ¬ 0 ≤ ix N s := by simpa using hin
        have hs2 : s < (N.length : Int) := by omega
        simp [-List.map_map, -More_nor, s0, hs2, hp]
        refine ⟨by omega, More_of (s + 1) (by simp) rfl (by omega) (by omega)⟩
  · by_cases hV0 : V = []
    case neg =>
      have hV1 : 0 < V.length := List.length_pos_iff.2 hV0
      have hV2 : (0 : Int) < (V.length : Int) := by omega
      simp [-List.map_map, hs, hV2, hV1, hV0, aw]
    have hD := hdn hV0
    subst hV0 hD
    by_cases hw : wordE w a.inputs = 0
    · rw [if_neg (by rw [hw]; simp)] at g1
      rw [if_neg (by rw [hw]; simp)] at g2
      rw [g1] at f1
      rw [g2] at f2
      obtain ⟨r1, r2⟩ := hrr hw
      have r3 := (hno rfl w (wordE_ok hw).2).1
      have r3' := eq_true r3
      have r4 : a.run a.start w < (N.length : Int) := by omega
      simp [-List.map_map, hs, aw, f1, f2, r1, r4, r3']
    · rw [if_pos hw] at g1 g2
      rw [g1] at f1
      rw [g2] at f2
      simp [-List.map_map, hs, aw, f1, f2, hw]
end Ab
