/- The law on moved transitions. The law on minimal machines. Condition: none. -/
import Derived.Test.YtmmkhoncblnicaaMinE
import Derived.Test.YtmmkhoncblnicaaMinW
set_option linter.all false
set_option maxRecDepth 100000
set_option maxHeartbeats 4000000
namespace Ab
theorem mt_rng {a b : Mly} (ha : a.Ok) (hb : b.Ok) (hi : a.inputs = b.inputs) {s : Int} (h0 : 0 ≤ s) (h1 : s < a.next.length) : (ix (mt a b) s = -1 ∧ ∀ q ∈ a.places a.start, q.1 ≠ s) ∨ ((0 ≤ ix (mt a b) s ∧ ix (mt a b) s < b.next.length) ∧ ∃ q ∈ a.places a.start, q.1 = s) := by
  by_cases h : ∃ q ∈ a.places a.start, q.1 = s
  · obtain ⟨q, hq, rfl⟩ := h
    right
    rw [mt_at ha hq]
    exact ⟨run_rng hb hb.start (by rw [← hi]; exact (place_run ha hq).2), q, hq, rfl⟩
  · have h' : ∀ q ∈ a.places a.start, q.1 ≠ s := fun q hq e => h ⟨q, hq, e⟩
    exact .inl ⟨mt_off ha h0 h1 h', h'⟩
theorem mt_good {a b : Mly} (ha : a.Ok) (hb : b.Ok) (hi : a.inputs = b.inputs) : (mt a b).any (mbad b) = false := by
  rw [List.any_eq_false]
  intro t ht
  obtain ⟨j, hj, rfl⟩ := List.mem_iff_getElem.1 ht
  rw [mt_len] at hj
  have := mt_rng ha hb hi (s := (j : Int)) (by omega) (by omega)
  rw [ix_nat (by rw [mt_len]; exact hj)] at this
  have hn := hb.states
  unfold mbad
  simp
  omega
theorem movs_few {a b : Mly} {M : List Int} (ha : a.Ok) (hA : a.great = false) : (movs a b M).length ≤ 10000 := by
  have hf := places_bf a ha a.start ha.start
  have hle := hf.bq.le
  have h1 := great_f hA
  have hin := ha.inputs
  have e : movs a b M = moo a b M (a.places a.start) ((a.places a.start).length : Int) 0 := (moo_end rfl).symm
  rw [e]
  have h2 := moo_len (a := a) (b := b) (M := M) (P := a.places a.start) (i := ((a.places a.start).length : Int)) (x := 0) (by omega) (by omega) (by omega)
  have h3 : (((a.places a.start).length : Int).toNat + 1) * a.inputs.toNat ≤ 13 * 6 := Nat.mul_le_mul (by omega) (by omega)
  omega
theorem mvA_mt {a b : Mly} (h0 : chkE a b = 0) (hA : a.great = false) : mvA a b (mt a b) = (movs a b (mt a b), 0) := by
  obtain ⟨va, vb, hi⟩ := chkE_ok h0
  have hoa := mvalidE_ok va
  have hob := mvalidE_ok vb
  unfold mvA
  rw [if_neg (by omega), if_neg (by rw [mt_good hoa hob hi, mt_len]; simp), if_neg (by have := movs_few (b := b) (M := mt a b) hoa hA; omega)]
theorem mtA_ok {a b : Mly} (h0 : chkE a b = 0) : mtA a b = (mt a b, 0) := by unfold mtA; rw [if_neg (by omega)]
end Ab
namespace Ab
theorem minm_le {m : Mly} (hm : m.Ok) : m.minm.next.length ≤ m.next.length := by
  obtain ⟨k, hk⟩ := minm_cls hm
  have h1 : m.minm.next.length = k := (quo_at hk).1
  have h2 := hk.can.len
  have h3 := hk.len
  have h4 : m.trim.next.length = (m.places m.start).length := trim_len
  have h5 := (places_bf m hm m.start hm.start).bq.le
  omega
theorem minm_great {m : Mly} (hm : m.Ok) (h : m.great = false) : m.minm.great = false := by
  have h1 := minm_le hm
  have h2 : m.minm.inputs = m.inputs := rfl
  have h3 := great_f h
  have hok := (minm_mnl hm).ok
  have hl := hok.len
  have hr1 : ∀ r ∈ m.minm.next, (r.length : Int) = m.inputs := fun r hr => by
    obtain ⟨i, hi, rfl⟩ := List.mem_iff_getElem.1 hr
    have := (hok.row (i : Int) (by omega) (by omega)).1
    rwa [ix_nat hi] at this
  have hr2 : ∀ r ∈ m.minm.out, (r.length : Int) = m.inputs := fun r hr => by
    obtain ⟨i, hi, rfl⟩ := List.mem_iff_getElem.1 hr
    have := (hok.row (i : Int) (by omega) (by omega)).2
    rwa [ix_nat hi] at this
  unfold Mly.great
  rw [h2]
  simp only [Bool.or_eq_false_iff, decide_eq_false_iff_not, List.any_eq_false, decide_eq_true_eq]
  exact ⟨⟨⟨⟨by omega, by omega⟩, by omega⟩, fun r hr => by have := hr1 r hr; omega⟩, fun r hr => by have := hr2 r hr; omega⟩
theorem DiffMatched_l (aw : PC F_law49_exampleHolds [] = some (.bool true)) (a b : Mly) (ha : a.fits) (hb : b.fits) : PC F_law49_DiffMatched [a.av, b.av] = some (.bool true) := by
  refine PCx_of (go_law49_DiffMatched rfl ?_)
  have h1 := Great_s a ha
  have h2 := Great_s b hb
  cases hg : a.great
  case true => rw [hg] at h1; simp [h1, aw]
  rw [hg] at h1
  cases hg' : b.great
  case true => rw [hg'] at h2; simp [h1, h2, aw]
  rw [hg'] at h2
  have hc := rChk_s a b ha hb
  by_cases h0 : chkE a b = 0
  case neg => simp [h1, h2, hc, h0, aw]
  rw [h0] at hc
  obtain ⟨va, vb, hi⟩ := chkE_ok h0
  have hoa := mvalidE_ok va
  have hob := mvalidE_ok vb
  have mA := Min_s a ha
  have mB := Min_s b hb
  have eA : minA a = (a.minm, 0) := by unfold minA; rw [if_neg (by omega)]
  have eB : minA b = (b.minm, 0) := by unfold minA; rw [if_neg (by omega)]
  rw [eA] at mA
  rw [eB] at mB
  have nA := minm_mnl hoa
  have nB := minm_mnl hob
  have hiM : a.minm.inputs = b.minm.inputs := hi
  have hgM := minm_great hoa hg
  have hcM : chkE a.minm b.minm = 0 := by unfold chkE; rw [if_neg (by have := mok_valid nA.ok; omega), if_neg (by have := mok_valid nB.ok; omega), if_neg (by omega)]
  have hst := nA.ok.states
  have fA := mok_fits nA.ok
  have fB := mok_fits nB.ok
  have hM := Match_s a.minm b.minm fA fB
  rw [mtA_ok hcM] at hM
  have hml : (mt a.minm b.minm).length = a.minm.next.length := mt_len
  have hV := Moved_s a.minm b.minm fA fB (mt a.minm b.minm) (by omega)
  rw [mvA_mt hcM hgM] at hV
  have hE := Equal_s a b ha hb
  have hd : disE a b = (dist a b a.start b.start, 0) := by unfold disE; rw [if_neg (by omega)]
  rw [hd, h0] at hE
  have hI := Iso_s a.minm b.minm fA fB
  have hLk : Like a b ↔ Like a.minm b.minm := by
    constructor
    · intro h w hw
      rw [minm_outs hoa hw, minm_outs hob (by rw [← hi]; exact hw)]
      exact h w hw
    · intro h w hw
      have := h w hw
      rwa [minm_outs hoa hw, minm_outs hob (by rw [← hi]; exact hw)] at this
  cases hD : dist a b a.start b.start with
  | none =>
    have hL := hLk.1 ((dist_like hoa hob hi).1 hD)
    rw [like_iso hL nA nB hiM] at hI
    rw [like_movs hL nA nB hiM] at hV
    rw [hD] at hE
    have hQ := EqI_s (mt a.minm b.minm) (mt a.minm b.minm) (by omega) (by omega)
    simp [h1, h2, hc, aw, mA, mB, hM, hI, hV, hE, hQ]
  | some w =>
    have hNL : ¬ Like a.minm b.minm := fun h => by
      have := (dist_like hoa hob hi).2 (hLk.2 h)
      rw [hD] at this; simp at this
    have hIf : (isoA a.minm b.minm).2.1 = false := by
      cases hh : (isoA a.minm b.minm).2.1 with
      | false => rfl
      | true => exact absurd (iso_like nA.ok nB.ok hiM hh) hNL
    have hIe : (isoA a.minm b.minm).2.2 = 0 := by
      unfold isoA
      rw [if_neg (by omega)]
      split
      · rfl
      · split <;> rfl
    rw [hIf, hIe] at hI
    have hVn : movs a.minm b.minm (mt a.minm b.minm) ≠ [] := fun h => hNL ((dist_like nA.ok nB.ok hiM).1 (movs_dist nA.ok nB.ok hiM h))
    rw [hD] at hE
    generalize movs a.minm b.minm (mt a.minm b.minm) = V at *
    have hV1 : 0 < V.length := List.length_pos_iff.2 hVn
    have hV2 : (0 : Int) < (V.length : Int) := by omega
    simp [h1, h2, hc, aw, mA, mB, hM, hI, hV, hE, hV1, hV2, hVn]
end Ab
