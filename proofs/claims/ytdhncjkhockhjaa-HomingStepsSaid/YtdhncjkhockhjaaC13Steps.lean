/- Whether a machine is too great. Whether a machine is small. The laws on traces and on words that resolve. The law on words that resolve. The law on one more input. Condition: none. -/
import Derived.Test.YtdhncjkhockhjaaGbf
import Derived.Test.YtdhncjkhockhjaaHomO
import Derived.Test.YtdhncjkhockhjaaHomE
set_option linter.all false
set_option maxRecDepth 100000
set_option maxHeartbeats 4000000
namespace Ab
def Mly.great (m : Mly) : Bool := decide (12 < (m.next.length : Int)) || decide (12 < (m.out.length : Int)) || decide (6 < m.inputs) || (m.next.any fun r => decide (12 < (r.length : Int))) || (m.out.any fun r => decide (12 < (r.length : Int)))
theorem Great_s (m : Mly) (h : m.fits) : PC F_law08_Great [m.av] = some (.bool m.great) := by
  refine PCx_of (go_law08_Great rfl ?_)
  have hn := h.next.1
  have ho := h.out.1
  have g1 : 12 < (m.next.length : Int) ∨ 12 < (m.out.length : Int) ∨ 6 < m.inputs → m.great = true := by
    intro h; unfold Mly.great; simp only [Bool.or_eq_true, decide_eq_true_eq]; omega
  have g2 : ∀ i, 0 ≤ i → i < (m.next.length : Int) → 12 < ((ix m.next i).length : Int) → m.great = true := fun i h0 h1 h2 => by
    have := any_ix (p := fun r => decide (12 < (r.length : Int))) h0 h1 (by simpa using h2)
    unfold Mly.great; rw [this]; simp
  have g3 : ∀ i, 0 ≤ i → i < (m.out.length : Int) → 12 < ((ix m.out i).length : Int) → m.great = true := fun i h0 h1 h2 => by
    have := any_ix (p := fun r => decide (12 < (r.length : Int))) h0 h1 (by simpa using h2)
    unfold Mly.great; rw [this]; simp
  simp
  refine ⟨fun h => (g1 (.inl h)), fun a1 => ⟨fun h => (g1 (.inr (.inl h))), fun a2 => ⟨fun h => (g1 (.inr (.inr h))), fun a3 => ?_⟩⟩⟩
  refine W_iter (fun i : Int => [(2, .int i)]) (fun _ => []) (fun i => 0 ≤ i ∧ i ≤ m.next.length ∧ ∀ j, 0 ≤ j → j < i → ((ix m.next j).length : Int) ≤ 12) (fun i => (m.next.length - i).toNat) 0 rfl ⟨by omega, by omega, upto_zero⟩ fun i ⟨i0, i1, i2⟩ => ?_
  by_cases hi : i < m.next.length
  · simp [-More_nor, hi, i0]
    refine ⟨fun h => (g2 i i0 hi h), fun h => ⟨by omega, More_of (i + 1) rfl rfl ⟨by omega, by omega, upto_succ (by omega) i2⟩ (by omega)⟩⟩
  · simp [hi]
    refine W_iter (fun i : Int => [(5, .int i)]) (fun _ => []) (fun i => 0 ≤ i ∧ i ≤ m.out.length ∧ ∀ j, 0 ≤ j → j < i → ((ix m.out j).length : Int) ≤ 12) (fun i => (m.out.length - i).toNat) 0 rfl ⟨by omega, by omega, upto_zero⟩ fun k ⟨k0, k1, k2⟩ => ?_
    by_cases hk : k < m.out.length
    · simp [-More_nor, hk, k0]
      refine ⟨fun h => (g3 k k0 hk h), fun h => ⟨by omega, More_of (k + 1) rfl rfl ⟨by omega, by omega, upto_succ (by omega) k2⟩ (by omega)⟩⟩
    · simp [hk]
      have e1 := any_no (p := fun r : List Int => decide (12 < (r.length : Int))) (xs := m.next) fun j a b => by simpa using i2 j a (by omega)
      have e2 := any_no (p := fun r : List Int => decide (12 < (r.length : Int))) (xs := m.out) fun j a b => by simpa using k2 j a (by omega)
      unfold Mly.great
      rw [e1, e2]
      simp
      omega
end Ab
namespace Ab
def Mly.small (m : Mly) : Bool := !m.great && decide ((m.next.length : Int) ≤ 8) && decide (m.inputs ≤ 4)
theorem Small_s (m : Mly) (h : m.fits) : PC F_law11_Small [m.av] = some (.bool m.small) := by
  refine PCx_of (go_law11_Small rfl ?_)
  unfold Mly.small
  cases hg : m.great with
  | true => simp [Great_s m h, hg]
  | false =>
    by_cases h1 : (m.next.length : Int) ≤ 8
    · simp [Great_s m h, hg, h1]
    · simp [Great_s m h, hg, h1]
end Ab
namespace Ab
theorem small_t {m : Mly} (h : m.small = true) : m.next.length ≤ 8 ∧ m.inputs ≤ 4 := by
  unfold Mly.small at h
  simp only [Bool.and_eq_true, decide_eq_true_eq] at h
  exact ⟨by omega, by omega⟩
theorem cur_le {m : Mly} {w o : List Int} : (m.cur w o).length ≤ m.next.length := by
  unfold Mly.cur
  rw [List.length_map]
  have := List.length_filter_le (fun (t : Nat) => (List.range m.next.length).any fun (s : Nat) => decide (m.outs (s : Int) w = o) && decide (m.run (s : Int) w = (t : Int))) (List.range m.next.length)
  simpa using this
theorem pos_le {m : Mly} {w o : List Int} : (m.pos w o).1.length ≤ m.next.length := by
  unfold Mly.pos
  split
  · simp
  · split
    · simp
    · exact cur_le
theorem HomingTraces_l (aw : PC F_law13_exampleHolds [] = some (.bool true)) (m : Mly) (h : m.fits) (w o : List Int) (hl : (w.length : Int) ≤ 9223372036854775807) (hl2 : (o.length : Int) ≤ 9223372036854775807) : PC F_law13_HomingTraces [m.av, iL w, iL o] = some (.bool true) := by
  refine PCx_of (go_law13_HomingTraces rfl ?_)
  have hs := Small_s m h
  cases hsm : m.small with
  | false => rw [hsm] at hs; simp [hs, aw]
  | true =>
    rw [hsm] at hs
    by_cases h1 : 60 < (w.length : Int)
    · simp [hs, h1, aw]
    by_cases h2 : 60 < (o.length : Int)
    · simp [hs, h1, h2, aw]
    obtain ⟨s1, s2⟩ := small_t hsm
    have a1 := Resolves_s m h w hl
    have a2 := RResolves_s m h w hl
    have a3 := Possible_s m h w o hl hl2
    have a4 := RPossible_s m h w o hl hl2
    have a5 := Final_s m h w o hl hl2
    have a6 := RFinal_s m h w o hl hl2
    have hp := pos_le (m := m) (w := w) (o := o)
    have a7 := EqI_s (m.pos w o).1 (m.pos w o).1 (by omega) (by omega)
    simp [hs, h1, h2, a1, a2, a3, a4, a5, a6, a7, aw]
end Ab
namespace Ab
/-- All states so far are known. -/
def Mly.hkn (m : Mly) (w : List Int) (n : Nat) : Bool := (List.range n).all fun (s : Nat) => decide ((m.cur w (m.outs (s : Int) w)).length = 1)
theorem hkn_succ {m : Mly} {w : List Int} {n : Nat} : m.hkn w (n + 1) = (m.hkn w n && decide ((m.cur w (m.outs (n : Int) w)).length = 1)) := by
  unfold Mly.hkn
  rw [List.range_succ, List.all_append, List.all_cons, List.all_nil, Bool.and_true]
theorem cur_one {m : Mly} (hm : m.Ok) {w : List Int} (hw : ∀ x ∈ w, 0 ≤ x ∧ x < m.inputs) {s : Nat} (hs : s < m.next.length) (h : (m.cur w (m.outs (s : Int) w)).length = 1) : m.cur w (m.outs (s : Int) w) = [m.run (s : Int) w] := by
  have hm' : m.run (s : Int) w ∈ m.cur w (m.outs (s : Int) w) := (cur_mem hm hw).2 ⟨s, hs, rfl, rfl⟩
  generalize m.cur w (m.outs (s : Int) w) = C at *
  match C, h with
  | [x], _ => simp at hm'; rw [hm']
theorem hkn_hom {m : Mly} (hm : m.Ok) {w : List Int} (hw : ∀ x ∈ w, 0 ≤ x ∧ x < m.inputs) : m.hkn w m.next.length = true ↔ m.hom w := by
  rw [cur_hom hm hw]
  unfold Mly.hkn
  simp only [List.all_eq_true, List.mem_range, decide_eq_true_eq]
  constructor
  · intro h s hs; exact cur_one hm hw hs (h s hs)
  · intro h s hs; rw [h s hs]; rfl
theorem fin_at {m : Mly} (hm : m.Ok) {w : List Int} (hc : m.hchk w = 0) {s : Nat} (hs : s < m.next.length) : m.fin w (m.outs (s : Int) w) = if (m.cur w (m.outs (s : Int) w)).length = 1 then (m.run (s : Int) w, true, 0) else (0, false, 0) := by
  obtain ⟨_, hw⟩ := hchk_ok hc
  obtain ⟨_, hws⟩ := wordE_ok hw
  have e : m.pos w (m.outs (s : Int) w) = (m.cur w (m.outs (s : Int) w), 0) := by unfold Mly.pos; rw [if_neg (by simpa using hc), if_neg (by rw [outs_len]; simp)]
  unfold Mly.fin
  rw [e]
  by_cases h : (m.cur w (m.outs (s : Int) w)).length = 1
  · rw [if_neg (by simp [h]), if_pos h, cur_one hm hws hs h]; rfl
  · rw [if_pos (.inr h), if_neg h]
theorem HomingResolves_l (aw : PC F_law13_exampleHolds [] = some (.bool true)) (m : Mly) (h : m.fits) (w : List Int) (hl : (w.length : Int) ≤ 9223372036854775807) : PC F_law13_HomingResolves [m.av, iL w] = some (.bool true) := by
  refine PCx_of (go_law13_HomingResolves rfl ?_)
  have hs := Small_s m h
  cases hsm : m.small with
  | false => rw [hsm] at hs; simp [hs, aw]
  | true =>
    rw [hsm] at hs
    have hv := rmValid_s m h
    by_cases h0 : m.validE = 0
    case neg => simp [hs, hv, h0, aw]
    rw [h0] at hv
    by_cases h1 : 60 < (w.length : Int)
    · simp [hs, hv, h1, aw]
    have hm := mvalidE_ok h0
    have hst := hm.states
    have hR := Resolves_s m h w hl
    by_cases hc : m.hchk w = 0
    case neg =>
      have hrun := MRun_s m h w hl
      have hfe := From_e h0 hm.start (w := w)
      have hwe : m.hchk w = wordE w m.inputs := by unfold Mly.hchk; rw [if_neg (by simpa using h0)]
      have hwn : wordE w m.inputs ≠ 0 := by rw [← hwe]; exact hc
      rw [hfe, if_pos hwn, ← hwe] at hrun
      have hd : decide (m.hchk w = 0 ∧ m.hop w = []) = false := by simpa using fun h => absurd h hc
      rw [hd] at hR
      simp [hs, hv, h1, hR, hc, hrun, aw]
    obtain ⟨_, hw⟩ := hchk_ok hc
    obtain ⟨hwl, hws⟩ := wordE_ok hw
    have hkh := hkn_hom hm hws
    have hhn := hop_nil hm hws
    have hd : decide (m.hchk w = 0 ∧ m.hop w = []) = m.hkn w m.next.length := by
      cases e : m.hkn w m.next.length with
      | true => simpa [hc] using hhn.2 (hkh.1 e)
      | false => simpa [hc] using fun e' => by have := hkh.2 (hhn.1 e'); rw [e] at this; simp at this
    rw [hd, hc] at hR
    simp [-More_nor, hs, hv, h1, hR]
    refine W_iter (fun s : Nat => [(6, .int s), (15, .bool (m.hkn w s))]) (fun _ => []) (fun s => s ≤ m.next.length) (fun s => m.next.length - s) 0 (by simp [sets, Mly.hkn]) (by omega) ?_
    intro s s1
    by_cases hsn : s < m.next.length
    · have hF : PC F_mealy_From [m.av, .int s, iL w] = some (.tup [iL (m.outs (s : Int) w), .int (m.run (s : Int) w), .int 0]) := by
        have h1 := From_s m h (s : Int) w (by omega)
        rw [From_e h0 ⟨by omega, by omega⟩, if_neg (by simpa using hw)] at h1
        exact h1
      have hol : (m.outs (s : Int) w).length = w.length := outs_len
      have hN := Final_s m h w (m.outs (s : Int) w) hl (by omega)
      rw [fin_at hm hc hsn] at hN
      have hsu := hkn_succ (m := m) (w := w) (n := s)
      generalize m.hkn w s = K at *
      by_cases hone : (m.cur w (m.outs (s : Int) w)).length = 1
      · rw [if_pos hone] at hN
        rw [decide_eq_true hone, Bool.and_true] at hsu
        cases K <;> simp [-More_nor, hsn, hF, hN] <;> exact ⟨by omega, More_of (s + 1) (by simp [hsu]) rfl (by omega) (by omega)⟩
      · rw [if_neg hone] at hN
        rw [decide_eq_false hone, Bool.and_false] at hsu
        cases K <;> simp [-More_nor, hsn, hF, hN] <;> exact ⟨by omega, More_of (s + 1) (by simp [hsu]) rfl (by omega) (by omega)⟩
    · have : s = m.next.length := by omega
      subst this
      simp [aw]
end Ab
namespace Ab
theorem filt_step : ∀ {A : List Int} {t : Int}, (A.filter fun x => decide (x < t + 1)).length = (A.filter fun x => decide (x < t)).length + (A.filter fun x => decide (x = t)).length
  | [], _ => rfl
  | a :: A, t => by
    have ih := filt_step (A := A) (t := t)
    simp only [List.filter_cons]
    by_cases h1 : a < t
    · rw [if_pos (by simp; omega), if_pos (by simpa using h1), if_neg (by simp; omega)]; simp; omega
    · by_cases h2 : a = t
      · rw [if_pos (by simp; omega), if_neg (by simpa using h1), if_pos (by simpa using h2)]; simp; omega
      · rw [if_neg (by simp; omega), if_neg (by simpa using h1), if_neg (by simpa using h2)]; exact ih
theorem filt_one : ∀ {A : List Int} {t : Int}, up A → (A.filter fun x => decide (x = t)).length = if t ∈ A then 1 else 0
  | [], _, _ => rfl
  | a :: A, t, h => by
    have ⟨h1, h2⟩ := List.pairwise_cons.1 h
    have ih := filt_one (t := t) h2
    rw [List.filter_cons]
    by_cases e : a = t
    · subst e
      rw [if_pos (by simp), if_pos (by simp), List.length_cons, ih, if_neg fun hm => by have := h1 a hm; omega]
    · rw [if_neg (by simpa using e), ih]
      by_cases hm : t ∈ A
      · rw [if_pos hm, if_pos (by simp [hm])]
      · rw [if_neg hm, if_neg (by simp [hm]; exact fun e' => e e'.symm)]
theorem bsi_in {A : List Int} {t : Int} (hu : up A) (h : t ∈ A) : bsi A t < A.length ∧ ix A (bsi A t : Int) = t ∧ bsi A (t + 1) = bsi A t + 1 := by
  have hc := cut_ex hu (t := t)
  have h3 : bsi A (t + 1) = bsi A t + 1 := by
    unfold bsi
    rw [filt_step, filt_one hu, if_pos h]
  generalize bsi A t = i at *
  have hd : t ∈ A.drop i := by
    have hs : A.take i ++ A.drop i = A := List.take_append_drop i A
    rw [← hs] at h
    rcases List.mem_append.1 h with h | h
    · have := hc.lo t h; omega
    · exact h
  have hlt : i < A.length := by
    refine Classical.byContradiction fun hn => ?_
    rw [List.drop_of_length_le (by omega)] at hd; simp at hd
  refine ⟨hlt, ?_, h3⟩
  rw [ix_nat hlt]
  have hdr := List.drop_eq_getElem_cons hlt
  have hup : up (A.drop i) := List.Pairwise.sublist (List.drop_sublist i A) hu
  have hge := hc.hi A[i] (by rw [hdr]; exact List.mem_cons_self)
  rw [hdr] at hd hup
  rcases List.mem_cons.1 hd with e | hd
  · exact e.symm
  · have := (List.pairwise_cons.1 hup).1 t hd; omega
theorem bsi_out {A : List Int} {t : Int} (hu : up A) (h : t ∉ A) : bsi A (t + 1) = bsi A t := by
  unfold bsi
  rw [filt_step, filt_one hu, if_neg h]; rfl
theorem bsi_all {A : List Int} {t : Int} (h : ∀ x ∈ A, x < t) : bsi A t = A.length := by
  unfold bsi
  rw [List.filter_eq_self.2 fun x hx => by simpa using h x hx]
theorem bsi_zero {A : List Int} (h : ∀ x ∈ A, 0 ≤ x) : bsi A 0 = 0 := by
  unfold bsi
  rw [List.filter_eq_nil_iff.2 fun x hx => by have := h x hx; simp; omega]; rfl
/-- The states to which one more input leads. -/
def mkS (m : Mly) (B : List Int) (x y : Int) : Nat → List Bool
  | 0 => List.replicate m.next.length false
  | k + 1 => if ix (ix m.out (ix B (k : Int))) x = y then (mkS m B x y k).set (ix (ix m.next (ix B (k : Int))) x).toNat true else mkS m B x y k
theorem mkS_len {m : Mly} {B : List Int} {x y : Int} : ∀ {k : Nat}, (mkS m B x y k).length = m.next.length
  | 0 => by simp [mkS]
  | k + 1 => by
    unfold mkS
    split
    · rw [List.length_set]; exact mkS_len
    · exact mkS_len
theorem mkS_iff {m : Mly} (hm : m.Ok) {B : List Int} {x y : Int} (hx : 0 ≤ x ∧ x < m.inputs) (hB : ∀ b ∈ B, 0 ≤ b ∧ b < (m.next.length : Int)) : ∀ {k : Nat}, k ≤ B.length → ∀ t : Nat, t < m.next.length → (ix (mkS m B x y k) (t : Int) = true ↔ ∃ j : Nat, j < k ∧ ix (ix m.out (ix B (j : Int))) x = y ∧ ix (ix m.next (ix B (j : Int))) x = (t : Int))
  | 0, _, t, ht => by
    have : ix (mkS m B x y 0) (t : Int) = false := by rw [ix_nat (by rw [mkS_len]; exact ht)]; simp [mkS]
    rw [this]
    constructor
    · intro h; simp at h
    · rintro ⟨j, hj, _⟩; omega
  | k + 1, hk, t, ht => by
    have ih := mkS_iff hm hx hB (y := y) (k := k) (by omega) t ht
    have hb := hB _ (ix_mem (l := B) (n := (k : Int)) (by omega) (by omega))
    have hn := hm.nx _ x hb.1 hb.2 hx.1 hx.2
    have hl := mkS_len (m := m) (B := B) (x := x) (y := y) (k := k)
    unfold mkS
    by_cases hy : ix (ix m.out (ix B (k : Int))) x = y
    · rw [if_pos hy]
      generalize hu : ix (ix m.next (ix B (k : Int))) x = u at *
      by_cases e : u = (t : Int)
      · have : ix ((mkS m B x y k).set u.toNat true) (t : Int) = true := by
          subst e
          rw [ix_nat (by rw [List.length_set, hl]; exact ht)]
          simp
        rw [this]
        simp only [true_iff]
        exact ⟨k, by omega, hy, by rw [hu, e]⟩
      · have : ix ((mkS m B x y k).set u.toNat true) (t : Int) = ix (mkS m B x y k) (t : Int) := by
          rw [ix_nat (by rw [List.length_set, hl]; exact ht), ix_nat (by rw [hl]; exact ht), List.getElem_set_ne (by omega)]
        rw [this, ih]
        constructor
        · rintro ⟨j, h1, h2, h3⟩; exact ⟨j, by omega, h2, h3⟩
        · rintro ⟨j, h1, h2, h3⟩
          by_cases ej : j = k
          · subst ej; rw [hu] at h3; exact absurd h3 e
          · exact ⟨j, by omega, h2, h3⟩
    · rw [if_neg hy, ih]
      constructor
      · rintro ⟨j, h1, h2, h3⟩; exact ⟨j, by omega, h2, h3⟩
      · rintro ⟨j, h1, h2, h3⟩
        by_cases ej : j = k
        · subst ej; exact absurd h2 hy
        · exact ⟨j, by omega, h2, h3⟩
/-- The current states after one more input. -/
theorem cur_step {m : Mly} (hm : m.Ok) {u o : List Int} {x y : Int} (hu : ∀ a ∈ u, 0 ≤ a ∧ a < m.inputs) (hx : 0 ≤ x ∧ x < m.inputs) (ho : o.length = u.length) {t : Int} : t ∈ m.cur (u ++ [x]) (o ++ [y]) ↔ ∃ b ∈ m.cur u o, ix (ix m.out b) x = y ∧ ix (ix m.next b) x = t := by
  have hw : ∀ a ∈ u ++ [x], 0 ≤ a ∧ a < m.inputs := fun a ha => by
    rcases List.mem_append.1 ha with h | h
    · exact hu a h
    · simp at h; rw [h]; exact hx
  rw [cur_mem hm hw]
  constructor
  · rintro ⟨s, s1, s2, s3⟩
    rw [outs_app] at s2
    obtain ⟨e1, e2⟩ := List.append_inj s2 (by rw [outs_len, ho])
    rw [run_app] at s3
    refine ⟨m.run (s : Int) u, (cur_mem hm hu).2 ⟨s, s1, e1, rfl⟩, ?_, s3⟩
    simp only [Mly.outs, List.cons.injEq, and_true] at e2
    exact e2
  · rintro ⟨b, hb, h1, h2⟩
    obtain ⟨s, s1, s2, rfl⟩ := (cur_mem hm hu).1 hb
    refine ⟨s, s1, ?_, ?_⟩
    · rw [outs_app, s2]
      show o ++ [ix (ix m.out (m.run (s : Int) u)) x] = o ++ [y]
      rw [h1]
    · rw [run_app]; exact h2
theorem HomingSteps_l (aw : PC F_law13_exampleHolds [] = some (.bool true)) (m : Mly) (h : m.fits) (q : Nat) (n : Int) (n0 : 0 ≤ n) (n1 : n ≤ 65535) (w : List Int) (hl : (w.length : Int) ≤ 9223372036854775807) : PC F_law13_HomingSteps [m.av, .ik q n, iL w] = some (.bool true) := by
  refine PCx_of (go_law13_HomingSteps rfl ?_)
  have hs := Small_s m h
  cases hsm : m.small with
  | false => rw [hsm] at hs; simp [hs, aw]
  | true =>
    rw [hsm] at hs
    have hv := rmValid_s m h
    by_cases h0 : m.validE = 0
    case neg => simp [hs, hv, h0, aw]
    rw [h0] at hv
    by_cases h1 : 60 < (w.length : Int)
    · simp [hs, hv, h1, aw]
    by_cases hw0 : w = []
    · subst hw0; simp [hs, hv, aw]
    have hm := mvalidE_ok h0
    have hst := hm.states
    have hlen0 : (w.length = 0) = False := eq_false fun e => hw0 (List.eq_nil_of_length_eq_zero e)
    have hlen1 : ((w.length : Int) = 0) = False := eq_false fun e => hw0 (List.eq_nil_of_length_eq_zero (by omega))
    have hs0 : 0 ≤ n.tmod (m.next.length : Int) := by rw [Int.tmod_eq_emod_of_nonneg n0]; exact Int.emod_nonneg _ (by omega)
    have hs1 : n.tmod (m.next.length : Int) < (m.next.length : Int) := by rw [Int.tmod_eq_emod_of_nonneg n0]; exact Int.emod_lt_of_pos _ (by omega)
    have hF := From_s m h (n.tmod (m.next.length : Int)) w hl
    rw [From_e h0 ⟨hs0, hs1⟩] at hF
    generalize hS : n.tmod (m.next.length : Int) = s at *
    by_cases hw : wordE w m.inputs = 0
    case neg =>
      rw [if_pos hw] at hF
      have hne : m.next ≠ [] := by intro e; rw [e] at hst; simp at hst
      simp [hs, hv, h1, hlen0, hlen1, hS, hF, hw, aw]
      exact ⟨by omega, hne⟩
    rw [if_neg (by simpa using hw)] at hF
    have hne : m.next ≠ [] := by intro e; rw [e] at hst; simp at hst
    obtain ⟨hwl, hws⟩ := wordE_ok hw
    have hin := hm.inputs
    have hml := hm.len
    obtain ⟨u, x, hux⟩ : ∃ u x, w = u ++ [x] := ⟨w.dropLast, w.getLast hw0, (List.dropLast_concat_getLast hw0).symm⟩
    have hul : w.length = u.length + 1 := by rw [hux]; simp
    have hus : ∀ a ∈ u, 0 ≤ a ∧ a < m.inputs := fun a ha => hws a (by rw [hux]; simp [ha])
    have hxs : 0 ≤ x ∧ x < m.inputs := hws x (by rw [hux]; simp)
    have hru := run_rng hm ⟨hs0, hs1⟩ hus
    have hrw := run_rng hm ⟨hs0, hs1⟩ hws
    have how : m.outs s w = m.outs s u ++ [ix (ix m.out (m.run s u)) x] := by rw [hux, outs_app]; rfl
    have hrx : m.run s w = ix (ix m.next (m.run s u)) x := by rw [hux, run_app]; rfl
    have hool : (m.outs s w).length = w.length := outs_len
    have houl : (m.outs s u).length = u.length := outs_len
    have hA1 : (w.map AV.int).take (w.length - 1) = u.map .int := by
      rw [hul, Nat.add_sub_cancel, hux, List.map_append, List.take_left' (by simp)]
    have hA2 : ((m.outs s w).map AV.int).take (w.length - 1) = (m.outs s u).map .int := by
      rw [hul, Nat.add_sub_cancel, how, List.map_append, List.take_left' (by simp [houl])]
    have hxw : ix w ((w.length : Int) - 1) = x := by
      rw [hul, show (((u.length + 1 : Nat) : Int) - 1) = (u.length : Int) by omega, hux, ixa_last]
    have hyo : ix (m.outs s w) ((w.length : Int) - 1) = ix (ix m.out (m.run s u)) x := by
      rw [hul, show (((u.length + 1 : Nat) : Int) - 1) = ((m.outs s u).length : Int) by rw [houl]; omega, how, ixa_last]
    have hwu : wordE u m.inputs = 0 := wordE_nul ⟨by omega, by omega⟩ (by omega) hus
    have hcw : m.hchk w = 0 := by unfold Mly.hchk; rw [if_neg (by simpa using h0)]; exact hw
    have hcu : m.hchk u = 0 := by unfold Mly.hchk; rw [if_neg (by simpa using h0)]; exact hwu
    have hP1 := Possible_s m h u (m.outs s u) (by omega) (by omega)
    have hP2 := Possible_s m h w (m.outs s w) (by omega) (by omega)
    have e1 : m.pos u (m.outs s u) = (m.cur u (m.outs s u), 0) := by unfold Mly.pos; rw [if_neg (by simpa using hcu), if_neg (by rw [houl]; simp)]
    have e2 : m.pos w (m.outs s w) = (m.cur w (m.outs s w), 0) := by unfold Mly.pos; rw [if_neg (by simpa using hcw), if_neg (by rw [hool]; simp)]
    rw [e1] at hP1
    rw [e2] at hP2
    have hcs : ∀ t : Int, t ∈ m.cur w (m.outs s w) ↔ ∃ b ∈ m.cur u (m.outs s u), ix (ix m.out b) x = ix (ix m.out (m.run s u)) x ∧ ix (ix m.next b) x = t := fun t => by
      rw [hux, outs_app]
      exact cur_step hm hus hxs (by rw [outs_len])
    have hAup : up (m.cur w (m.outs s w)) := cur_up
    have hArg : ∀ t ∈ m.cur w (m.outs s w), 0 ≤ t ∧ t < (m.next.length : Int) := fun t ht => by
      obtain ⟨s', a, b, c⟩ := (cur_mem hm hws).1 ht
      rw [← c]; exact run_rng hm ⟨by omega, by omega⟩ hws
    have hBrg : ∀ b ∈ m.cur u (m.outs s u), 0 ≤ b ∧ b < (m.next.length : Int) := fun t ht => by
      obtain ⟨s', a, b, c⟩ := (cur_mem hm hus).1 ht
      rw [← c]; exact run_rng hm ⟨by omega, by omega⟩ hus
    have hBl : (m.cur u (m.outs s u)).length ≤ m.next.length := cur_le
    have hAl : (m.cur w (m.outs s w)).length ≤ m.next.length := cur_le
    have hlast : m.run s w ∈ m.cur w (m.outs s w) := (cur_mem hm hws).2 ⟨s.toNat, by omega, by rw [show ((s.toNat : Nat) : Int) = s by omega], by rw [show ((s.toNat : Nat) : Int) = s by omega]⟩
    have hmk := fun k => mkS_iff hm (B := m.cur u (m.outs s u)) (y := ix (ix m.out (m.run s u)) x) hxs hBrg (k := k)
    have hf1 := firstI w
    have hf2 := firstI (m.outs s w)
    have hoolc : ((m.outs s w).length : Int) = (w.length : Int) := by omega
    generalize hy : ix (ix m.out (m.run s u)) x = y at *
    generalize m.cur w (m.outs s w) = A at *
    generalize m.cur u (m.outs s u) = B at *
    generalize m.run s w = last at *
    generalize m.outs s w = ow at *
    generalize m.outs s u = ou at *
    simp [-More_nor, -List.map_take, -List.map_replicate, hs, hv, h1, hlen0, hlen1, hS, hF, aw, hoolc, hool, hf1, hf2, hA1, hA2, hP1, hP2]
    have hMA : ∀ t : Nat, t < m.next.length → (ix (mkS m B x y B.length) (t : Int) = true ↔ (t : Int) ∈ A) := fun t ht => by
      rw [hmk B.length (Nat.le_refl _) t ht, hcs]
      constructor
      · rintro ⟨j, j1, j2, j3⟩; exact ⟨_, ix_mem (by omega) (by omega), j2, j3⟩
      · rintro ⟨b, hb, b2, b3⟩
        obtain ⟨j, hj, rfl⟩ := List.mem_iff_getElem.1 hb
        exact ⟨j, hj, by rw [ix_nat hj]; exact b2, by rw [ix_nat hj]; exact b3⟩
    refine ⟨by omega, hne, by omega, by omega, by omega, by omega, ?_⟩
    have hw1 : 0 ≤ (w.length : Int) - 1 := by omega
    have hw2 : (w.length : Int) - 1 < (w.length : Int) := by omega
    have hw3 : (w.length : Int) - 1 < (ow.length : Int) := by omega
    refine W_iter (fun k : Nat => [(11, .int k)]) (fun k => [⟨none, (mkS m B x y k).map .bool, .live⟩]) (fun k => k ≤ B.length) (fun k => B.length - k) 0 (by simp [-List.map_replicate, sets, mkS]) (by omega) ?_
    intro k k1
    by_cases hk : k < B.length
    · have hb := hBrg _ (ix_mem (l := B) (n := (k : Int)) (by omega) (by omega))
      have hrow := hm.row _ hb.1 hb.2
      have hnx := hm.nx _ x hb.1 hb.2 hxs.1 hxs.2
      have hbo : ix B (k : Int) < (m.out.length : Int) := by omega
      have hb0 : (ix B (k : Int) < 0) = False := eq_false (by omega)
      have hbn : ((m.next.length : Int) ≤ ix B (k : Int)) = False := eq_false (by omega)
      have hsu : mkS m B x y (k + 1) = if ix (ix m.out (ix B (k : Int))) x = y then (mkS m B x y k).set (ix (ix m.next (ix B (k : Int))) x).toNat true else mkS m B x y k := rfl
      have hml' := mkS_len (m := m) (B := B) (x := x) (y := y) (k := k)
      generalize mkS m B x y k = M at *
      by_cases hyy : ix (ix m.out (ix B (k : Int))) x = y
      · have hyy' := eq_true hyy
        rw [if_pos hyy] at hsu
        simp [-More_nor, -List.map_set, hk, hb.1, hb.2, hbo, hb0, hbn, hrow.1, hrow.2, hxw, hyo, hw1, hw2, hw3, hxs.1, hxs.2, hyy', hnx.1, hnx.2, hml', hoolc]
        refine ⟨by omega, by omega, More_of (k + 1) (by simp) (by rw [hsu]) (by omega) (by omega)⟩
      · have hyy' := eq_false hyy
        rw [if_neg hyy] at hsu
        simp [-More_nor, -List.map_set, hk, hb.1, hb.2, hbo, hb0, hbn, hrow.1, hrow.2, hxw, hyo, hw1, hw2, hw3, hxs.1, hxs.2, hyy', hnx.1, hnx.2, hml', hoolc]
        refine ⟨by omega, by omega, More_of (k + 1) (by simp) (by rw [hsu]) (by omega) (by omega)⟩
    · have : k = B.length := by omega
      subst this
      have hml' := mkS_len (m := m) (B := B) (x := x) (y := y) (k := B.length)
      generalize mkS m B x y B.length = M at *
      simp [-More_nor]
      refine W_iter (fun t : Nat => [(16, .int t), (19, .int (bsi A (t : Int)))]) (fun _ => [⟨none, M.map .bool, .live⟩]) (fun t => t ≤ m.next.length) (fun t => m.next.length - t) 0 (by have := bsi_zero (A := A) (fun x hx => (hArg x hx).1); simp [sets, this]) (by omega) ?_
      intro t t1
      by_cases ht : t < m.next.length
      · have hMt := hMA t ht
        have htM : (t : Int) < (M.length : Int) := by omega
        by_cases hA : (t : Int) ∈ A
        · have hb := bsi_in hAup hA
          have hMe : ix M (t : Int) = true := hMt.2 hA
          have hbl : ((bsi A (t : Int) : Int) < (A.length : Int)) = True := eq_true (by omega)
          have hbl' : (bsi A (t : Int) < A.length) = True := eq_true hb.1
          simp [-More_nor, ht, htM, hMe, hb.2.1, hbl, hbl', hml']
          have hb3 : bsi A ((t + 1 : Nat) : Int) = bsi A (t : Int) + 1 := hb.2.2
          refine ⟨by omega, by omega, More_of (t + 1) (by rw [hb3]; simp) rfl (by omega) (by omega)⟩
        · have hb := bsi_out hAup hA
          have hMe : ix M (t : Int) = false := by
            cases e : ix M (t : Int) with
            | false => rfl
            | true => exact absurd (hMt.1 e) hA
          simp [-More_nor, ht, htM, hMe, hml']
          have hb3 : bsi A ((t + 1 : Nat) : Int) = bsi A (t : Int) := hb
          refine ⟨by omega, More_of (t + 1) (by rw [hb3]; simp) rfl (by omega) (by omega)⟩
      · have : t = m.next.length := by omega
        subst this
        have hb := bsi_all (A := A) (t := (m.next.length : Int)) fun x hx => (hArg x hx).2
        have hlr := hArg _ hlast
        have hMe : ix M last = true := by
          obtain ⟨l, rfl⟩ := Int.eq_ofNat_of_zero_le hlr.1
          exact (hMA l (by omega)).2 hlast
        rw [hb]
        simp [hMe, hlr.1, hlr.2, hml', aw]
end Ab
