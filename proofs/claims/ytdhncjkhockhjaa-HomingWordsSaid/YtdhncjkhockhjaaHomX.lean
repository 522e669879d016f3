/- Whether a machine is too great. Whether a machine is small. The laws on traces and on words that resolve. homing.Word, by the document; the law on homing words. Condition: none. -/
import Derived.Test.YtdhncjkhockhjaaGbf
import Derived.Test.YtdhncjkhockhjaaHomO
import Derived.Test.YtdhncjkhockhjaaHomE
import Derived.Test.YtdhncjkhockhjaaHomV
import Derived.Test.YtdhncjkhockhjaaRMinC
set_option linter.all false
set_option maxRecDepth 100000
set_option maxHeartbeats 4000000
namespace Ab
def Mly.great (m : Mly) : Bool := decide (12 < (m.next.length : Int)) || decide (12 < (m.out.length : Int)) || decide (6 < m.inputs) || (m.next.any fun r => decide (12 < (r.length : Int))) || (m.out.any fun r => decide (12 < (r.length : Int)))
theorem Great_s (m : Mly) (h : m.fits) : PC F_law08_Great [m.av] = some (.bool m.great) := by
  refine PCx_of (go_law08_Great rfl ?_)
  have hn := h.next.1
  have ho := h.out.1
  have g1 : 12 < (m.next.length : Int) ∨ 12 < (m.out.length : Int) ∨ 6 < m.inputs → m.great = true := by
    intro h; unfold Mly.great; simp only [Bool.or_eq_true, decide_eq_true_eq]; omega
  have g2 : ∀ i, 0 ≤ i → i < (m.next.length : Int) → 12 < ((ix m.next i).length : Int) → m.great = true := fun i h0 h1 h2 => by
    have := any_ix (p := fun r => decide (12 < (r.length : Int))) h0 h1 (by simpa using h2)
    unfold Mly.great; rw [this]; simp
  have g3 : ∀ i, 0 ≤ i → i < (m.out.length : Int) → 12 < ((ix m.out i).length : Int) → m.great = true := fun i h0 h1 h2 => by
    have := any_ix (p := fun r => decide (12 < (r.length : Int))) h0 h1 (by simpa using h2)
    unfold Mly.great; rw [this]; simp
  simp
  refine ⟨fun h => (g1 (.inl h)), fun a1 => ⟨fun h => (g1 (.inr (.inl h))), fun a2 => ⟨fun h => (g1 (.inr (.inr h))), fun a3 => ?_⟩⟩⟩
  refine W_iter (fun i : Int => [(2, .int i)]) (fun _ => []) (fun i => 0 ≤ i ∧ i ≤ m.next.length ∧ ∀ j, 0 ≤ j → j < i → ((ix m.next j).length : Int) ≤ 12) (fun i => (m.next.length - i).toNat) 0 rfl ⟨by omega, by omega, upto_zero⟩ fun i ⟨i0, i1, i2⟩ => ?_
  by_cases hi : i < m.next.length
  · simp [-More_nor, hi, i0]
    refine ⟨fun h => (g2 i i0 hi h), fun h => ⟨by omega, More_of (i + 1) rfl rfl ⟨by omega, by omega, upto_succ (by omega) i2⟩ (by omega)⟩⟩
  · simp [hi]
    refine W_iter (fun i : Int => [(5, .int i)]) (fun _ => []) (fun i => 0 ≤ i ∧ i ≤ m.out.length ∧ ∀ j, 0 ≤ j → j < i → ((ix m.out j).length : Int) ≤ 12) (fun i => (m.out.length - i).toNat) 0 rfl ⟨by omega, by omega, upto_zero⟩ fun k ⟨k0, k1, k2⟩ => ?_
    by_cases hk : k < m.out.length
    · simp [-More_nor, hk, k0]
      refine ⟨fun h => (g3 k k0 hk h), fun h => ⟨by omega, More_of (k + 1) rfl rfl ⟨by omega, by omega, upto_succ (by omega) k2⟩ (by omega)⟩⟩
    · simp [hk]
      have e1 := any_no (p := fun r : List Int => decide (12 < (r.length : Int))) (xs := m.next) fun j a b => by simpa using i2 j a (by omega)
      have e2 := any_no (p := fun r : List Int => decide (12 < (r.length : Int))) (xs := m.out) fun j a b => by simpa using k2 j a (by omega)
      unfold Mly.great
      rw [e1, e2]
      simp
      omega
end Ab
namespace Ab
def Mly.small (m : Mly) : Bool := !m.great && decide ((m.next.length : Int) ≤ 8) && decide (m.inputs ≤ 4)
theorem Small_s (m : Mly) (h : m.fits) : PC F_law11_Small [m.av] = some (.bool m.small) := by
  refine PCx_of (go_law11_Small rfl ?_)
  unfold Mly.small
  cases hg : m.great with
  | true => simp [Great_s m h, hg]
  | false =>
    by_cases h1 : (m.next.length : Int) ≤ 8
    · simp [Great_s m h, hg, h1]
    · simp [Great_s m h, hg, h1]
end Ab
namespace Ab
theorem small_t {m : Mly} (h : m.small = true) : m.next.length ≤ 8 ∧ m.inputs ≤ 4 := by
  unfold Mly.small at h
  simp only [Bool.and_eq_true, decide_eq_true_eq] at h
  exact ⟨by omega, by omega⟩
end Ab
namespace Ab
theorem RStates_s (m : Mly) (h : m.fits) (hv : m.validE = 0) (s t : Int) (hs : 0 ≤ s ∧ s < (m.next.length : Int)) (ht : 0 ≤ t ∧ t < (m.next.length : Int)) : PC F_ref09_States [m.av, .int s, .int t] = some (.tup [iL ((dist m m s t).getD []), .bool (dist m m s t).isSome, .int 0]) := by
  refine PCx_of (go_ref09_States rfl ?_)
  have hV := rmValid_s m h
  rw [hv] at hV
  have hm := mvalidE_ok hv
  have hS := first_s m m hm hm rfl s t hs ht
  have h1 : (s < 0) = False := eq_false (by omega)
  have h2 : (t < 0) = False := eq_false (by omega)
  have h3 : ((m.next.length : Int) ≤ s) = False := eq_false (by omega)
  have h4 : ((m.next.length : Int) ≤ t) = False := eq_false (by omega)
  simp [hV, hS, h1, h2, h3, h4]
theorem RWord_s (m : Mly) (h : m.fits) (hn : m.validE = 0 → m.next.length ≤ 8) : PC F_ref13_Word [m.av] = some (.tup [iL (hwA m).1, .int (hwA m).2]) := by
  refine PCx_of (go_ref13_Word rfl ?_)
  have hv := R11Check_s m h
  by_cases h0 : m.validE = 0
  case neg =>
    have e : hwA m = ([], m.validE) := by unfold hwA; rw [if_pos h0]
    have e' : m.mchk m.mnlb = m.validE := by unfold Mly.mchk; rw [if_pos h0]
    rw [e'] at hv
    rw [e]
    simp [hv, h0]
  have e' : m.mchk m.mnlb = if m.mnlb = true then 0 else 1 := by unfold Mly.mchk; rw [if_neg (by simpa using h0)]
  rw [e'] at hv
  cases hb : m.mnlb with
  | false =>
    have e : hwA m = ([], 1) := by unfold hwA; rw [if_neg (by simpa using h0), if_neg (by rw [hb]; simp)]
    rw [e]
    rw [hb] at hv
    simp [hv]
  | true =>
    have e : hwA m = (m.hwd m.next.length [], 0) := by unfold hwA; rw [if_neg (by simpa using h0), if_pos hb]
    rw [e]
    rw [hb, if_pos rfl] at hv
    have hM := (mnlb_t.1 hb).2
    have hm := hM.ok
    have hin := hm.inputs
    have hst := hm.states
    have hn' := hn h0
    simp [-More_nor, hv]
    refine W_iter (fun p : Nat × List Int => [(3, .sl 0 p.2.length 0 p.2.length)]) (fun p => [louI p.2]) (fun p => HwI m (m.hwd m.next.length []) p) (fun p => m.next.length - p.1) (0, []) (by simp [sets]) (HwI.init hm) ?_
    rintro ⟨i, w⟩ hI
    have hwl := hI.len
    have hsym : ∀ x ∈ w, 0 ≤ x ∧ x < m.inputs := hI.sym
    dsimp only at hwl ⊢
    have hile : i ≤ 8 := by have h1 : i + 1 ≤ m.cnt w := hI.cnt; have := cnt_le (m := m) (w := w); omega
    have ho := ropen_l m hm w (by omega) hsym
    have hvo := hoV_view hm hsym true
    have hvt : viewT (hoS m w m.next.length) true (hoV m w (m.hoi w m.next.length)) = some (iL (m.hop w)) := by
      rw [← hvo]
      cases m.hoi w m.next.length <;> rfl
    have hvw := vd_louI (σ := [louI w]) (b := 0) (out := w) rfl
    by_cases h2 : m.hop w = []
    · have hR := hI.stop h2
      rw [← hR]
      rw [h2] at hvt
      simp [-More_nor, hvw, ho, hvt, mapO]
    · obtain ⟨v, v1, v2, v3, v4, v5⟩ := hI.step hM hn' h2
      obtain ⟨⟨t1, t2, t3⟩, t4, t5, _⟩ := hop_two hm hsym h2
      have hS := RStates_s m h h0 _ _ t1 t2
      rw [v1] at hS
      generalize m.hop w = P at *
      have hP0 : (P = []) = False := eq_false h2
      have hPl : (P.length = 0) = False := eq_false fun e => h2 (List.eq_nil_of_length_eq_zero e)
      have hPl' : ((P.length : Int) = 0) = False := eq_false fun e => h2 (List.eq_nil_of_length_eq_zero (by omega))
      have hl0 : 0 < P.length := by omega
      have hl1 : (1 : Int) < (P.length : Int) := by omega
      have hlen : ((1024 : Int) < (w.length : Int) + (v.length : Int)) = False := eq_false (by omega)
      have hv0 : (v = []) = False := eq_false v5
      simp [-More_nor, hvw, ho, hvt, mapO, hP0, hPl, hPl', hl0, hl1, hS, hlen, hv0]
      have hwn : w ++ v ≠ [] := fun e => v5 (List.append_eq_nil_iff.1 e).2
      refine ⟨by omega, by split <;> rfl, by omega, More_of (i + 1, w ++ v) (by simp) ?_ v2 (by dsimp only; omega)⟩
      show _ = [(⟨none, (w ++ v).map .int, if w ++ v = [] then .nul else .live⟩ : Blk)]
      rw [if_neg hwn, List.map_append]
theorem hwA_len {m : Mly} (hn : m.validE = 0 → m.next.length ≤ 8) : (hwA m).1.length ≤ 1000 := by
  unfold hwA
  split
  · simp
  · rename_i h0
    split
    · rename_i hb
      have h0' : m.validE = 0 := by simpa using h0
      have hM := (mnlb_t.1 hb).2
      have hst := hM.ok.states
      have h1 := (hwd_hom hM (f := m.next.length) (w := []) (by simp) (by omega)).2.2
      have hn' := hn h0'
      have h64 : m.next.length * m.next.length ≤ 64 := Nat.mul_le_mul hn' hn'
      have h2 : m.next.length * (m.next.length * m.next.length) ≤ 8 * 64 := Nat.mul_le_mul hn' h64
      simp at h1 ⊢
      omega
    · simp
theorem HomingWords_l (aw : PC F_law13_exampleHolds [] = some (.bool true)) (m : Mly) (h : m.fits) : PC F_law13_HomingWords [m.av] = some (.bool true) := by
  refine PCx_of (go_law13_HomingWords rfl ?_)
  have hs := Small_s m h
  cases hsm : m.small with
  | false => rw [hsm] at hs; simp [hs, aw]
  | true =>
    rw [hsm] at hs
    obtain ⟨s1, s2⟩ := small_t hsm
    have a1 := Word_s m h fun _ => s1
    have a2 := RWord_s m h fun _ => s1
    have hl := hwA_len (m := m) fun _ => s1
    have a3 := EqI_s (hwA m).1 (hwA m).1 (by omega) (by omega)
    simp [hs, a1, a2, a3, aw]
end Ab
