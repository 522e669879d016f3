/- Small functions of the laws of chapter 10. The example of the chapter on separating words, from what the functions are. The law on the words of the identifiers. Condition: none. -/
import Derived.Test.YtlgfempnnijfnaaHomB
import Derived.Test.YtlgfempnnijfnaaSmallM
import Derived.Test.YtlgfempnnijfnaaSepW
import Derived.Test.YtlgfempnnijfnaaC11Splits
import Derived.Test.YtlgfempnnijfnaaHomE
set_option linter.all false
set_option maxRecDepth 100000
set_option maxHeartbeats 4000000
namespace Ab
theorem zd4C (l : List (List Int)) (hl : (l.length : Int) ≤ 1000000) (hw : ∀ w ∈ l, (w.length : Int) ≤ 1000000) : PC z2f9 [iLL l, iLL l] = some (.bool true) := by
  refine zx72 (z0Ug rfl ?_)
  simp
  refine zv8C (fun i : Int => [(2, .int i)]) (fun _ => []) (fun i => 0 ≤ i ∧ i ≤ l.length) (fun i => (l.length - i).toNat) 0 rfl ⟨by omega, by omega⟩ fun i ⟨i0, i1⟩ => ?_
  by_cases hi : i < l.length
  · have hwi := hw _ (zmAQ i0 hi)
    simp [-zJRc, hi, i0]
    refine zv8C (fun k : Int => [(3, .int k)]) (fun _ => []) (fun k => 0 ≤ k ∧ k ≤ (ix l i).length) (fun k => ((ix l i).length - k).toNat) 0 rfl ⟨by omega, by omega⟩ fun k ⟨k0, k1⟩ => ?_
    by_cases hk : k < (ix l i).length
    · simp [-zJRc, hi, i0, hk, k0]
      exact ⟨by omega, zGkM (k + 1) rfl rfl ⟨by omega, by omega⟩ (by omega)⟩
    · simp [-zJRc, hk]
      (repeat' apply And.intro) <;> try omega
      refine zGkM (i + 1) rfl rfl ⟨by omega, by omega⟩ (by omega)
  · simp [hi]
end Ab
namespace Ab
end Ab
namespace Ab
theorem exm_c : exm.mchk exm.mnlb = 0 := by unfold Mly.mchk; rw [if_neg (by rw [exm_v]; simp), znhH]; rfl
theorem zMy5 : exm.chA = [[0, 0]] := by
  unfold Mly.chA
  rw [if_pos exm_c]
  decide +kernel
theorem zdKM : exm.idA = [[[0], [0, 0]], [[0], [0, 0]], [[0]]] := by
  unfold Mly.idA
  rw [if_pos exm_c]
  decide +kernel
theorem zuKc : exm.uioR 2 5 = (some [0], 0) := by
  unfold Mly.uioR
  rw [if_neg (by rw [exm_c]; simp)]
  decide +kernel
theorem zXWw : exm.uioR 0 5 = (some [0, 0], 0) := by
  unfold Mly.uioR
  rw [if_neg (by rw [exm_c]; simp)]
  decide +kernel
theorem z3dE : exm.uioR 0 1 = (none, 0) := by
  unfold Mly.uioR
  rw [if_neg (by rw [exm_c]; simp)]
  decide +kernel
theorem exm_s : exm.splB [[0, 0]] = true ∧ exm.splE [[0, 0]] = 0 ∧ exm.splB [[0]] = false ∧ exm.splE [[0]] = 0 := by decide +kernel
theorem zjHT (l : List (List (List Int))) (hl : (l.length : Int) ≤ 1000000) (hw : ∀ ws ∈ l, (ws.length : Int) ≤ 1000000 ∧ ∀ w ∈ ws, (w.length : Int) ≤ 1000000) : PC z7eN [.imm false (l.map iLL), .imm false (l.map iLL)] = some (.bool true) := by
  refine zx72 (z2p2 rfl ?_)
  simp [-zJRc]
  refine zv8C (fun i : Nat => [(2, .int i)]) (fun _ => []) (fun i => i ≤ l.length) (fun i => l.length - i) 0 (by simp [sets]) (by omega) ?_
  intro i hi1
  by_cases hi : i < l.length
  · have hm := hw _ (zmAQ (l := l) (n := (i : Int)) (by omega) (by omega))
    have hS := zd4C (ix l (i : Int)) hm.1 hm.2
    simp [-zJRc, hi, hS]
    exact ⟨by omega, zGkM (i + 1) (by simp) rfl (by omega) (by omega)⟩
  · simp [-zJRc, hi]
theorem awake : PC zXAh [] = some (.bool true) := by
  refine zx72 (zdkX rfl ?_)
  have hf := zg29 z57U
  have h8 : exm.validE = 0 → exm.next.length ≤ 8 := fun _ => by show 3 ≤ 8; omega
  have h1 := z7Ia exm hf h8
  have h2 := ztIQ exm hf h8
  have h3 := Uio_s exm hf h8 2 5
  have h4 := Uio_s exm hf h8 0 5
  have h5 := Uio_s exm hf h8 0 1
  have h6 := zyeu exm hf [[0, 0]] (by simp) (by simp)
  have h7 := zyeu exm hf [[0]] (by simp) (by simp)
  rw [zMy5, exm_c] at h1
  rw [zdKM, exm_c] at h2
  rw [zuKc] at h3
  rw [zXWw] at h4
  rw [z3dE] at h5
  rw [exm_s.1, exm_s.2.1] at h6
  rw [exm_s.2.2.1, exm_s.2.2.2] at h7
  have h8 := zjHT [[[0], [0, 0]], [[0], [0, 0]], [[0]]] (by simp) (by simp)
  have h9 := zd4C [[0, 0]] (by simp) (by simp)
  have h10 := EqI_s [0] [0] (by simp) (by simp)
  have h11 := EqI_s [0, 0] [0, 0] (by simp) (by simp)
  have k1 : PC zxGI [.agg [.int 1, .int 0, .imm false [.imm false [.int 1], .imm false [.int 2], .imm false [.int 0]], .imm false [.imm false [.int 0], .imm false [.int 0], .imm false [.int 1]]]] = some (.tup [.imm false [.imm false [.int 0, .int 0]], .int 0]) := h1
  have k2 : PC zEdJ [.agg [.int 1, .int 0, .imm false [.imm false [.int 1], .imm false [.int 2], .imm false [.int 0]], .imm false [.imm false [.int 0], .imm false [.int 0], .imm false [.int 1]]]] = some (.tup [.imm false [.imm false [.imm false [.int 0], .imm false [.int 0, .int 0]], .imm false [.imm false [.int 0], .imm false [.int 0, .int 0]], .imm false [.imm false [.int 0]]], .int 0]) := h2
  have k3 : PC zvA6 [.agg [.int 1, .int 0, .imm false [.imm false [.int 1], .imm false [.int 2], .imm false [.int 0]], .imm false [.imm false [.int 0], .imm false [.int 0], .imm false [.int 1]]], .int 2, .int 5] = some (.tup [.imm false [.int 0], .bool true, .int 0]) := h3
  have k4 : PC zvA6 [.agg [.int 1, .int 0, .imm false [.imm false [.int 1], .imm false [.int 2], .imm false [.int 0]], .imm false [.imm false [.int 0], .imm false [.int 0], .imm false [.int 1]]], .int 0, .int 5] = some (.tup [.imm false [.int 0, .int 0], .bool true, .int 0]) := h4
  have k5 : PC zvA6 [.agg [.int 1, .int 0, .imm false [.imm false [.int 1], .imm false [.int 2], .imm false [.int 0]], .imm false [.imm false [.int 0], .imm false [.int 0], .imm false [.int 1]]], .int 0, .int 1] = some (.tup [.imm false [], .bool false, .int 0]) := h5
  have k6 : PC zn2q [.agg [.int 1, .int 0, .imm false [.imm false [.int 1], .imm false [.int 2], .imm false [.int 0]], .imm false [.imm false [.int 0], .imm false [.int 0], .imm false [.int 1]]], .imm false [.imm false [.int 0, .int 0]]] = some (.tup [.bool true, .int 0]) := h6
  have k7 : PC zn2q [.agg [.int 1, .int 0, .imm false [.imm false [.int 1], .imm false [.int 2], .imm false [.int 0]], .imm false [.imm false [.int 0], .imm false [.int 0], .imm false [.int 1]]], .imm false [.imm false [.int 0]]] = some (.tup [.bool false, .int 0]) := h7
  have k8 : PC z7eN [.imm false [.imm false [.imm false [.int 0], .imm false [.int 0, .int 0]], .imm false [.imm false [.int 0], .imm false [.int 0, .int 0]], .imm false [.imm false [.int 0]]], .imm false [.imm false [.imm false [.int 0], .imm false [.int 0, .int 0]], .imm false [.imm false [.int 0], .imm false [.int 0, .int 0]], .imm false [.imm false [.int 0]]]] = some (.bool true) := h8
  have k9 : PC z2f9 [.imm false [.imm false [.int 0, .int 0]], .imm false [.imm false [.int 0, .int 0]]] = some (.bool true) := h9
  have k10 : PC zyDr [.imm false [.int 0], .imm false [.int 0]] = some (.bool true) := h10
  have k11 : PC zyDr [.imm false [.int 0, .int 0], .imm false [.int 0, .int 0]] = some (.bool true) := h11
  simp [k1, k2, k3, k4, k5, k6, k7, k8, k9, k10, k11]
end Ab
namespace Ab
theorem zX5D {k : Nat} {n : Int} {K : AV → Prop} : li1 (.pimm (.ik k n)) none K = K (.ik k n) := (rfl)
attribute [local simp ↓] zX5D
theorem tmodN {a : Int} {n : Nat} (h0 : 0 ≤ a) (hn : 0 < n) : ∃ s : Nat, a.tmod (n : Int) = (s : Int) ∧ s < n := by
  rw [Int.tmod_eq_emod_of_nonneg h0]
  have h1 := Int.emod_nonneg a (b := (n : Int)) (by omega)
  have h2 := Int.emod_lt_of_pos a (b := (n : Int)) (by omega)
  exact ⟨(a % (n : Int)).toNat, by omega, by omega⟩
theorem zWvl (aw : PC zXAh [] = some (.bool true)) (m : Mly) (h : m.fits) (q : Nat) (a b : Int) (a0 : 0 ≤ a ∧ a ≤ 65535) (b0 : 0 ≤ b ∧ b ≤ 65535) : PC zm3V [m.av, .agg [.ik q a, .ik q b]] = some (.bool true) := by
  refine zx72 (zjqt rfl ?_)
  have hs := zL6e m h
  have hv := zrVN m h
  cases hsm : m.small with
  | false => rw [hsm] at hs; simp [hs, aw]
  | true =>
    rw [hsm] at hs
    have h8 := (zrnz hsm).1
    have hI := ztIQ m h fun _ => h8
    by_cases h0 : m.validE = 0
    case neg => simp [hs, hv, h0, aw]
    rw [h0] at hv
    have e' : m.mchk m.mnlb = if m.mnlb = true then 0 else 1 := by unfold Mly.mchk; rw [if_neg (by simpa using h0)]
    cases hb : m.mnlb with
    | false =>
      have e1 : m.mchk m.mnlb = 1 := by rw [e', hb]; rfl
      have e2 : m.idA = [] := by unfold Mly.idA; rw [if_neg (by rw [e1]; simp)]
      rw [e1, e2] at hI
      simp [hs, hv, hI, aw]
    | true =>
      have e1 : m.mchk m.mnlb = 0 := by rw [e', hb]; rfl
      have e2 : m.idA = m.idl := by unfold Mly.idA; rw [if_pos e1]
      rw [e1, e2] at hI
      have hM := (zVHJ.1 hb).2
      have hm := hM.ok
      have hst := hm.states
      have hln := zb7t (m := m)
      obtain ⟨s, es, s1⟩ := tmodN (n := m.next.length) a0.1 (by omega)
      obtain ⟨t, et, t1⟩ := tmodN (n := m.next.length) b0.1 (by omega)
      have hSt := zv5c m h h0 (s : Int) (t : Int) ⟨by omega, by omega⟩ ⟨by omega, by omega⟩
      have key : ∀ x : Nat, x < m.next.length → (∀ w ∈ ix m.idl (x : Int), w.length ≤ 64) ∧ (ix m.idl (x : Int)).length < m.next.length ∧ ∀ y : Nat, y < m.next.length → y ≠ x → m.sw (x : Int) (y : Int) ∈ ix m.idl (x : Int) := fun x hx => by
        rw [zlHE hx]
        refine ⟨fun w hw => ?_, ?_, fun y hy hne => zMWM.2 (z2DI.2 ⟨y, hy, hne, rfl⟩)⟩
        · obtain ⟨y, y1, y2, rfl⟩ := z2DI.1 (zMWM.1 hw)
          exact (sw_ok hM h8 (s := (x : Int)) (t := (y : Int)) ⟨by omega, by omega⟩ ⟨by omega, by omega⟩ (by omega)).2.2.2
        · have := zTVQ (l := m.idn x m.next.length)
          rw [zZDR, if_pos hx] at this
          omega
      obtain ⟨k1, k2, k3⟩ := key s s1
      obtain ⟨k4, k5, k6⟩ := key t t1
      have hz : m.next ≠ [] := by intro e; rw [e] at hst; simp at hst
      have hr1 := eq_true (show (-9223372036854775808 ≤ a ∧ a ≤ 9223372036854775807) by omega)
      have hr2 := eq_true (show (-9223372036854775808 ≤ b ∧ b ≤ 9223372036854775807) by omega)
      by_cases hst' : s = t
      · subst hst'
        rw [zzMk hm ⟨by omega, by omega⟩] at hSt
        generalize hJ : m.idl = J at *
        have hSt : PC zbRp [.agg [.int m.inputs, .int m.start, .imm false (m.next.map iL), .imm false (m.out.map iL)], .int (s : Int), .int (s : Int)] = some (.tup [.imm false [], .bool false, .int 0]) := hSt
        simp [hs, hv, hI, aw, hln, hSt, es, et, hz, hr1, hr2]
        exact ⟨s1, k2⟩
      · obtain ⟨d1, _, _, d4⟩ := sw_ok hM h8 (s := (s : Int)) (t := (t : Int)) ⟨by omega, by omega⟩ ⟨by omega, by omega⟩ (by omega)
        rw [d1] at hSt
        have hw1 := zNtu (ix m.idl (s : Int)) (m.sw (s : Int) (t : Int)) (by omega) (fun w hw => by have := k1 w hw; omega) (by omega)
        have hw2 := zNtu (ix m.idl (t : Int)) (m.sw (s : Int) (t : Int)) (by omega) (fun w hw => by have := k4 w hw; omega) (by omega)
        have m1 := k3 t t1 fun e => hst' e.symm
        have m2 := k6 s s1 hst'
        rw [zjpS hm (s := (t : Int)) (t := (s : Int)) ⟨by omega, by omega⟩ ⟨by omega, by omega⟩] at m2
        rw [decide_eq_true m1] at hw1
        rw [decide_eq_true m2] at hw2
        generalize hJ : m.idl = J at *
        have hne := eq_false (show ¬ (s : Int) = (t : Int) by omega)
        have hw1 : PC zCZ1 [.imm false ((ix J (s : Int)).map iL), .imm false ((m.sw (s : Int) (t : Int)).map .int)] = some (.bool true) := hw1
        have hw2 : PC zCZ1 [.imm false ((ix J (t : Int)).map iL), .imm false ((m.sw (s : Int) (t : Int)).map .int)] = some (.bool true) := hw2
        have s1' := eq_true s1
        have t1' := eq_true t1
        simp [hs, hv, hI, aw, hln, hSt, es, et, hz, hr1, hr2, hne, hw1, hw2, s1', t1', k2]
end Ab
