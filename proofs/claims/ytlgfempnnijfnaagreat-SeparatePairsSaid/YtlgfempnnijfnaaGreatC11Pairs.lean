/- Small functions of the laws of chapter 10. The example of the chapter on separating words, from what the functions are. The law on the characterization set and the identifiers. The law on the characterization set, and on the common words of identifiers. Condition: none. -/
import Derived.Test.YtlgfempnnijfnaaGreatGbf
import Derived.Test.YtlgfempnnijfnaaGreatSepK
import Derived.Test.YtlgfempnnijfnaaGreatSepB
import Derived.Test.YtlgfempnnijfnaaGreatHomX
import Derived.Test.YtlgfempnnijfnaaGreatSepJ
set_option linter.all false
set_option maxRecDepth 100000
set_option maxHeartbeats 4000000
namespace Ab
theorem zd4C (l : List (List Int)) (hl : (l.length : Int) ≤ 1000000) (hw : ∀ w ∈ l, (w.length : Int) ≤ 1000000) : PC z2f9 [iLL l, iLL l] = some (.bool true) := by
  refine zx72 (z0Ug rfl ?_)
  simp
  refine zv8C (fun i : Int => [(2, .int i)]) (fun _ => []) (fun i => 0 ≤ i ∧ i ≤ l.length) (fun i => (l.length - i).toNat) 0 rfl ⟨by omega, by omega⟩ fun i ⟨i0, i1⟩ => ?_
  by_cases hi : i < l.length
  · have hwi := hw _ (zmAQ i0 hi)
    simp [-zJRc, hi, i0]
    refine zv8C (fun k : Int => [(3, .int k)]) (fun _ => []) (fun k => 0 ≤ k ∧ k ≤ (ix l i).length) (fun k => ((ix l i).length - k).toNat) 0 rfl ⟨by omega, by omega⟩ fun k ⟨k0, k1⟩ => ?_
    by_cases hk : k < (ix l i).length
    · simp [-zJRc, hi, i0, hk, k0]
      exact ⟨by omega, zGkM (k + 1) rfl rfl ⟨by omega, by omega⟩ (by omega)⟩
    · simp [-zJRc, hk]
      (repeat' apply And.intro) <;> try omega
      refine zGkM (i + 1) rfl rfl ⟨by omega, by omega⟩ (by omega)
  · simp [hi]
end Ab
namespace Ab
end Ab
namespace Ab
theorem exm_c : exm.mchk exm.mnlb = 0 := by unfold Mly.mchk; rw [if_neg (by rw [exm_v]; simp), znhH]; rfl
theorem zMy5 : exm.chA = [[0, 0]] := by
  unfold Mly.chA
  rw [if_pos exm_c]
  decide +kernel
theorem zdKM : exm.idA = [[[0], [0, 0]], [[0], [0, 0]], [[0]]] := by
  unfold Mly.idA
  rw [if_pos exm_c]
  decide +kernel
theorem zuKc : exm.uioR 2 5 = (some [0], 0) := by
  unfold Mly.uioR
  rw [if_neg (by rw [exm_c]; simp)]
  decide +kernel
theorem zXWw : exm.uioR 0 5 = (some [0, 0], 0) := by
  unfold Mly.uioR
  rw [if_neg (by rw [exm_c]; simp)]
  decide +kernel
theorem z3dE : exm.uioR 0 1 = (none, 0) := by
  unfold Mly.uioR
  rw [if_neg (by rw [exm_c]; simp)]
  decide +kernel
theorem exm_s : exm.splB [[0, 0]] = true ∧ exm.splE [[0, 0]] = 0 ∧ exm.splB [[0]] = false ∧ exm.splE [[0]] = 0 := by decide +kernel
theorem zjHT (l : List (List (List Int))) (hl : (l.length : Int) ≤ 1000000) (hw : ∀ ws ∈ l, (ws.length : Int) ≤ 1000000 ∧ ∀ w ∈ ws, (w.length : Int) ≤ 1000000) : PC z7eN [.imm false (l.map iLL), .imm false (l.map iLL)] = some (.bool true) := by
  refine zx72 (z2p2 rfl ?_)
  simp [-zJRc]
  refine zv8C (fun i : Nat => [(2, .int i)]) (fun _ => []) (fun i => i ≤ l.length) (fun i => l.length - i) 0 (by simp [sets]) (by omega) ?_
  intro i hi1
  by_cases hi : i < l.length
  · have hm := hw _ (zmAQ (l := l) (n := (i : Int)) (by omega) (by omega))
    have hS := zd4C (ix l (i : Int)) hm.1 hm.2
    simp [-zJRc, hi, hS]
    exact ⟨by omega, zGkM (i + 1) (by simp) rfl (by omega) (by omega)⟩
  · simp [-zJRc, hi]
theorem awake : PC zXAh [] = some (.bool true) := by
  refine zx72 (zdkX rfl ?_)
  have hf := zg29 z57U
  have h8 : exm.validE = 0 → exm.next.length ≤ 8 := fun _ => by show 3 ≤ 8; omega
  have h1 := z7Ia exm hf h8
  have h2 := ztIQ exm hf h8
  have h3 := Uio_s exm hf h8 2 5
  have h4 := Uio_s exm hf h8 0 5
  have h5 := Uio_s exm hf h8 0 1
  have h6 := zyeu exm hf [[0, 0]] (by simp) (by simp)
  have h7 := zyeu exm hf [[0]] (by simp) (by simp)
  rw [zMy5, exm_c] at h1
  rw [zdKM, exm_c] at h2
  rw [zuKc] at h3
  rw [zXWw] at h4
  rw [z3dE] at h5
  rw [exm_s.1, exm_s.2.1] at h6
  rw [exm_s.2.2.1, exm_s.2.2.2] at h7
  have h8 := zjHT [[[0], [0, 0]], [[0], [0, 0]], [[0]]] (by simp) (by simp)
  have h9 := zd4C [[0, 0]] (by simp) (by simp)
  have h10 := EqI_s [0] [0] (by simp) (by simp)
  have h11 := EqI_s [0, 0] [0, 0] (by simp) (by simp)
  have k1 : PC zxGI [.agg [.int 1, .int 0, .imm false [.imm false [.int 1], .imm false [.int 2], .imm false [.int 0]], .imm false [.imm false [.int 0], .imm false [.int 0], .imm false [.int 1]]]] = some (.tup [.imm false [.imm false [.int 0, .int 0]], .int 0]) := h1
  have k2 : PC zEdJ [.agg [.int 1, .int 0, .imm false [.imm false [.int 1], .imm false [.int 2], .imm false [.int 0]], .imm false [.imm false [.int 0], .imm false [.int 0], .imm false [.int 1]]]] = some (.tup [.imm false [.imm false [.imm false [.int 0], .imm false [.int 0, .int 0]], .imm false [.imm false [.int 0], .imm false [.int 0, .int 0]], .imm false [.imm false [.int 0]]], .int 0]) := h2
  have k3 : PC zvA6 [.agg [.int 1, .int 0, .imm false [.imm false [.int 1], .imm false [.int 2], .imm false [.int 0]], .imm false [.imm false [.int 0], .imm false [.int 0], .imm false [.int 1]]], .int 2, .int 5] = some (.tup [.imm false [.int 0], .bool true, .int 0]) := h3
  have k4 : PC zvA6 [.agg [.int 1, .int 0, .imm false [.imm false [.int 1], .imm false [.int 2], .imm false [.int 0]], .imm false [.imm false [.int 0], .imm false [.int 0], .imm false [.int 1]]], .int 0, .int 5] = some (.tup [.imm false [.int 0, .int 0], .bool true, .int 0]) := h4
  have k5 : PC zvA6 [.agg [.int 1, .int 0, .imm false [.imm false [.int 1], .imm false [.int 2], .imm false [.int 0]], .imm false [.imm false [.int 0], .imm false [.int 0], .imm false [.int 1]]], .int 0, .int 1] = some (.tup [.imm false [], .bool false, .int 0]) := h5
  have k6 : PC zn2q [.agg [.int 1, .int 0, .imm false [.imm false [.int 1], .imm false [.int 2], .imm false [.int 0]], .imm false [.imm false [.int 0], .imm false [.int 0], .imm false [.int 1]]], .imm false [.imm false [.int 0, .int 0]]] = some (.tup [.bool true, .int 0]) := h6
  have k7 : PC zn2q [.agg [.int 1, .int 0, .imm false [.imm false [.int 1], .imm false [.int 2], .imm false [.int 0]], .imm false [.imm false [.int 0], .imm false [.int 0], .imm false [.int 1]]], .imm false [.imm false [.int 0]]] = some (.tup [.bool false, .int 0]) := h7
  have k8 : PC z7eN [.imm false [.imm false [.imm false [.int 0], .imm false [.int 0, .int 0]], .imm false [.imm false [.int 0], .imm false [.int 0, .int 0]], .imm false [.imm false [.int 0]]], .imm false [.imm false [.imm false [.int 0], .imm false [.int 0, .int 0]], .imm false [.imm false [.int 0], .imm false [.int 0, .int 0]], .imm false [.imm false [.int 0]]]] = some (.bool true) := h8
  have k9 : PC z2f9 [.imm false [.imm false [.int 0, .int 0]], .imm false [.imm false [.int 0, .int 0]]] = some (.bool true) := h9
  have k10 : PC zyDr [.imm false [.int 0], .imm false [.int 0]] = some (.bool true) := h10
  have k11 : PC zyDr [.imm false [.int 0, .int 0], .imm false [.int 0, .int 0]] = some (.bool true) := h11
  simp [k1, k2, k3, k4, k5, k6, k7, k8, k9, k10, k11]
end Ab
namespace Ab
theorem z9oU {m : Mly} (hM : Mnl m) (h8 : m.next.length ≤ 8) : (sortU (m.chs m.next.length)).length < m.next.length ∧ (∀ w ∈ sortU (m.chs m.next.length), w.length ≤ 64 ∧ ∀ x ∈ w, 0 ≤ x ∧ x < m.inputs) ∧ ∀ x y : Nat, x < y → y < m.next.length → m.sep (x : Int) (y : Int) (sortU (m.chs m.next.length)) = true := by
  have hX := zSAn hM h8 m.next.length (Nat.le_refl _)
  have h1 := hX.ok.len
  have h2 := zTVQ (l := m.chs m.next.length)
  refine ⟨by omega, fun w hw => swl_w hM h8 hX.ok w (zMWM.1 hw), fun x y hxy hy => ?_⟩
  exact zFrB (fun w hw => zMWM.2 hw) (hX.all x y hxy hy (by omega))
theorem zudQ {m : Mly} (hM : Mnl m) (h8 : m.next.length ≤ 8) : ∀ ws ∈ m.idl, ws.length < m.next.length ∧ ∀ w ∈ ws, w.length ≤ 64 ∧ ∀ x ∈ w, 0 ≤ x ∧ x < m.inputs := fun ws hw => by
  obtain ⟨x, hx, rfl⟩ := List.mem_map.1 hw
  have hx : x < m.next.length := by simpa using hx
  refine ⟨?_, fun w hw => ?_⟩
  · have := zTVQ (l := m.idn x m.next.length)
    rw [zZDR, if_pos hx] at this
    omega
  · obtain ⟨y, y1, y2, rfl⟩ := z2DI.1 (zMWM.1 hw)
    have := sw_ok hM h8 (s := (x : Int)) (t := (y : Int)) ⟨by omega, by omega⟩ ⟨by omega, by omega⟩ (by omega)
    exact ⟨this.2.2.2, this.2.1⟩
theorem zS8B (aw : PC zXAh [] = some (.bool true)) (m : Mly) (h : m.fits) : PC zg9T [m.av] = some (.bool true) := by
  refine zx72 (zDcd rfl ?_)
  have hs := zL6e m h
  cases hsm : m.small with
  | false => rw [hsm] at hs; simp [hs, aw]
  | true =>
    rw [hsm] at hs
    have h8 := (zrnz hsm).1
    have a1 := z7Ia m h fun _ => h8
    have a2 := zzUB m h fun _ => h8
    have a3 := ztIQ m h fun _ => h8
    have a4 := zi5m m h fun _ => h8
    have hb : PC z2f9 [iLL m.chA, iLL m.chA] = some (.bool true) ∧ PC z7eN [.imm false (m.idA.map iLL), .imm false (m.idA.map iLL)] = some (.bool true) := by
      by_cases h0 : m.mchk m.mnlb = 0
      · obtain ⟨hv, hM⟩ := zwBY h0
        have e1 : m.chA = sortU (m.chs m.next.length) := if_pos h0
        have e2 : m.idA = m.idl := if_pos h0
        rw [e1, e2]
        obtain ⟨c1, c2, _⟩ := z9oU hM h8
        have d := zudQ hM h8
        refine ⟨zd4C _ (by omega) fun w hw => by have := (c2 w hw).1; omega, zjHT _ (by rw [zb7t]; omega) fun ws hw => ⟨by have := (d ws hw).1; omega, fun w hx => by have := ((d ws hw).2 w hx).1; omega⟩⟩
      · have e1 : m.chA = [] := if_neg h0
        have e2 : m.idA = [] := if_neg h0
        rw [e1, e2]
        exact ⟨zd4C [] (by simp) (by simp), zjHT [] (by simp) (by simp)⟩
    obtain ⟨b1, b2⟩ := hb
    simp [hs, a1, a2, a3, a4, b1, b2, aw]
end Ab
namespace Ab
theorem zQng {m : Mly} (h : m.fits) (hv : m.validE = 0) {ws : List (List Int)} (hl : ws.length ≤ 1000) (hw : ∀ w ∈ ws, w.length ≤ 64 ∧ ∀ x ∈ w, 0 ≤ x ∧ x < m.inputs) (hs : ∀ x y : Nat, x < y → y < m.next.length → m.sep (x : Int) (y : Int) ws = true) : PC zn2q [m.av, iLL ws] = some (.tup [.bool true, .int 0]) := by
  have hin := (zaDP hv).inputs
  have := zyeu m h ws (by omega) fun w hx => by have := (hw w hx).1; omega
  have e1 : m.splE ws = 0 := by
    unfold Mly.splE
    rw [if_neg (by simpa using hv)]
    exact zde0 fun w hx => zuoY ⟨by omega, by omega⟩ (by have := (hw w hx).1; omega) (hw w hx).2
  have e2 : m.splB ws = true := by unfold Mly.splB; rw [e1, spl_t.2 hs]; rfl
  rw [this, e1, e2]
theorem zUF9 {ps : List (List (List Int))} {k : Nat} (h : ∀ l ∈ ps, l.length ≤ k) : (flW ps).length ≤ ps.length * k := by
  unfold flW
  induction ps with
  | nil => simp
  | cons a l ih =>
    have h1 := h a (by simp)
    have h2 := ih fun x hx => h x (by simp [hx])
    rw [List.flatten_cons, List.length_append, List.length_cons, Nat.add_mul]
    omega
theorem zRCc (aw : PC zXAh [] = some (.bool true)) (m : Mly) (h : m.fits) : PC zP59 [m.av] = some (.bool true) := by
  refine zx72 (znCp rfl ?_)
  have hs := zL6e m h
  have hck := zGPu m h
  cases hsm : m.small with
  | false => rw [hsm] at hs; simp [hs, aw]
  | true =>
    rw [hsm] at hs
    have h8 := (zrnz hsm).1
    have a1 := z7Ia m h fun _ => h8
    have a3 := ztIQ m h fun _ => h8
    by_cases h0 : m.mchk m.mnlb = 0
    case neg => simp [hs, hck, h0, aw]
    obtain ⟨hv, hM⟩ := zwBY h0
    have hm := hM.ok
    have hst := hm.states
    have e1 : m.chA = sortU (m.chs m.next.length) := if_pos h0
    have e2 : m.idA = m.idl := if_pos h0
    rw [h0] at a1 a3 hck
    rw [e1] at a1
    rw [e2] at a3
    obtain ⟨c1, c2, c3⟩ := z9oU hM h8
    have d := zudQ hM h8
    have hll := zb7t (m := m)
    have b1 := zQng h hv (ws := sortU (m.chs m.next.length)) (by omega) c2 c3
    have b2 := zGle (sortU (m.chs m.next.length)) (by omega) fun w hw => by have := (c2 w hw).1; omega
    have e3 : sortU (sortU (m.chs m.next.length)) = sortU (m.chs m.next.length) := zQl1 (zPq5 zvz8 _) fun w => Iff.rfl
    rw [e3] at b2
    have b3 := zd4C (sortU (m.chs m.next.length)) (by omega) fun w hw => by have := (c2 w hw).1; omega
    generalize hC : sortU (m.chs m.next.length) = C at *
    have hfl : (flW m.idl).length ≤ 64 := by
      have := zUF9 (ps := m.idl) (k := 8) fun l hl => by have := (d l hl).1; omega
      rw [hll] at this
      omega
    have hfw : ∀ w ∈ (flW m.idl), w.length ≤ 64 ∧ ∀ x ∈ w, 0 ≤ x ∧ x < m.inputs := fun w hw => by
      obtain ⟨l, hl, hw⟩ := List.mem_flatten.1 (show w ∈ m.idl.flatten from hw)
      exact (d l hl).2 w hw
    have b4 := zbi1 m.idl (by omega) (by omega) fun w hw => by have := (hfw w hw).1; omega
    have hsl := zTVQ (l := (flW m.idl))
    have key : ∀ x : Nat, x < m.next.length → ix m.idl (x : Int) ∈ m.idl ∧ ∀ y : Nat, y < m.next.length → y ≠ x → m.sw (x : Int) (y : Int) ∈ ix m.idl (x : Int) := fun x hx => by
      refine ⟨zmAQ (by omega) (by omega), ?_⟩
      rw [zlHE hx]
      exact fun y hy hne => zMWM.2 (z2DI.2 ⟨y, hy, hne, rfl⟩)
    have b5 := zQng h hv (ws := sortU (flW m.idl)) (by omega) (fun w hw => hfw w (zMWM.1 hw)) fun x y hxy hy => sep_t.2 ⟨m.sw (x : Int) (y : Int), zMWM.2 (show _ ∈ m.idl.flatten from List.mem_flatten.2 ⟨_, (key x (by omega)).1, (key x (by omega)).2 y hy (by omega)⟩), (sw_ok hM h8 (s := (x : Int)) (t := (y : Int)) ⟨by omega, by omega⟩ ⟨by omega, by omega⟩ (by omega)).2.2.1⟩
    generalize sortU (flW m.idl) = U at *
    generalize hJ : m.idl = J at *
    have c1' := eq_true c1
    have c1'' := eq_false (show ¬ m.next.length ≤ C.length by omega)
    have hS := fun (x y : Nat) (hx : x < m.next.length) (hy : y < m.next.length) (hne : x ≠ y) => swS_s h hM hv h8 (s := (x : Int)) (t := (y : Int)) ⟨by omega, by omega⟩ ⟨by omega, by omega⟩ (by omega)
    simp [-zJRc, hs, hck, a1, a3, b1, b2, b3, b4, b5, hll, c1', c1'']
    refine zv8C (fun i : Nat => [(9, .int i)]) (fun _ => []) (fun i => i ≤ m.next.length) (fun i => m.next.length - i) 0 (by simp [sets]) (by omega) ?_
    intro i hi1
    by_cases hi : i < m.next.length
    · simp [-zJRc, hi]
      refine zv8C (fun j : Nat => [(12, .int j)]) (fun _ => []) (fun j => j ≤ i) (fun j => i - j) 0 (by simp [sets]) (by omega) ?_
      intro j hj1
      by_cases hj : j < i
      · have h1 := hS i j hi (by omega) (by omega)
        obtain ⟨k1, k2⟩ := key i hi
        obtain ⟨k3, k4⟩ := key j (by omega)
        have m1 := k2 j (by omega) (by omega)
        have m2 := k4 i hi (by omega)
        rw [zjpS hm (s := (j : Int)) (t := (i : Int)) ⟨by omega, by omega⟩ ⟨by omega, by omega⟩] at m2
        have d1 := d _ k1
        have d2 := d _ k3
        have hw1 := zNtu (ix J (i : Int)) (m.sw (i : Int) (j : Int)) (by omega) (fun w hw => by have := (d1.2 w hw).1; omega) (by have := (d1.2 _ m1).1; omega)
        have hw2 := zNtu (ix J (j : Int)) (m.sw (i : Int) (j : Int)) (by omega) (fun w hw => by have := (d2.2 w hw).1; omega) (by have := (d1.2 _ m1).1; omega)
        rw [decide_eq_true m1] at hw1
        rw [decide_eq_true m2] at hw2
        have hw1 : PC zCZ1 [.imm false ((ix J (i : Int)).map iL), .imm false ((m.sw (i : Int) (j : Int)).map .int)] = some (.bool true) := hw1
        have hw2 : PC zCZ1 [.imm false ((ix J (j : Int)).map iL), .imm false ((m.sw (i : Int) (j : Int)).map .int)] = some (.bool true) := hw2
        have hjn := eq_true (show j < m.next.length by omega)
        simp [-zJRc, hj, hi, hjn, hll, h1, hw1, hw2]
        exact ⟨by omega, zGkM (j + 1) (by simp) rfl (by omega) (by omega)⟩
      · simp [-zJRc, hj]
        exact ⟨by omega, zGkM (i + 1) (by simp) rfl (by omega) (by omega)⟩
    · simp [-zJRc, hi, aw]
end Ab
