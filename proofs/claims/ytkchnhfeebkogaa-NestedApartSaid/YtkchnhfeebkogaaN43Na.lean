/- The words that are no proper prefixes of others. Prefixes and greatest words, by the program. Words, by the document. The first nested word is in the language, and none comes before it. The automaton of pairs, as the program has it. Differ, as the program finds it. Nested words apart. Condition: none. -/
import Derived.Test.YtkchnhfeebkogaaN43Lv
import Derived.Test.YtkchnhfeebkogaaN43Sh
import Derived.Test.YtkchnhfeebkogaaN43Laws2
set_option linter.all false
set_option maxRecDepth 100000
set_option maxHeartbeats 4000000
namespace Ab
end Ab
namespace Ab
def comN : List Int → List Int → Nat
  | x :: a, y :: b => if x = y then comN a b + 1 else 0
  | _, _ => 0
theorem z8Dm : ∀ a b, comN a b ≤ a.length ∧ comN a b ≤ b.length
  | [], b => by simp [comN]
  | _ :: _, [] => by simp [comN]
  | x :: a, y :: b => by
    have := z8Dm a b
    unfold comN; split <;> simp <;> omega
theorem zymp : ∀ {i : Nat} {a b : List Int}, i ≤ a.length → i ≤ b.length → (∀ j : Nat, j < i → ix a (j : Int) = ix b (j : Int)) → (i = a.length ∨ i = b.length ∨ ix a (i : Int) ≠ ix b (i : Int)) → comN a b = i
  | 0, [], b, _, _, _, _ => by simp [comN]
  | 0, _ :: _, [], _, _, _, _ => by simp [comN]
  | 0, x :: a, y :: b, _, _, _, h => by
    rcases h with h | h | h
    · simp at h
    · simp at h
    · have h : ¬ x = y := h
      unfold comN; rw [if_neg h]
  | i + 1, [], b, h, _, _, _ => by simp at h
  | i + 1, _ :: _, [], _, h, _, _ => by simp at h
  | i + 1, x :: a, y :: b, h1, h2, h3, h4 => by
    have hs : ∀ (l : List Int) (z : Int) (j : Nat), ix (z :: l) ((j + 1 : Nat) : Int) = ix l (j : Int) := fun l z j => by simp [ix]
    have e0 := h3 0 (by omega)
    have e0 : x = y := e0
    unfold comN
    rw [if_pos e0, zymp (i := i) (by simpa using h1) (by simpa using h2) (fun j hj => by have := h3 (j + 1) (by omega); rwa [hs, hs] at this) ?_]
    rw [hs, hs] at h4
    simpa using h4
end Ab
namespace Ab
theorem z4k3 (a b : List Int) (ha : (a.length : Int) ≤ 9223372036854775807) (hb : (b.length : Int) ≤ 9223372036854775807) : PC zy97 [iL a, iL b] = some (.int (comN a b)) := by
  refine zx72 (zJfH rfl ?_)
  simp
  refine zv8C (fun i : Nat => [(2, .int i)]) (fun _ => []) (fun i => i ≤ a.length ∧ i ≤ b.length ∧ ∀ j : Nat, j < i → ix a (j : Int) = ix b (j : Int)) (fun i => a.length - i) 0 (by simp [sets]) ⟨by omega, by omega, fun j h => by omega⟩ fun i ⟨i0, i1, i2⟩ => ?_
  by_cases hi : i < a.length
  · by_cases hj : i < b.length
    · simp [-zJRc, hi, hj]
      refine ⟨fun h => ⟨by omega, zGkM (i + 1) (by simp) rfl ⟨by omega, by omega, fun j hj => ?_⟩ (by omega)⟩, fun h => ?_⟩
      · by_cases e : j = i
        · subst e; exact h
        · exact i2 j (by omega)
      · rw [zymp i0 i1 i2 (.inr (.inr h))]
    · have e : comN a b = i := zymp i0 i1 i2 (by omega)
      simp [hi, hj, e]
  · have e : comN a b = i := zymp i0 i1 i2 (by omega)
    simp [hi, e]
theorem zOah : ∀ (a b : List Int), lexC a b = if comN a b = a.length then (if comN a b = b.length then 0 else -1) else if comN a b < b.length ∧ ix a (comN a b : Int) < ix b (comN a b : Int) then -1 else 1
  | [], [] => by simp [lexC, comN]
  | [], _ :: _ => by simp [lexC, comN]
  | _ :: _, [] => by simp [lexC, comN]
  | x :: a, y :: b => by
    have ih := zOah a b
    have hs : ∀ (l : List Int) (z : Int) (j : Nat), ix (z :: l) ((j + 1 : Nat) : Int) = ix l (j : Int) := fun l z j => by simp [ix]
    unfold lexC comN
    by_cases e : x = y
    · subst e
      rw [if_neg (by omega), if_neg (by omega), if_pos rfl, ih, hs, hs]
      simp
    · rw [if_neg e]
      have hx : ix (x :: a) ((0 : Nat) : Int) = x := rfl
      have hy : ix (y :: b) ((0 : Nat) : Int) = y := rfl
      rw [hx, hy]
      by_cases h : x < y
      · simp [h]
      · simp [h]; omega
theorem z5oG (a b : List Int) (ha : (a.length : Int) ≤ 9223372036854775807) (hb : (b.length : Int) ≤ 9223372036854775807) : PC zr8d [iL a, iL b] = some (.int (lexC a b)) := by
  refine zx72 (ztvg rfl ?_)
  have hle := z8Dm a b
  have hc := z4k3 a b ha hb
  have hx := zOah a b
  generalize comN a b = n at *
  by_cases h1 : n = a.length
  · by_cases h2 : n = b.length
    · rw [if_pos h1, if_pos h2] at hx
      simp [hc, hx, show (n : Int) = a.length by omega, show (n : Int) = b.length by omega, show (a.length : Int) = b.length by omega]
    · rw [if_pos h1, if_neg h2] at hx
      simp [hc, hx, show (n : Int) = a.length by omega, show ¬ (a.length : Int) = b.length by omega]
  · rw [if_neg h1] at hx
    by_cases h2 : n < b.length ∧ ix a (n : Int) < ix b (n : Int)
    · rw [if_pos h2] at hx
      simp [hc, hx, show ¬ (n : Int) = a.length by omega, h2.1, h2.2, show n < a.length by omega]
    · rw [if_neg h2] at hx
      by_cases h3 : n < b.length
      · simp [hc, hx, show ¬ (n : Int) = a.length by omega, h3, show n < a.length by omega, show ¬ ix a (n : Int) < ix b (n : Int) from fun h => h2 ⟨h3, h⟩]
      · simp [hc, hx, show ¬ (n : Int) = a.length by omega, h3, show n < a.length by omega]
theorem z6sk (a b : List Int) (ha : (a.length : Int) ≤ 9223372036854775807) (hb : (b.length : Int) ≤ 9223372036854775807) : PC zIk1 [iL a, iL b] = some (.int (slxC a b)) := by
  refine zx72 (zuY7 rfl ?_)
  have e := z5oG a b ha hb
  unfold slxC
  by_cases h1 : a.length < b.length
  · simp [h1]
  · by_cases h2 : b.length < a.length
    · simp [h1, h2]
    · simp [h1, h2, e]
end Ab
namespace Ab
theorem zoQ6 (n : Nst) : (∃ e : Int, e ≠ 0 ∧ n.shA = .tup [.imm false [], .bool false, .int e]) ∨ (n.validE = 0 ∧ n.mch.f1 n.start (ix n.accept) = none ∧ n.mch.f1E n.start (ix n.accept) = 0 ∧ n.shA = .tup [.imm false [], .bool false, .int 0]) ∨ (n.validE = 0 ∧ ∃ w, n.mch.f1 n.start (ix n.accept) = some w ∧ n.shA = .tup [iL w, .bool true, .int 0]) := by
  unfold Nst.shA
  by_cases hv : n.validE = 0
  · rw [if_pos hv]
    cases hf : n.mch.f1 n.start (ix n.accept) with
    | none =>
      by_cases he : n.mch.f1E n.start (ix n.accept) = 0
      · exact .inr (.inl ⟨hv, rfl, he, by rw [he]; rfl⟩)
      · exact .inl ⟨_, he, rfl⟩
    | some w => exact .inr (.inr ⟨hv, w, rfl, rfl⟩)
  · rw [if_neg hv]
    exact .inl ⟨_, hv, rfl⟩
theorem zfNo {n : Nst} {w : List Int} (hv : n.validE = 0) (h : n.acc w = (true, 0)) : gdW n.mch n.start (ix n.accept) w := by
  have ok := zdZr hv
  unfold Nst.acc at h
  rw [if_neg (by simpa using hv)] at h
  split at h
  · simp at h
  · rename_i h1
    split at h
    · simp at h
    · split at h
      · simp at h
      · rename_i h2 h3
        have hm : n.mat w = true := by simpa using h3
        have hwd := zPiW (n := n) (by simpa [Nst.syms] using h1)
        have hup : n.up w := up_of (mat_t hm).1
        have hr := (zCvO ok hwd hup (s := n.start) ok.start (i := w.length) (by omega) (by omega)).1
        rw [zFBF (Int.le_refl _)] at hr
        injection h with h4 h5
        exact ⟨_, hr, h4, (zGlo ok).2 ⟨hwd.2, hm, rfl⟩⟩
theorem zfNP {n : Nst} (hv : n.validE = 0) {s t : Int} {w : List Int} (h : Wd n.mch s t w) (hl : w.length ≤ 1024) : n.matched w = true ∧ n.word w ∧ n.up w ∧ (n.run s w).1 = t := by
  have ok := zdZr hv
  have hsy := ok.syms
  obtain ⟨k1, k2, k3⟩ := (zGlo ok).1 h
  refine ⟨?_, ⟨by omega, k1⟩, up_of (mat_t k2).1, k3⟩
  have he : wordE w n.syms = 0 := by
    unfold wordE Nst.syms
    rw [if_neg (by omega), if_neg (by omega), if_neg (by rw [bad_f.2 k1]; simp)]
  simp [Nst.matched, hv, he, k2]
theorem zpMX (aw : PC zfV6 [] = some (.bool true)) (n : Nst) (h : n.fits) (w : List Int) (hw : (w.length : Int) ≤ 9223372036854775807) : PC zyDa [n.av, iL w] = some (.bool true) := by
  refine zx72 (zjno rfl ?_)
  cases hs : n.small with
  | false => simp [zL6e n h, hs, aw]
  | true =>
    by_cases hw6 : 60 < (w.length : Int)
    · simp [zL6e n h, hs, hw6, aw]
    have hS := zLZI n h
    rcases zoQ6 n with ⟨e, he, hA⟩ | ⟨hv, hf, hE, hA⟩ | ⟨hv, u, hf, hA⟩
    · rw [hA] at hS
      simp [zL6e n h, hs, hw6, hS, he, aw]
    · rw [hA] at hS
      have ok := zdZr hv
      have hno : n.acc w = (true, 0) → False := fun ha => by
        obtain ⟨t, h1, h2, h3⟩ := zfNo hv ha
        unfold Mch.f1E at hE
        rw [if_pos ⟨⟨t, h1, h2, h3.conn⟩, hf⟩] at hE
        simp at hE
      cases ha : n.acc w with
      | mk f i =>
        have hA1 := zY3J n h w hw
        rw [ha] at hA1
        simp [zL6e n h, hs, hw6, hS, hA1, aw]
        rintro rfl
        cases f with
        | true => exact absurd ha fun h => hno h
        | false => rfl
    · rw [hA] at hS
      have ok := zdZr hv
      have hfst := zDGF hf
      obtain ⟨⟨⟨t, h1, h2, h3⟩, h4⟩, h5⟩ := hfst
      obtain ⟨k1, k2, k3⟩ := (zGlo ok).1 h3
      obtain ⟨hum, k1, hup, k3⟩ := zfNP hv h3 h4
      have hF := z0GH n ok u k1 hup n.start ok.start
      have hM := zQS8 n h u (by omega)
      rw [hum] at hM
      rw [k3] at hF
      have hst := ok.start
      have hin := eq_true (show t < (n.accept.length : Int) from h1.2)
      have h10 := h1.1
      have hA1 := zY3J n h w hw
      cases ha : n.acc w with
      | mk f i =>
        rw [ha] at hA1
        have hC := z6sk u w (by omega) hw
        simp [zL6e n h, hs, hw6, hS, hM, hF, hA1, hin, h10, h2, hC, aw]
        rintro rfl rfl
        have hsy : ∀ v, gdW n.mch n.start (ix n.accept) v → sy v := gd_sy (zcLc ok)
        have hg := zfNo hv ha
        have hgu : gdW n.mch n.start (ix n.accept) u := ⟨t, h1, h2, h3⟩
        exact (z7J5 (hsy u hgu) (hsy w hg)).2 (h5 w hg)
end Ab
namespace Ab
def Nst.cs (n : Nst) : List AV := [.int n.calls, .int n.inns, .int n.rets, .int n.stack, .int n.start, bL n.accept, iLL n.call, iLL n.push, iLL n.inner, iLLL n.pop]
def dav (a b : Nst) : AV := .agg [.int a.calls, .int a.inns, .int a.rets, .int a.stack, .int a.start, bL a.accept, iLL a.call, iLL a.push, iLL a.inner, iLLL a.pop, .int b.calls, .int b.inns, .int b.rets, .int b.stack, .int b.start, bL b.accept, iLL b.call, iLL b.push, iLL b.inner, iLLL b.pop]
section
variable {a b : Nst}
theorem zgdv (h : PrOk a b) : PC zmNm [dav a b] = some (.int ((prd a b).mch.size : Int)) := by
  refine zx72 (z5d0 rfl ?_)
  have hn : (prd a b).mch.size = a.accept.length * b.accept.length := by show (prd a b).accept.length = _; exact z1TS
  have e1 := z6bl a
  have e2 := z6bl b
  have h1 := h.n
  have hm : ((a.accept.length : Int) * (b.accept.length : Int)) = ((a.accept.length * b.accept.length : Nat) : Int) := by rw [Int.natCast_mul]
  rw [hn]
  simp [-zJRc, dav, e1, e2]
  rw [hm]
  omega
theorem zwjG (h : PrOk a b) {s : Nat} (hs : s < prN a b) : PC z6RY [dav a b, .int s] = some (.tup [.int ((s / prK b : Nat) : Int), .int ((s % prK b : Nat) : Int)]) := by
  refine zx72 (zBQG rfl ?_)
  have e2 := z6bl b
  have hk := h.k
  have hn : ¬ b.accept = [] := fun e => by rw [e] at hk; simp at hk
  have hq : ((s / prK b : Nat) : Int) = (s : Int) / (b.accept.length : Int) := by unfold prK; exact Int.natCast_ediv _ _
  have hr : ((s % prK b : Nat) : Int) = (s : Int).tmod (b.accept.length : Int) := rfl
  have hle : s / prK b ≤ s := Nat.div_le_self _ _
  have h1 := h.n
  have hs2 : s < a.accept.length * b.accept.length := hs
  generalize s / prK b = x at *
  generalize s % prK b = y at *
  have hbd : -9223372036854775808 ≤ (x : Int) ∧ (x : Int) ≤ 9223372036854775807 := by omega
  simp [-zJRc, dav, e2, hn, hbd, ← hq, ← hr]
theorem zJCg (h : PrOk a b) {s : Nat} (hs : s < prN a b) {c : Int} (c0 : 0 ≤ c) (c1 : c < a.calls) : PC zZvM [dav a b, .int s, .int c] = some (.tup [.int ((prd a b).mch.call s c).1, .int ((prd a b).mch.call s c).2]) := by
  refine zx72 (zovR rfl ?_)
  have e2 := z6bl b
  have hsp := zwjG h hs
  have hp := zPo6 h (s := (s : Int)) (c := c) (by omega) (by omega) c0 c1
  obtain ⟨hx, hy⟩ := h.xy (s := (s : Int)) (by omega) (by omega)
  rw [Int.toNat_natCast] at hp hx hy
  generalize s / prK b = x at *
  generalize s % prK b = y at *
  have ra := h.oa.row (x : Int) (by omega) hx
  have rb := h.ob.row (y : Int) (by omega) hy
  have la := h.oa.lens
  have lb := h.ob.lens
  have hcb := h.c
  have k1 := ztAv a x c (by omega) (by omega) (by omega) c0 (by omega) (by omega)
  have k2 := ztAv b y c (by omega) (by omega) (by omega) c0 (by omega) (by omega)
  have ca := h.oa.call (x : Int) c (by omega) hx c0 c1
  have cb := h.ob.call (y : Int) c (by omega) hy c0 (by omega)
  have pa := h.oa.push (x : Int) c (by omega) hx c0 c1
  have pb := h.ob.push (y : Int) c (by omega) hy c0 (by omega)
  have b1 := zAqx ca cb
  have b2 := zAqx pa pb
  have b3 := Int.mul_nonneg ca.1 (show 0 ≤ (b.accept.length : Int) by omega)
  have b4 := Int.mul_nonneg pa.1 (show 0 ≤ b.stack by have := h.ob.stack; omega)
  have h1 := h.n
  have h2 := h.g
  have hm : ((a.accept.length : Int) * (b.accept.length : Int)) = ((a.accept.length * b.accept.length : Nat) : Int) := by rw [Int.natCast_mul]
  rw [hm] at b1
  have hK : (prK b : Int) = (b.accept.length : Int) := rfl
  rw [hp, hK]
  unfold dav at hsp ⊢
  simp [-zJRc, hsp, k1, k2, e2]
  generalize ix (ix a.call (x : Int)) c * (b.accept.length : Int) = z1 at *
  generalize ix (ix a.push (x : Int)) c * b.stack = z2 at *
  omega
theorem z45k (h : PrOk a b) {s : Nat} (hs : s < prN a b) {c : Int} (c0 : 0 ≤ c) (c1 : c < a.inns) : PC zdOj [dav a b, .int s, .int c] = some (.int ((prd a b).mch.inner s c)) := by
  refine zx72 (z276 rfl ?_)
  have e2 := z6bl b
  have hsp := zwjG h hs
  have hp := z3OJ h (s := (s : Int)) (c := c) (by omega) (by omega) c0 c1
  obtain ⟨hx, hy⟩ := h.xy (s := (s : Int)) (by omega) (by omega)
  rw [Int.toNat_natCast] at hp hx hy
  generalize s / prK b = x at *
  generalize s % prK b = y at *
  have ra := h.oa.row (x : Int) (by omega) hx
  have rb := h.ob.row (y : Int) (by omega) hy
  have la := h.oa.lens
  have lb := h.ob.lens
  have hcb := h.i
  have k1 := zhu3 a x c (by omega) (by omega) c0 (by omega)
  have k2 := zhu3 b y c (by omega) (by omega) c0 (by omega)
  have ca := h.oa.inner (x : Int) c (by omega) hx c0 c1
  have cb := h.ob.inner (y : Int) c (by omega) hy c0 (by omega)
  have b1 := zAqx ca cb
  have b3 := Int.mul_nonneg ca.1 (show 0 ≤ (b.accept.length : Int) by omega)
  have h1 := h.n
  have hm : ((a.accept.length : Int) * (b.accept.length : Int)) = ((a.accept.length * b.accept.length : Nat) : Int) := by rw [Int.natCast_mul]
  rw [hm] at b1
  have hK : (prK b : Int) = (b.accept.length : Int) := rfl
  rw [hp, hK]
  unfold dav at hsp ⊢
  simp [-zJRc, hsp, k1, k2, e2]
  generalize ix (ix a.inner (x : Int)) c * (b.accept.length : Int) = z1 at *
  omega
theorem zKrr (h : PrOk a b) {s : Nat} (hs : s < prN a b) {g : Nat} (hg : (g : Int) < a.stack * b.stack) {r : Int} (r0 : 0 ≤ r) (r1 : r < a.rets) : PC zWl5 [dav a b, .int s, .int g, .int r] = some (.int ((prd a b).mch.pop s g r)) := by
  refine zx72 (zlgd rfl ?_)
  have e2 := z6bl b
  have hsp := zwjG h hs
  have hp := zEkT h (s := (s : Int)) (g := (g : Int)) (r := r) (by omega) (by omega) (by omega) hg r0 r1
  obtain ⟨hx, hy⟩ := h.xy (s := (s : Int)) (by omega) (by omega)
  obtain ⟨hg1, hg2⟩ := h.gh (g := (g : Int)) (by omega) hg
  have hgb := h.ob.stack
  obtain ⟨k, hk⟩ := Int.eq_ofNat_of_zero_le (show 0 ≤ b.stack by omega)
  simp only [Int.toNat_natCast] at hp hx hy hg1 hg2
  have hq : ((g / b.stack.toNat : Nat) : Int) = (g : Int) / b.stack := by rw [hk]; exact Int.natCast_ediv _ _
  have hr : ((g % b.stack.toNat : Nat) : Int) = (g : Int).tmod b.stack := by rw [hk]; rfl
  have hle : g / b.stack.toNat ≤ g := Nat.div_le_self _ _
  generalize s / prK b = x at *
  generalize s % prK b = y at *
  generalize g / b.stack.toNat = u at *
  generalize g % b.stack.toNat = v at *
  have ra := h.oa.row (x : Int) (by omega) hx
  have rb := h.ob.row (y : Int) (by omega) hy
  have la := h.oa.lens
  have lb := h.ob.lens
  have qa := h.oa.popl (x : Int) (u : Int) (by omega) hx (by omega) hg1
  have qb := h.ob.popl (y : Int) (v : Int) (by omega) hy (by omega) hg2
  have hcb := h.r
  have k1 := zwvy a x u r (by omega) (by omega) (by omega) (by omega) r0 (by omega)
  have k2 := zwvy b y v r (by omega) (by omega) (by omega) (by omega) r0 (by omega)
  have ca := h.oa.pop (x : Int) (u : Int) r (by omega) hx (by omega) hg1 r0 r1
  have cb := h.ob.pop (y : Int) (v : Int) r (by omega) hy (by omega) hg2 r0 (by omega)
  have b1 := zAqx ca cb
  have b3 := Int.mul_nonneg ca.1 (show 0 ≤ (b.accept.length : Int) by omega)
  have h1 := h.n
  have h2 := h.g
  have hm : ((a.accept.length : Int) * (b.accept.length : Int)) = ((a.accept.length * b.accept.length : Nat) : Int) := by rw [Int.natCast_mul]
  rw [hm] at b1
  have hK : (prK b : Int) = (b.accept.length : Int) := rfl
  rw [hp, hK]
  have hb0 : ¬ b.stack = 0 := by omega
  have hbd : -9223372036854775808 ≤ (u : Int) ∧ (u : Int) ≤ 9223372036854775807 := by omega
  unfold dav at hsp ⊢
  simp [-zJRc, hsp, k1, k2, e2, ← hq, ← hr, hb0, hbd]
  generalize ix (ix (ix a.pop (x : Int)) (u : Int)) r * (b.accept.length : Int) = z1 at *
  omega
theorem zNTn (h : PrOk a b) : MOk zZPs (dav a b) (prd a b).mch := by
  have hN : (((prd a b).mch.size : Nat) : Int) = ((prN a b : Nat) : Int) := by show (((prd a b).accept.length : Nat) : Int) = _; rw [z1TS]; rfl
  refine ⟨by simp [dav], by simp [dav], ⟨zmNm, rfl, zgdv h⟩, ⟨zZvM, rfl, fun s c s0 s1 c0 c1 => ?_⟩, ⟨zdOj, rfl, fun s c s0 s1 c0 c1 => ?_⟩, ⟨zWl5, rfl, fun s c u r s0 s1 c0 c1 u0 u1 r0 r1 => ?_⟩⟩
  · obtain ⟨s, rfl⟩ := Int.eq_ofNat_of_zero_le s0
    exact zJCg h (by omega) c0 c1
  · obtain ⟨s, rfl⟩ := Int.eq_ofNat_of_zero_le s0
    exact z45k h (by omega) c0 c1
  · have hg := (zBaE h).push s c s0 s1 c0 c1
    have hg : 0 ≤ ((prd a b).mch.call s c).2 ∧ ((prd a b).mch.call s c).2 < a.stack * b.stack := hg
    generalize ((prd a b).mch.call s c).2 = g at *
    obtain ⟨u, rfl⟩ := Int.eq_ofNat_of_zero_le u0
    obtain ⟨g, rfl⟩ := Int.eq_ofNat_of_zero_le hg.1
    exact zKrr h (by omega) hg.2 r0 r1
end
end Ab
namespace Ab
theorem chunkB : ∀ {xs : List Bool}, chunk none xs.length (xs.map AV.bool) = xs.map .bool
  | [] => rfl
  | x :: xs => by
    have e := chunkB (xs := xs)
    simp only [List.length_cons, List.map_cons, chunk, e]
theorem zwGZ {vars : List AV} {fl : Option (Nat × AV)} {ws : List Bool} {k : Nat} {Q : Ex → St → Prop} (hn : nth vars k = .sl 0 ws.length 0 ws.length) (h : Q .nor ⟨setN vars k (.imm true (ws.map .bool)), fl, [⟨none, ws.map .bool, .dead⟩]⟩) : W L (.frz k) ⟨vars, fl, [⟨none, ws.map .bool, .live⟩]⟩ Q := by
  have hri : ∀ (l : List Bool) (σ : List Blk) (acc : List Nat), (l.map AV.bool).foldl (fun acc y => reach σ 11 y acc) acc = acc := fun l => by
    induction l with
    | nil => intro _ _; rfl
    | cons x l ih => intro σ acc; simp only [List.map_cons, List.foldl_cons]; exact ih σ acc
  have hr : reach [⟨none, ws.map .bool, .live⟩] vd (.sl 0 ws.length 0 ws.length) [] = [0] := by
    show reach [⟨none, ws.map .bool, .live⟩] (11 + 1) (.sl 0 ws.length 0 ws.length) [] = [0]
    unfold reach
    simp only [List.contains_nil, Bool.false_eq_true, if_false, blk]
    exact hri ws _ [0]
  have hu : upto [⟨none, ws.map .bool, .live⟩] 0 ws.length = some ⟨none, ws.map .bool, .live⟩ := by
    unfold upto
    simp [blk]
  have hv : view [⟨none, ws.map .bool, .live⟩] false vd (.sl 0 ws.length 0 ws.length) = some (bL ws) := by
    show view _ false (11 + 1) _ = _
    unfold view
    simp only [hu]
    simp only [kst, List.drop_zero, Nat.zero_add, Nat.mul_one]
    have e : ∀ τ, mapO (view τ false 11) (ws.map AV.bool) = some (ws.map AV.bool) := fun τ => zwdp (f := AV.bool) (g := AV.bool) fun _ _ => rfl
    rw [if_pos (by simp), chunkB, e]
  have hs : surely [⟨none, ws.map .bool, .live⟩] (.sl 0 ws.length 0 ws.length) = true := by
    simp only [surely, hu]
  refine ⟨0, .nor, _, ?_, h⟩
  simp only [exec, hn, hr]
  have hd : dieIf (fun b => !([0] : List Nat).contains b) 0 [⟨none, ws.map .bool, .live⟩] = [⟨none, ws.map .bool, .live⟩] := by simp [dieIf]
  rw [hd, hv]
  simp only [hs]
  simp [dieIf]
def dgl (a b : Nst) (i : Nat) : List Bool := (List.range (prN a b)).map fun k => decide (k < i) && prAcc a b k
theorem z3BJ {a b : Nst} {i : Nat} : (dgl a b i).length = prN a b := by simp [dgl]
theorem dgl_0 {a b : Nst} : (dgl a b 0).map AV.bool = List.replicate (prN a b) (.bool false) := by
  rw [← zsAV]
  simp [dgl]
theorem dgl_n {a b : Nst} : dgl a b (prN a b) = (prd a b).accept := by
  show _ = (List.range (prN a b)).map (prAcc a b)
  refine List.map_congr_left fun k hk => ?_
  rw [decide_eq_true (List.mem_range.1 hk)]; rfl
theorem dgl_s {a b : Nst} {i : Nat} (hi : i < prN a b) : (dgl a b i).set i (prAcc a b i) = dgl a b (i + 1) := by
  apply List.ext_getElem
  · simp [dgl]
  · intro j h1 h2
    rw [List.getElem_set]
    simp only [dgl, List.getElem_map, List.getElem_range]
    by_cases e : i = j
    · subst e; simp
    · rw [if_neg e]
      congr 1
      rw [decide_eq_decide]; omega
def errA (e : Int) : AV := .tup [.imm false [], .bool false, .int e]
noncomputable def dfA (a b : Nst) : AV := if a.validE ≠ 0 then errA a.validE else if b.validE ≠ 0 then errA b.validE else if a.calls ≠ b.calls ∨ a.inns ≠ b.inns ∨ a.rets ≠ b.rets then errA 15 else fAns ((prd a b).mch.f1 (prd a b).start (ix (prd a b).accept)) ((prd a b).mch.f1E (prd a b).start (ix (prd a b).accept))
theorem zpY5 {a b : Nst} (ha : a.Ok) (hb : b.Ok) (sa : a.small = true) (sb : b.small = true) (hc : a.calls = b.calls) (hi : a.inns = b.inns) (hr : a.rets = b.rets) : PrOk a b := by
  simp only [Nst.small, Bool.and_eq_true, decide_eq_true_eq] at sa sb
  have h1 : a.accept.length * b.accept.length ≤ 5 * 5 := Nat.mul_le_mul (by omega) (by omega)
  have h2 : a.stack * b.stack ≤ 6 * 6 := Int.mul_le_mul (by omega) (by omega) (by have := hb.stack; omega) (by omega)
  exact ⟨ha, hb, hc.symm, hi.symm, hr.symm, by omega, by omega⟩
theorem zKg6 (a b : Nst) (h : a.fits) (h' : b.fits) (sa : a.small = true) (sb : b.small = true) : PC znwB [a.av, b.av] = some (dfA a b) := by
  refine zx72 (zJMk rfl ?_)
  have e1 := zYdA a h
  have e2 := zYdA b h'
  unfold dfA
  by_cases hv : a.validE = 0
  case neg => simp [-zJRc, e1, hv, errA]
  by_cases hw : b.validE = 0
  case neg => simp [-zJRc, e1, e2, hv, hw, errA]
  by_cases hx : a.calls ≠ b.calls ∨ a.inns ≠ b.inns ∨ a.rets ≠ b.rets
  · rw [if_neg (by simpa using hv), if_neg (by simpa using hw), if_pos hx]
    have key : ∀ p q r : Prop, (p → q → r → False) → (p = True ∧ q = True ∧ r = False) ∨ (p = True ∧ q = False) ∨ p = False := fun p q r h => by
      by_cases hp : p <;> by_cases hq : q <;> by_cases hr : r <;> simp [hp, hq, hr]
      exact absurd (h hp hq hr) id
    rcases key (a.calls = b.calls) (a.inns = b.inns) (a.rets = b.rets) (fun c1 c2 c3 => by rcases hx with hx | hx | hx; exact hx c1; exact hx c2; exact hx c3) with ⟨c1, c2, c3⟩ | ⟨c1, c2⟩ | c1
    · simp [-zJRc, e1, e2, hv, hw, c1, c2, c3, errA]
    · simp [-zJRc, e1, e2, hv, hw, c1, c2, errA]
    · simp [-zJRc, e1, e2, hv, hw, c1, errA]
  rw [if_neg (by simpa using hv), if_neg (by simpa using hw), if_neg hx]
  have c1 : a.calls = b.calls := Classical.byContradiction fun h => hx (.inl h)
  have c2 : a.inns = b.inns := Classical.byContradiction fun h => hx (.inr (.inl h))
  have c3 : a.rets = b.rets := Classical.byContradiction fun h => hx (.inr (.inr h))
  have oa := zdZr hv
  have ob := zdZr hw
  have hp := zpY5 oa ob sa sb c1 c2 c3
  have hsz := zgdv hp
  have hn := hp.n
  have hg := hp.g
  have hm : ((a.accept.length : Int) * (b.accept.length : Int)) = ((a.accept.length * b.accept.length : Nat) : Int) := by rw [Int.natCast_mul]
  have l1 : ¬ (144 : Int) < (a.accept.length : Int) * (b.accept.length : Int) := by omega
  have l2 : ¬ (1024 : Int) < a.stack * b.stack := by omega
  have l3 : -9223372036854775808 ≤ (a.accept.length : Int) * (b.accept.length : Int) ∧ (a.accept.length : Int) * (b.accept.length : Int) ≤ 9223372036854775807 := by omega
  have gp := Int.mul_nonneg (show 0 ≤ a.stack by have := oa.stack; omega) (show 0 ≤ b.stack by have := ob.stack; omega)
  have l4 : -9223372036854775808 ≤ a.stack * b.stack ∧ a.stack * b.stack ≤ 9223372036854775807 := by omega
  have hN : (((prd a b).mch.size : Nat) : Int) = ((prN a b : Nat) : Int) := by show (((prd a b).accept.length : Nat) : Int) = _; rw [z1TS]; rfl
  rw [hN] at hsz
  unfold dav at hsz
  have d1 := eq_true c1
  have d2 := eq_true c2
  have d3 := eq_true c3
  clear hx
  simp [-zJRc, e1, e2, hv, hw, d1, d2, d3, l1, l2, l3, l4, hsz]
  refine ⟨by unfold prN; omega, ?_⟩
  refine zv8C (fun i : Nat => [(8, .int i)]) (fun i => [⟨none, (dgl a b i).map .bool, .live⟩]) (fun i => i ≤ prN a b) (fun i => prN a b - i) 0 (by rw [dgl_0]; rfl) (by simp) ?_
  intro i i1
  by_cases hi : i < prN a b
  · have hsp := zwjG hp hi
    unfold dav at hsp
    obtain ⟨hx, hy⟩ := hp.xy (s := (i : Int)) (by omega) (by omega)
    rw [Int.toNat_natCast] at hx hy
    have hst := dgl_s hi
    have hlen := z3BJ (a := a) (b := b) (i := i)
    have hpa : prAcc a b i = (ix a.accept ((i / prK b : Nat) : Int) != ix b.accept ((i % prK b : Nat) : Int)) := rfl
    generalize i / prK b = x at *
    generalize i % prK b = y at *
    have hx' := eq_true hx
    have hy' := eq_true hy
    have hi' := eq_true hi
    rw [hpa] at hst
    simp [-zJRc, hi, hsp, hx', hy', hlen]
    exact ⟨by unfold prN at *; omega, zGkM (i + 1) (by simp) (by rw [← hst, List.map_set]; rfl) (by omega) (by omega)⟩
  · have : i = prN a b := by omega
    subst this
    have okp := zBaE hp
    have hpn : (prd a b).accept.length = prN a b := z1TS
    have hss := okp.states
    have hst := okp.start
    obtain ⟨s, hs⟩ := Int.eq_ofNat_of_zero_le hst.1
    have hf := zkpq (zcLc okp) (by show 1 ≤ (prd a b).accept.length; omega) (by show (prd a b).accept.length ≤ 1000; omega) (zNTn hp) (nn := a) rfl rfl rfl (s := s) (by show s < (prd a b).accept.length; omega) (gs := (prd a b).accept) rfl (q := false)
    rw [← hs] at hf
    have hst2 : (prd a b).start = a.start * (b.accept.length : Int) + b.start := rfl
    have e3 := z6bl b
    have b3 := Int.mul_nonneg oa.start.1 (show 0 ≤ (b.accept.length : Int) by omega)
    have bb := ob.start
    have bd1 : -9223372036854775808 ≤ a.start * (b.accept.length : Int) ∧ a.start * (b.accept.length : Int) ≤ 9223372036854775807 := by omega
    have bd2 : -9223372036854775808 ≤ a.start * (b.accept.length : Int) + b.start ∧ a.start * (b.accept.length : Int) + b.start ≤ 9223372036854775807 := by omega
    simp [-zJRc]
    refine zwGZ (by simp [z3BJ]) ?_
    rw [dgl_n]
    unfold dav at hf
    cases hm : (prd a b).mch.f1 (prd a b).start (ix (prd a b).accept) with
    | none => rw [hm] at hf; rw [hst2] at hf ⊢; simp [-zJRc, hf, e3, bd1, bd2, fAns]
    | some w => rw [hm] at hf; rw [hst2] at hf ⊢; simp [-zJRc, hf, e3, bd1, bd2, fAns]
end Ab
namespace Ab
section
variable {a b : Nst}
theorem zLzy (h : PrOk a b) {x y : Int} (hx : 0 ≤ x ∧ x < (a.accept.length : Int)) (hy : 0 ≤ y ∧ y < (b.accept.length : Int)) : ix (prd a b).accept (pr b x y) = (ix a.accept x != ix b.accept y) := by
  have hp := pr_in h hx hy
  obtain ⟨e1, e2⟩ := pr_xy hx.1 hy.1 hy.2
  have e : ix (prd a b).accept (pr b x y) = prAcc a b (pr b x y).toNat := zyBn hp.1 hp.2
  rw [e]
  unfold prAcc
  rw [e1, e2]
theorem zNWi (h : PrOk a b) {x x' y : Int} {w : List Int} (hy : 0 ≤ y ∧ y < (b.accept.length : Int)) (k : Wd a.mch x x' w) : ∃ y', (0 ≤ y' ∧ y' < (b.accept.length : Int)) ∧ Wd b.mch y y' w := by
  have ha := h.oa
  have hb := h.ob
  obtain ⟨h1, h2, _⟩ := (zU50 (M := a.mch) ⟨ha.calls.1, ha.inns.1, ha.rets.1⟩).1 k
  have ec : b.mch.calls = a.mch.calls := h.c
  have ei : b.mch.inns = a.mch.inns := h.i
  have er : b.mch.rets = a.mch.rets := h.r
  have k2 := (zU50 (M := b.mch) (s := y) (w := w) ⟨hb.calls.1, hb.inns.1, hb.rets.1⟩).2 ⟨by rw [ec, ei, er]; exact h1, by rw [ec, ei]; exact h2, rfl⟩
  exact ⟨_, k2.range (ztQm hb) hy, k2⟩
theorem zRdB (h : PrOk a b) {x y y' : Int} {w : List Int} (hx : 0 ≤ x ∧ x < (a.accept.length : Int)) (k : Wd b.mch y y' w) : ∃ x', (0 ≤ x' ∧ x' < (a.accept.length : Int)) ∧ Wd a.mch x x' w := by
  have ha := h.oa
  have hb := h.ob
  obtain ⟨h1, h2, _⟩ := (zU50 (M := b.mch) ⟨hb.calls.1, hb.inns.1, hb.rets.1⟩).1 k
  have ec : b.mch.calls = a.mch.calls := h.c
  have ei : b.mch.inns = a.mch.inns := h.i
  have er : b.mch.rets = a.mch.rets := h.r
  have k2 := (zU50 (M := a.mch) (s := x) (w := w) ⟨ha.calls.1, ha.inns.1, ha.rets.1⟩).2 ⟨by rw [← ec, ← ei, ← er]; exact h1, by rw [← ec, ← ei]; exact h2, rfl⟩
  exact ⟨_, k2.range (ztQm ha) hx, k2⟩
theorem zGI0 {n : Nst} (hv : n.validE = 0) {w : List Int} {t : Int} (h : Wd n.mch n.start t w) (h0 : (n.acc w).2 = 0) : (n.acc w).1 = ix n.accept t := by
  have ok := zdZr hv
  obtain ⟨k1, k2, k3⟩ := (zGlo ok).1 h
  unfold Nst.acc at h0 ⊢
  rw [if_neg (by simpa using hv)] at h0 ⊢
  split at h0
  · rename_i h1; exact absurd h0 h1
  · rename_i h1
    rw [if_neg h1]
    split at h0
    · simp at h0
    · rename_i h2
      rw [if_neg h2, if_neg (by rw [k2]; simp), k3]
theorem zx55 (h : PrOk a b) (va : a.validE = 0) (vb : b.validE = 0) {w : List Int} (ha : (a.acc w).2 = 0) (hb : (b.acc w).2 = 0) (hne : (a.acc w).1 ≠ (b.acc w).1) : gdW (prd a b).mch (prd a b).start (ix (prd a b).accept) w := by
  have oa := h.oa
  have ob := h.ob
  have key : ∃ x' y', ((0 ≤ x' ∧ x' < (a.accept.length : Int)) ∧ Wd a.mch a.start x' w) ∧ ((0 ≤ y' ∧ y' < (b.accept.length : Int)) ∧ Wd b.mch b.start y' w) := by
    cases e1 : (a.acc w).1 with
    | true =>
      obtain ⟨t, t1, t2, t3⟩ := zfNo va (show a.acc w = (true, 0) from Prod.ext e1 ha)
      obtain ⟨y', h1, h2⟩ := zNWi h ob.start t3
      exact ⟨t, y', ⟨t1, t3⟩, h1, h2⟩
    | false =>
      cases e2 : (b.acc w).1 with
      | false => rw [e1, e2] at hne; exact absurd rfl hne
      | true =>
        obtain ⟨t, t1, t2, t3⟩ := zfNo vb (show b.acc w = (true, 0) from Prod.ext e2 hb)
        obtain ⟨x', h1, h2⟩ := zRdB h oa.start t3
        exact ⟨x', t, ⟨h1, h2⟩, t1, t3⟩
  obtain ⟨x', y', ⟨hx, kx⟩, hy, ky⟩ := key
  rw [zGI0 va kx ha, zGI0 vb ky hb] at hne
  have hp := pr_in h hx hy
  refine ⟨pr b x' y', ⟨hp.1, ?_⟩, ?_, zmvU h oa.start ob.start kx ky⟩
  · show _ < (((prd a b).accept.length : Nat) : Int)
    rw [z1TS]; exact hp.2
  · rw [zLzy h hx hy]; simpa using hne
theorem zTP5 (a b : Nst) (sa : a.small = true) (sb : b.small = true) : (∃ e : Int, e ≠ 0 ∧ dfA a b = .tup [.imm false [], .bool false, .int e]) ∨ (PrOk a b ∧ a.validE = 0 ∧ b.validE = 0 ∧ (((prd a b).mch.f1 (prd a b).start (ix (prd a b).accept) = none ∧ (prd a b).mch.f1E (prd a b).start (ix (prd a b).accept) = 0 ∧ dfA a b = .tup [.imm false [], .bool false, .int 0]) ∨ ∃ w, (prd a b).mch.f1 (prd a b).start (ix (prd a b).accept) = some w ∧ dfA a b = .tup [iL w, .bool true, .int 0])) := by
  unfold dfA
  by_cases hv : a.validE = 0
  case neg => rw [if_pos hv]; exact .inl ⟨_, hv, rfl⟩
  by_cases hw : b.validE = 0
  case neg => rw [if_neg (by simpa using hv), if_pos hw]; exact .inl ⟨_, hw, rfl⟩
  by_cases hx : a.calls ≠ b.calls ∨ a.inns ≠ b.inns ∨ a.rets ≠ b.rets
  · rw [if_neg (by simpa using hv), if_neg (by simpa using hw), if_pos hx]
    exact .inl ⟨15, by simp, rfl⟩
  rw [if_neg (by simpa using hv), if_neg (by simpa using hw), if_neg hx]
  have c1 : a.calls = b.calls := Classical.byContradiction fun h => hx (.inl h)
  have c2 : a.inns = b.inns := Classical.byContradiction fun h => hx (.inr (.inl h))
  have c3 : a.rets = b.rets := Classical.byContradiction fun h => hx (.inr (.inr h))
  have hp := zpY5 (zdZr hv) (zdZr hw) sa sb c1 c2 c3
  cases hf : (prd a b).mch.f1 (prd a b).start (ix (prd a b).accept) with
  | none =>
    by_cases he : (prd a b).mch.f1E (prd a b).start (ix (prd a b).accept) = 0
    · exact .inr ⟨hp, hv, hw, .inl ⟨rfl, he, by rw [he]; rfl⟩⟩
    · exact .inl ⟨_, he, rfl⟩
  | some w => exact .inr ⟨hp, hv, hw, .inr ⟨w, rfl, rfl⟩⟩
theorem zdin (aw : PC zfV6 [] = some (.bool true)) (a b : Nst) (h : a.fits) (h' : b.fits) (w : List Int) (hw : (w.length : Int) ≤ 9223372036854775807) : PC z1FP [a.av, b.av, iL w] = some (.bool true) := by
  refine zx72 (zstr rfl ?_)
  cases sa : a.small with
  | false => simp [zL6e a h, sa, aw]
  | true =>
    cases sb : b.small with
    | false => simp [zL6e a h, zL6e b h', sa, sb, aw]
    | true =>
      by_cases hw6 : 60 < (w.length : Int)
      · simp [zL6e a h, zL6e b h', sa, sb, hw6, aw]
      have hS := zKg6 a b h h' sa sb
      rcases zTP5 a b sa sb with ⟨e, he, hA⟩ | ⟨hp, va, vb, ⟨hf, hE, hA⟩ | ⟨u, hf, hA⟩⟩
      · rw [hA] at hS
        simp [zL6e a h, zL6e b h', sa, sb, hw6, hS, he, aw]
      · rw [hA] at hS
        have hno : (a.acc w).2 = 0 → (b.acc w).2 = 0 → (a.acc w).1 = (b.acc w).1 := fun h1 h2 => Classical.byContradiction fun hne => by
          obtain ⟨t, k1, k2, k3⟩ := zx55 hp va vb h1 h2 hne
          unfold Mch.f1E at hE
          rw [if_pos ⟨⟨t, k1, k2, k3.conn⟩, hf⟩] at hE
          simp at hE
        have hA1 := zY3J a h w hw
        have hA2 := zY3J b h' w hw
        simp [zL6e a h, zL6e b h', sa, sb, hw6, hS, hA1, hA2, aw]
        exact hno
      · rw [hA] at hS
        have oa := hp.oa
        have ob := hp.ob
        obtain ⟨⟨⟨t, h1, h2, h3⟩, h4⟩, h5⟩ := zDGF hf
        obtain ⟨x', y', ht, kx, ky⟩ := zrRd hp h3 a.start b.start oa.start ob.start rfl
        have hx := kx.range (ztQm oa) oa.start
        have hy := ky.range (ztQm ob) ob.start
        have hx : 0 ≤ x' ∧ x' < (a.accept.length : Int) := hx
        have hy : 0 ≤ y' ∧ y' < (b.accept.length : Int) := hy
        rw [ht, zLzy hp hx hy] at h2
        obtain ⟨hum, kw, hup, hr⟩ := zfNP va kx h4
        obtain ⟨_, kw2, hup2, hr2⟩ := zfNP vb ky h4
        have hF := z0GH a oa u kw hup a.start oa.start
        have hF2 := z0GH b ob u kw2 hup2 b.start ob.start
        have hM := zQS8 a h u (by omega)
        rw [hum] at hM
        rw [hr] at hF
        rw [hr2] at hF2
        have hin := eq_true hx.2
        have hin2 := eq_true hy.2
        have h10 := hx.1
        have h20 := hy.1
        have hA1 := zY3J a h w hw
        have hA2 := zY3J b h' w hw
        have hC := z6sk u w (by omega) hw
        have h2' : (ix a.accept x' == ix b.accept y') = false := by simpa using h2
        simp [zL6e a h, zL6e b h', sa, sb, hw6, hS, hM, hF, hF2, hA1, hA2, hin, hin2, h10, h20, h2', hC, aw]
        intro k1 k2 k3
        have hsy : ∀ v, gdW (prd a b).mch (prd a b).start (ix (prd a b).accept) v → sy v := gd_sy (zcLc (zBaE hp))
        have hg := zx55 hp va vb k1 k2 k3
        exact (z7J5 (hsy u (zDGF hf).1.1) (hsy w hg)).2 (h5 w hg)
end
end Ab
