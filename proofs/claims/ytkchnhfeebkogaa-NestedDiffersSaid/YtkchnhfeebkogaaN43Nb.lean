/- One level of the search: steps and chains are joined. One level of the search: chains go on. One level of the search, whole. A caller is put in. Empty words: newBest. Condition: none. -/
import Derived.Test.YtkchnhfeebkogaaN43La
set_option linter.all false
set_option maxRecDepth 100000
set_option maxHeartbeats 4000000
namespace Ab
def bxOf (tt : Nat) (v : AV) (n : Nst) : List AV := [.iface tt v, .int n.calls, .int n.inns, .int n.rets, .int n.stack, .int n.start, bL n.accept, iLL n.call, iLL n.push, iLL n.inner, iLLL n.pop]
section
variable {M : Mch} {n : Nat}
theorem z8xT (hM : M.Sm) (hsz : M.size ≤ 1000) {X1 : XM} (hX : Xok X1) (hNM : X1.N = M.size) {bx : List AV} (hbx : X1.bx = bx) (hb2 : ∃ b0 b1 b2 b3 b4 b5 b6 b7 b8 b9 b10, bx = [b0, b1, b2, b3, b4, b5, b6, b7, b8, b9, b10]) {D1 : Nat} {out : List PR} (hol1 : out.length ≤ 1000000) (hd : X1.dyn[D1]? = some (.jk (outB out))) {C0 : Bs} (hC0 : Bst M (Wd M) n C0) (hXC : X1.C = C0) (hS1 : Bst M (Stp M) (n + 1) X1.S)
    (ho : ∀ s t, (s, t) ∈ out → (inS M s ∧ inS M t) ∧ ∃ a, M.sk s t = some a ∧ a.length = n ∧ X1.S.W s t = some a) (nv : AV) {Q : Ex → St → Prop}
    (hQ : ∀ Z, Xe X1 Z → Z.S = X1.S → Z.A = X1.A → LvA M n X1.S C0 Z.C out out.length 0 → ∀ i, Q .nor ⟨[.ptr (num X1.N .bx) (kst (some 14)) 0, nv, .int i, .int out.length, .sl (num X1.N (.dy D1)) (2 * out.length) 0 out.length, .und, .und, .und, .und, .und, .und, .und, .und, .und, .und, .und, .und, .und, .und, .und, .und, .und, .und, .und, .und, .und, .und, .und], none, mem Z⟩) :
    W L (.loop znZF) ⟨[.ptr (num X1.N .bx) (kst (some 14)) 0, nv, .int 0, .int out.length, .sl (num X1.N (.dy D1)) (2 * out.length) 0 out.length, .und, .und, .und, .und, .und, .und, .und, .und, .und, .und, .und, .und, .und, .und, .und, .und, .und, .und, .und, .und, .und, .und, .und], none, mem X1⟩ (Out 0 Q) := by
  obtain ⟨b0, b1, b2, b3, b4, b5, b6, b7, b8, b9, b10, hbe⟩ := hb2
  have hol := zVGk (l := out)
  refine zv8C (fun p : Nat × XM => [(2, .int p.1)]) (fun p => mem p.2) (fun p => p.1 ≤ out.length ∧ Xe X1 p.2 ∧ p.2.S = X1.S ∧ p.2.A = X1.A ∧ LvA M n X1.S C0 p.2.C out p.1 0) (fun p => out.length - p.1) (0, X1) (by simp [sets]) ⟨by simp, .refl hX, rfl, rfl, by rw [hXC]; exact .init hC0⟩ ?_
  rintro ⟨i, Z⟩ ⟨i1, z1, z2, z3, z4⟩
  dsimp only at i1 z1 z2 z3 z4 ⊢
  by_cases hi : i < out.length
  · have zf := zf_of z1.ok (z1.n) (z1.bx.trans hbx)
    have hdy := z_dy z1.ok z1.n (z_ext z1 hd)
    have hdy : blk (mem Z) (num X1.N (.dy D1)) = some ⟨some 2, prs out, if out = [] then .nul else .live⟩ := hdy
    have hone : out ≠ [] := by intro e; rw [e] at hi; simp at hi
    rw [if_neg hone] at hdy
    have p2 := fun (K : AV → Prop) (t : Tk K) => zx37 (l := out) (i := i) (K := K) (t := t) hi
    have hmem := zmAQ (l := out) (n := (i : Int)) (by omega) (by omega)
    obtain ⟨⟨⟨s0, s1⟩, t0, t1⟩, a, ha, hal, haW⟩ := ho (ix out (i : Int)).1 (ix out (i : Int)).2 hmem
    have hskf := (zWgz hM).1 ha
    generalize hP : ix out (i : Int) = P at *
    obtain ⟨u, hu⟩ := Int.eq_ofNat_of_zero_le s0
    obtain ⟨v, hv⟩ := Int.eq_ofNat_of_zero_le t0
    have hun : u < X1.N := by omega
    have hvn : v < X1.N := by omega
    have hun' := eq_true hun
    have hvn' := eq_true hvn
    have zbx := zf.bx
    rw [hbe] at zbx
    have q1 := zf.box false
    have q2 := zf.dno false
    have q3 := zCaJ (N := X1.N) (g := .dr false)
    have q4 := z2sE (N := X1.N) (g := .dr false) hvn
    have q5 := zf.dr false v hvn
    have hPe : P = ((u : Int), (v : Int)) := Prod.ext hu hv
    subst hPe
    dsimp only at p2
    simp [-zJRc, hi, hdy, hol, ↓p2, zbx, q1, q2, q3, q4, q5, hvn']
    refine zv8C (fun p : Nat × XM => [(6, .int p.1)]) (fun p => mem p.2) (fun p => p.1 ≤ X1.N ∧ Xe X1 p.2 ∧ p.2.S = X1.S ∧ p.2.A = X1.A ∧ LvA M n X1.S C0 p.2.C out i (p.1 : Int)) (fun p => X1.N - p.1) (0, Z) (by simp [sets]) ⟨by simp, z1, z2, z3, z4⟩ ?_
    rintro ⟨j, Y⟩ ⟨j1, y1, y2, y3, y4⟩
    dsimp only at j1 y1 y2 y3 y4 ⊢
    by_cases hj : j < X1.N
    · have yf := zf_of y1.ok (y1.n) (y1.bx.trans hbx)
      have ybx := yf.bx
      rw [hbe] at ybx
      have hj' := eq_true hj
      have g1 : blk (mem Y) (num X1.N (.dr false v)) = some ⟨none, (drow X1.N Y.C.D v).map .bool, .live⟩ := yf.dr false v hvn
      have g2 := zGyT (s := v) (N := X1.N) (D := Y.C.D)
      have g3 := z8jd (s := v) (N := X1.N) (D := Y.C.D) hj
      have g4 := z6JH (s := v) (N := X1.N) (D := Y.C.D) hj
      have hjin : inS M (j : Int) := ⟨by omega, by omega⟩
      have hvin : inS M (v : Int) := ⟨by omega, by omega⟩
      have huin : inS M (u : Int) := ⟨by omega, by omega⟩
      obtain ⟨k1, k2⟩ := hC0.keep y4.c hvin hjin
      cases hD : Y.C.D (v : Int) (j : Int) with
      | false =>
        rw [hD] at g3 g4 k1
        simp [-zJRc, hj, g1, g2, g3, g4]
        exact ⟨by omega, zGkM (j + 1, Y) (by simp) rfl ⟨by dsimp only; omega, y1, y2, y3, by have := y4.skip (by rw [hP]; exact k1); exact this⟩ (by dsimp only; omega)⟩
      | true =>
        rw [hD] at g3 g4 k1
        obtain ⟨c, hc, hcf, hcl⟩ := hC0.doneW hvin hjin k1
        have hcY : Y.C.W (v : Int) (j : Int) = some c := by rw [← k2 k1]; exact hc
        have hcs := (zvJ0 hM).1 hcf
        have haY : Y.S.W (u : Int) (v : Int) = some a := by rw [y2]; exact haW
        have w1 : blk (mem Y) (num X1.N (.wr true u)) = some ⟨none, wrow X1.N Y.S.W u, .live⟩ := yf.wr true u hun
        have w2 : blk (mem Y) (num X1.N (.wr false v)) = some ⟨none, wrow X1.N Y.C.W v, .live⟩ := yf.wr false v hvn
        have w3 := zFNI (s := u) (N := X1.N) (W := Y.S.W)
        have w4 := zoH3 (s := u) (N := X1.N) (W := Y.S.W) hvn
        have w5 := zFNI (s := v) (N := X1.N) (W := Y.C.W)
        have w6 := zoH3 (s := v) (N := X1.N) (W := Y.C.W) hj
        rw [haY] at w4
        rw [hcY] at w6
        have w4 : elm (wrow X1.N Y.S.W u) v = some (.imm true (a.map .int)) := w4
        have w6 : elm (wrow X1.N Y.C.W v) j = some (.imm true (c.map .int)) := w6
        have w7 := yf.box true
        have w8 := yf.wo true
        have w9 := yf.wo false
        have w10 := zCaJ (N := X1.N) (g := .wr true)
        have w11 := z2sE (N := X1.N) (g := .wr true) hun
        have w12 := zCaJ (N := X1.N) (g := .wr false)
        have w13 := z2sE (N := X1.N) (g := .wr false) hvn
        have w14 := yf.box false
        obtain ⟨V, hO, v1, v2, v3, v4⟩ := zaGq (X := Y) (f := false) (s := u) (t := j) y1.ok (by rw [y1.n]; exact hun) (by rw [y1.n]; exact hj) (v := .imm true (a.map .int)) (w := .imm true (c.map .int)) (.imm true a) (.imm true c) (by have := hskf.1.2; have := hcs.1.2; omega) (fun k => by have h1 := y4.c.rlen k; have h2 : M.size * M.size ≤ 1000 * 1000 := Nat.mul_le_mul hsz hsz; show (Y.C.R k).length ≤ _; omega) (fun o e => (y4.c.snd _ _ _ huin hjin e).2)
        rw [y1.n] at hO
        simp [-zJRc, hj, g1, g2, g3, g4, ybx, w1, w2, w3, w4, w5, w6, w7, w8, w9, w10, w11, w12, w13, w14, hun', hvn', hj', hO]
        refine ⟨by omega, zGkM (j + 1, V) (by simp) rfl ⟨by dsimp only; omega, y1.trans v1, v3.trans y2, v4.trans y3, ?_⟩ (by dsimp only; omega)⟩
        have hst := y4.step hM (a := a) (b := c) hi (by rw [hP]; exact huin) (by rw [hP]; exact hvin) hjin (by rw [hP]; exact haW) (by rw [hP]; exact hskf.1.1) (by omega) (by rw [hP]; exact hc) (by rw [hP]; exact hcs.1.1)
        rw [hP] at hst
        have v2 : V.C = Y.C.off (u : Int) (j : Int) (a ++ c) := v2
        show LvA M n X1.S C0 V.C out i ((j + 1 : Nat) : Int)
        rw [v2]
        exact hst
    · have ej : j = X1.N := by omega
      subst ej
      simp [-zJRc]
      exact ⟨by omega, zGkM (i + 1, Y) (by simp) rfl ⟨by dsimp only; omega, y1, y2, y3, by rw [hNM] at y4; exact y4.row⟩ (by dsimp only; omega)⟩
  · have ei : i = out.length := by omega
    subst ei
    simp [-zJRc]
    exact hQ Z z1 z2 z3 z4 _
end
end Ab
namespace Ab
section
variable {M : Mch} {n : Nat}
theorem z9v9 (hM : M.Sm) (hsz : M.size ≤ 1000) {tt : Nat} {mv : AV} (hmv : MOk tt mv M) {nn : Nst} (hc : nn.calls = M.calls) (hi' : nn.inns = M.inns) (hr' : nn.rets = M.rets) {X1 : XM} (hX : Xok X1) (hNM : X1.N = M.size) (hbx : X1.bx = bxOf tt mv nn) {D1 : Nat} {out : List PR} (hol1 : out.length ≤ 1000000) (hd : X1.dyn[D1]? = some (.jk (outB out))) {A : Int → List CR} (hA : X1.A = A) (hAok : AOk M A) (hAl : ∀ p, (A p).length ≤ 1000000) (hS1 : Bst M (Stp M) (n + 1) X1.S) (hC1 : Bst M (Wd M) (n + 1) X1.C)
    (ho : ∀ s t, (s, t) ∈ out → (inS M s ∧ inS M t) ∧ ∃ a, M.lk s t = some a ∧ a.length = n ∧ X1.C.W s t = some a) {Q : Ex → St → Prop}
    (hQ : ∀ Z, Xe X1 Z → Z.A = X1.A → LvB M n A X1.S X1.C Z.S Z.C out out.length 0 0 0 → ∀ i, Q .nor ⟨[.ptr (num X1.N .bx) (kst (some 14)) 0, .und, .und, .und, .und, .und, .und, .und, .und, .und, .und, .sl (num X1.N (.dy D1)) (2 * out.length) 0 out.length, .int i, .int out.length, .sl (num X1.N (.dy D1)) (2 * out.length) 0 out.length, .und, .und, .und, .und, .und, .und, .und, .und, .und, .und, .und, .und, .und], none, mem Z⟩) :
    W L (.loop zqiQ) ⟨[.ptr (num X1.N .bx) (kst (some 14)) 0, .und, .und, .und, .und, .und, .und, .und, .und, .und, .und, .sl (num X1.N (.dy D1)) (2 * out.length) 0 out.length, .int 0, .int out.length, .sl (num X1.N (.dy D1)) (2 * out.length) 0 out.length, .und, .und, .und, .und, .und, .und, .und, .und, .und, .und, .und, .und, .und], none, mem X1⟩ (Out 4 Q) := by
  have hol := zVGk (l := out)
  obtain ⟨fs, hfs, hsz'⟩ := hmv.size
  obtain ⟨fp, hfp, hpop⟩ := hmv.pop
  have hbe : bxOf tt mv nn = [.iface tt mv, .int nn.calls, .int nn.inns, .int nn.rets, .int nn.stack, .int nn.start, bL nn.accept, iLL nn.call, iLL nn.push, iLL nn.inner, iLLL nn.pop] := rfl
  have hloc := hmv.loc
  have hwk := hmv.wk
  refine zv8C (fun p : Nat × XM => [(12, .int p.1)]) (fun p => mem p.2) (fun p => p.1 ≤ out.length ∧ Xe X1 p.2 ∧ p.2.A = X1.A ∧ LvB M n A X1.S X1.C p.2.S p.2.C out p.1 0 0 0) (fun p => out.length - p.1) (0, X1) (by simp [sets]) ⟨by simp, .refl hX, rfl, .init hS1 hC1⟩ ?_
  rintro ⟨i, Z⟩ ⟨i1, z1, z3, z4⟩
  dsimp only at i1 z1 z3 z4 ⊢
  by_cases hi : i < out.length
  · have zf := zf_of z1.ok (z1.n) (z1.bx.trans hbx)
    have hdy := z_dy z1.ok z1.n (z_ext z1 hd)
    have hdy : blk (mem Z) (num X1.N (.dy D1)) = some ⟨some 2, prs out, if out = [] then .nul else .live⟩ := hdy
    have hone : out ≠ [] := by intro e; rw [e] at hi; simp at hi
    rw [if_neg hone] at hdy
    have p2 := fun (K : AV → Prop) (t : Tk K) => zx37 (l := out) (i := i) (K := K) (t := t) hi
    have hmem := zmAQ (l := out) (n := (i : Int)) (by omega) (by omega)
    obtain ⟨⟨⟨s0, s1⟩, t0, t1⟩, a, ha, hal, haW⟩ := ho (ix out (i : Int)).1 (ix out (i : Int)).2 hmem
    have hskf := (zvJ0 hM).1 ha
    generalize hP : ix out (i : Int) = P at *
    obtain ⟨u, hu⟩ := Int.eq_ofNat_of_zero_le s0
    obtain ⟨v, hv⟩ := Int.eq_ofNat_of_zero_le t0
    have hun : u < X1.N := by omega
    have hvn : v < X1.N := by omega
    have hun' := eq_true hun
    have hvn' := eq_true hvn
    have zbx := zf.bx
    rw [hbe] at zbx
    have hPe : P = ((u : Int), (v : Int)) := Prod.ext hu hv
    subst hPe
    dsimp only at p2 ha haW hskf
    have hvin : inS M (v : Int) := ⟨by omega, by omega⟩
    have huin : inS M (u : Int) := ⟨by omega, by omega⟩
    have haZ : Z.C.W (u : Int) (v : Int) = some a := by
      obtain ⟨d1, d2⟩ := hC1.keep z4.c huin hvin
      have := (hC1.fin huin hvin ha (by omega)).1
      rw [← d2 this]; exact haW
    have w2 : blk (mem Z) (num X1.N (.wr false u)) = some ⟨none, wrow X1.N Z.C.W u, .live⟩ := zf.wr false u hun
    have w5 := zFNI (s := u) (N := X1.N) (W := Z.C.W)
    have w6 := zoH3 (s := u) (N := X1.N) (W := Z.C.W) hvn
    rw [haZ] at w6
    have w6 : elm (wrow X1.N Z.C.W u) v = some (.imm true (a.map .int)) := w6
    have w9 := zf.wo false
    have w12 := zCaJ (N := X1.N) (g := .wr false)
    have w13 := z2sE (N := X1.N) (g := .wr false) hun
    have w14 := zf.box false
    simp [-zJRc, hi, hdy, hol, ↓p2, zbx, w2, w5, w6, w9, w12, w13, w14, hun', hvn', hfs, hsz', hloc, hwk]
    refine zv8C (fun p : Nat × XM => [(16, .int p.1)]) (fun p => mem p.2) (fun p => p.1 ≤ X1.N ∧ Xe X1 p.2 ∧ p.2.A = X1.A ∧ LvB M n A X1.S X1.C p.2.S p.2.C out i (p.1 : Int) 0 0) (fun p => X1.N - p.1) (0, Z) (by simp [sets]) ⟨by simp, z1, z3, z4⟩ ?_
    rintro ⟨j, Y⟩ ⟨j1, y1, y3, y4⟩
    dsimp only at j1 y1 y3 y4 ⊢
    have yf := zf_of y1.ok (y1.n) (y1.bx.trans hbx)
    have ybx := yf.bx
    rw [hbe] at ybx
    by_cases hj : j < X1.N
    · have hj' := eq_true hj
      have hjM := eq_true (show j < M.size by omega)
      have g0 := yf.dno true
      have g00 := yf.box true
      have g1 : blk (mem Y) (num X1.N (.dr true j)) = some ⟨none, (drow X1.N Y.S.D j).map .bool, .live⟩ := yf.dr true j hj
      have g2 := zGyT (s := j) (N := X1.N) (D := Y.S.D)
      have g3 := z8jd (s := j) (N := X1.N) (D := Y.S.D) hun
      have g4 := z6JH (s := j) (N := X1.N) (D := Y.S.D) hun
      have g5 := zCaJ (N := X1.N) (g := .dr true)
      have g6 := z2sE (N := X1.N) (g := .dr true) hj
      have hjin : inS M (j : Int) := ⟨by omega, by omega⟩
      obtain ⟨k1, k2⟩ := hS1.keep y4.s hjin huin
      cases hD : Y.S.D (j : Int) (u : Int) with
      | false =>
        rw [hD] at g3 g4 k1
        simp [-zJRc, hj, hjM, g0, g00, g1, g2, g3, g4, g5, g6, ybx, hun', hj']
        exact ⟨by omega, zGkM (j + 1, Y) (by simp) rfl ⟨by dsimp only; omega, y1, y3, by have := y4.skipS (by rw [hP]; exact k1); exact this⟩ (by dsimp only; omega)⟩
      | true =>
        rw [hD] at g3 g4 k1
        obtain ⟨c, hc1, hcf, hcl⟩ := hS1.doneW hjin huin k1
        have hcY : Y.S.W (j : Int) (u : Int) = some c := by rw [← k2 k1]; exact hc1
        have hcs := (zWgz hM).1 hcf
        have v1' : blk (mem Y) (num X1.N (.wr true j)) = some ⟨none, wrow X1.N Y.S.W j, .live⟩ := yf.wr true j hj
        have v3' := zFNI (s := j) (N := X1.N) (W := Y.S.W)
        have v4' := zoH3 (s := j) (N := X1.N) (W := Y.S.W) hun
        rw [hcY] at v4'
        have v4' : elm (wrow X1.N Y.S.W j) u = some (.imm true (c.map .int)) := v4'
        have v8 := yf.wo true
        have v10 := zCaJ (N := X1.N) (g := .wr true)
        have v11 := z2sE (N := X1.N) (g := .wr true) hj
        obtain ⟨V, hO, v1, v2, v3, v4⟩ := zaGq (X := Y) (f := false) (s := j) (t := v) y1.ok (by rw [y1.n]; exact hj) (by rw [y1.n]; exact hvn) (v := .imm true (c.map .int)) (w := .imm true (a.map .int)) (.imm true c) (.imm true a) (by have := hskf.1.2; have := hcs.1.2; omega) (fun k => by have h1 := y4.c.rlen k; have h2 : M.size * M.size ≤ 1000 * 1000 := Nat.mul_le_mul hsz hsz; show (Y.C.R k).length ≤ _; omega) (fun o e => (y4.c.snd _ _ _ hjin hvin e).2)
        rw [y1.n] at hO
        simp [-zJRc, hj, hjM, g0, g00, g1, g2, g3, g4, g5, g6, ybx, hun', hj', v1', v3', v4', v8, v10, v11, hO]
        refine ⟨by omega, zGkM (j + 1, V) (by simp) rfl ⟨by dsimp only; omega, y1.trans v1, v4.trans y3, ?_⟩ (by dsimp only; omega)⟩
        have hst := y4.stepS hM (a := c) (b := a) hi (by rw [hP]; exact huin) (by rw [hP]; exact hvin) hjin (by rw [hP]; exact hc1) (by rw [hP]; exact hcs.1.1) (by rw [hP]; exact haW) (by rw [hP]; exact hskf.1.1) (by omega)
        rw [hP] at hst
        have v2 : V.C = Y.C.off (j : Int) (v : Int) (c ++ a) := v2
        have v3 : V.S = Y.S := v3
        show LvB M n A X1.S X1.C V.S V.C out i ((j + 1 : Nat) : Int) 0 0
        rw [v2, v3]
        exact hst
    · have ej : j = X1.N := by omega
      have hjM := eq_false (show ¬ j < M.size by omega)
      subst ej
      rw [hNM] at y4
      have c0 := yf.co
      have c1 : (coc Y).length = X1.N := by rw [zf1d, y1.n]
      have c2 := zsZ6 (X := Y) (t := u) (by rw [y1.n]; exact hun)
      rw [y3, hA] at c2
      have finish : ∀ (W : XM), Xe X1 W → W.A = X1.A → LvB M n A X1.S X1.C W.S W.C out i (M.size : Int) (A (u : Int)).length 0 → Xe X1 W ∧ W.A = X1.A ∧ LvB M n A X1.S X1.C W.S W.C out (i + 1) 0 0 0 := fun W q1 q2 q3 => ⟨q1, q2, by have := (show LvB M n A X1.S X1.C W.S W.C out i (M.size : Int) (A (ix out (i : Int)).1).length 0 by rw [hP]; exact q3).next; exact this⟩
      by_cases hAe : A (u : Int) = []
      · rw [if_pos hAe] at c2
        simp [-zJRc, hjM, ybx, c0, c1, c2, hun']
        refine zv8C (fun _ : Unit => []) (fun _ => mem Y) (fun _ => True) (fun _ => 0) () (by simp [sets]) trivial ?_
        rintro ⟨⟩ _
        have fn := finish Y y1 y3 (by rw [hAe]; exact y4)
        simp [-zJRc]
        exact ⟨by omega, zGkM (i + 1, Y) (by simp) rfl ⟨by dsimp only; omega, fn⟩ (by dsimp only; omega)⟩
      · rw [if_neg hAe, y1.n] at c2
        simp [-zJRc, hjM, ybx, c0, c1, c2, hun']
        have hAr : Y.dyn[Y.ai u]? = some (.ra u) := y1.ok.a1 u (by rw [y3, hA]; exact hAe)
        refine zv8C (fun p : Nat × XM => [(20, .int p.1)]) (fun p => mem p.2) (fun p => p.1 ≤ (A (u : Int)).length ∧ Xe Y p.2 ∧ p.2.A = X1.A ∧ LvB M n A X1.S X1.C p.2.S p.2.C out i (M.size : Int) p.1 0) (fun p => (A (u : Int)).length - p.1) (0, Y) (by simp [sets]) ⟨by simp, .refl y1.ok, y3, y4⟩ ?_
        rintro ⟨k, V⟩ ⟨k1, v1, v3, v4⟩
        dsimp only at k1 v1 v3 v4 ⊢
        by_cases hk : k < (A (u : Int)).length
        · have vdA := z_dy v1.ok (v1.n.trans y1.n) (z_ext v1 hAr)
          have vdA : blk (mem V) (num X1.N (.dy (Y.ai u))) = some ⟨some 3, crs (V.A (u : Int)), .live⟩ := vdA
          rw [v3, hA] at vdA
          have cl := zLL4 (l := A (u : Int))
          have p3 := fun (K : AV → Prop) (t : Tk K) => zmX1 (l := A (u : Int)) (i := k) (K := K) (t := t) hk
          have hAm := hAl (u : Int)
          have vf := zf_of v1.ok (v1.n.trans y1.n) ((v1.bx.trans y1.bx).trans hbx)
          have vbx := vf.bx
          rw [hbe] at vbx
          have hk' := eq_true hk
          have hm := zmAQ (l := A (u : Int)) (n := (k : Int)) (by omega) (by omega)
          generalize hc : ix (A (u : Int)) (k : Int) = c at *
          simp [-zJRc, hk, vdA, cl, hAm, ↓p3, vbx]
          subst hc
          have hcp : A (u : Int) = A (u : Int) := rfl
          obtain ⟨⟨⟨q0, q1⟩, q2, q3⟩, q4⟩ := (hAok (u : Int) huin (ix (A (u : Int)) (k : Int)).1 (ix (A (u : Int)) (k : Int)).2.1 (ix (A (u : Int)) (k : Int)).2.2).1 hm
          have hgp : ∀ r : Int, 0 ≤ r → r < M.rets → PC fp [mv, .int v, .int (ix (A (u : Int)) (k : Int)).2.2, .int r] = some (.int (M.pop v (ix (A (u : Int)) (k : Int)).2.2 r)) := fun r r0 r1 => by
            have := hpop (ix (A (u : Int)) (k : Int)).1 (ix (A (u : Int)) (k : Int)).2.1 (v : Int) r q0 q1 q2 q3 hvin.1 hvin.2 r0 r1
            rw [q4] at this; exact this
          have hqs := fun (r : Int) (r0 : 0 ≤ r) (r1 : r < M.rets) => hM.ok.pop _ _ (v : Int) r q0 q1 q2 q3 hvin.1 hvin.2 r0 r1
          rw [q4] at hqs
          generalize hcc : ix (A (u : Int)) (k : Int) = c at *
          obtain ⟨cs, hcs⟩ := Int.eq_ofNat_of_zero_le q0
          have hrets : 0 ≤ M.rets := by have := hM.ok.rets; omega
          obtain ⟨nr, hnr⟩ := Int.eq_ofNat_of_zero_le hrets
          refine zv8C (fun p : Nat × XM => [(23, .int p.1)]) (fun p => mem p.2) (fun p => p.1 ≤ nr ∧ Xe Y p.2 ∧ p.2.A = X1.A ∧ LvB M n A X1.S X1.C p.2.S p.2.C out i (M.size : Int) k (p.1 : Int)) (fun p => nr - p.1) (0, V) (by simp [sets]) ⟨by simp, v1, v3, v4⟩ ?_
          rintro ⟨r, U⟩ ⟨r1, u1, u3, u4⟩
          dsimp only at r1 u1 u3 u4 ⊢
          by_cases hr : r < nr
          · have uf := zf_of u1.ok (u1.n.trans y1.n) ((u1.bx.trans y1.bx).trans hbx)
            have ubx := uf.bx
            rw [hbe, hc, hi'] at ubx
            have hrl := eq_true (show (r : Int) < nn.rets by omega)
            have hpp := hgp (r : Int) (by omega) (by omega)
            obtain ⟨qs0, qs1⟩ := hqs (r : Int) (by omega) (by omega)
            generalize hqq : M.pop (v : Int) c.2.2 (r : Int) = q at *
            obtain ⟨qn, rfl⟩ := Int.eq_ofNat_of_zero_le qs0
            have hcsn : cs < U.N := by have := u1.n; have := y1.n; omega
            have hqn : qn < U.N := by have := u1.n; have := y1.n; omega
            have hUN := u1.n.trans y1.n
            have hcal := hM.ok.calls
            have hin := hM.ok.inns
            have hrr := hM.ok.rets
            have hRl : ∀ k, ((U.b true).R k).length ≤ 1000000 := fun k => by have h1 := u4.s.rlen k; have h2 : M.size * M.size ≤ 1000 * 1000 := Nat.mul_le_mul hsz hsz; show (U.S.R k).length ≤ _; omega
            have hol3 : ∀ o, (U.b true).W (cs : Int) (qn : Int) = some o → o.length ≤ 1024 := fun o e => (u4.s.snd _ _ _ (by rw [← hcs]; exact ⟨q0, q1⟩) ⟨by omega, qs1⟩ e).2
            have last : ∀ V2 : XM, Xe U V2 → V2.S = U.S.off (cs : Int) (qn : Int) (c.2.1 :: (a ++ [M.calls + M.inns + (r : Int)])) → V2.C = U.C → V2.A = U.A → Xe Y V2 ∧ V2.A = X1.A ∧ LvB M n A X1.S X1.C V2.S V2.C out i (M.size : Int) k ((r + 1 : Nat) : Int) := by
              intro V2 w1 w2 w3 w4
              refine ⟨u1.trans w1, w4.trans u3, ?_⟩
              have hst := u4.stepR hM hAok hi (by rw [hP]; exact huin) (by rw [hP]; exact hvin) (by rw [hP]; exact hk) ⟨by omega, by omega⟩ (b := a) (by rw [hP]; exact haW) (by rw [hP]; exact hskf.1.1) (by omega)
              rw [hP] at hst
              dsimp only at hst
              rw [hcc, hqq, hcs] at hst
              rw [w2, w3]
              exact hst
            by_cases ha0 : a = []
            · subst ha0
              obtain ⟨V2, hO, w1, w2, w3, w4⟩ := zaGq (X := U) (f := true) (s := cs) (t := qn) u1.ok hcsn hqn (v := .imm true [.int c.2.1]) (w := .imm false [.int (M.calls + M.inns + (r : Int))]) (.imm true [c.2.1]) (.imm false [M.calls + M.inns + (r : Int)]) (by simp) hRl hol3
              rw [hUN, ← hcs] at hO
              simp [-zJRc, hrl, ubx, hfp, hpp, hloc, hwk, hO]
              exact ⟨⟨by omega, by omega⟩, ⟨by omega, by omega⟩, by omega, zGkM (r + 1, V2) (by simp) rfl ⟨by dsimp only; omega, last V2 w1 w2 w3 w4⟩ (by dsimp only; omega)⟩
            · have hB := zxtn u1.ok ⟨none, (c.2.1 :: a).map .int, .live⟩
              have hU2 := add_e u1.ok ⟨none, (c.2.1 :: a).map .int, .live⟩
              have hbl := znKw (σ := mem U) (B := ⟨none, (c.2.1 :: a).map .int, .live⟩) rfl
              rw [hB] at hbl
              obtain ⟨V2, hO, w1, w2, w3, w4⟩ := zaGq (X := U.add ⟨none, (c.2.1 :: a).map .int, .live⟩) (f := true) (s := cs) (t := qn) hU2.ok hcsn hqn (w := .imm false [.int (M.calls + M.inns + (r : Int))]) (.sl _ (c.2.1 :: a) hbl) (.imm false [M.calls + M.inns + (r : Int)]) (by have := hskf.1.2; simp; omega) hRl hol3
              rw [← hB] at hO
              have hUN' : (U.add ⟨none, (c.2.1 :: a).map .int, .live⟩).N = X1.N := hUN
              rw [hUN', ← hcs] at hO
              have eB : appR (catR [AV.int c.2.1]) (a.map .int) = (c.2.1 :: a).map .int := rfl
              have ubl := zTJw (τ := [⟨none, (c.2.1 :: a).map .int, .live⟩]) ubx
              have e1 : 1 + a.length = (c.2.1 :: a).length := by simp; omega
              have e2 : a.length + 1 = (c.2.1 :: a).length := by simp
              have hal2 : (c.2.1 :: a).length ≤ 1073741824 := by have := hskf.1.2; simp; omega
              simp [-zJRc, -List.length_cons, -List.map_cons, hrl, ubx, ubl, hfp, hpp, hloc, hwk, ha0, eB, e1, e2, hal2, hO]
              exact ⟨by simp [kst], ⟨by omega, by omega⟩, ⟨by omega, by omega⟩, by omega, zGkM (r + 1, V2) (by simp) rfl ⟨by dsimp only; omega, last V2 (hU2.trans w1) w2 w3 w4⟩ (by dsimp only; omega)⟩
          · have er : r = nr := by omega
            subst er
            have hrl := eq_false (show ¬ (r : Int) < nn.rets by omega)
            simp [-zJRc, hrl]
            exact ⟨by omega, zGkM (k + 1, U) (by simp) rfl ⟨by dsimp only; omega, u1, u3, (by rw [← hnr] at u4; exact u4.rowR)⟩ (by dsimp only; omega)⟩
        · have ek : k = (A (u : Int)).length := by omega
          subst ek
          simp [-zJRc]
          have fn := finish V (y1.trans v1) v3 v4
          exact ⟨by omega, zGkM (i + 1, V) (by simp) rfl ⟨by dsimp only; omega, fn⟩ (by dsimp only; omega)⟩
  · have ei : i = out.length := by omega
    subst ei
    simp [-zJRc]
    exact hQ Z z1 z3 z4 _
end
end Ab
namespace Ab
section
variable {M : Mch} {n : Nat}
theorem zJ3N {l : List PR} (hn : l.Nodup) (h : ∀ s t, (s, t) ∈ l → inS M s ∧ inS M t) : l.length ≤ M.size * M.size := by
  rw [← zE3R]
  refine zmWO hn fun p hp => ?_
  obtain ⟨⟨h1, h2⟩, h3, h4⟩ := h p.1 p.2 hp
  simp only [allP, List.mem_flatMap, List.mem_map, List.mem_range]
  exact ⟨p.1.toNat, by omega, p.2.toNat, by omega, by
    rw [show ((p.1.toNat : Nat) : Int) = p.1 by omega, show ((p.2.toNat : Nat) : Int) = p.2 by omega]⟩
theorem z8Gm {X : XM} {f : Bool} {P : Int → Int → List Int → Prop} (hX : Xok X) (hNM : X.N = M.size) (hsz : M.size ≤ 1000) (hn : n < 1025) (h : Bst M P n (X.b f)) : ∃ Y, L zSWF [.ptr (num X.N (.box f)) (kst (some 3)) 0, .int n] (mem X) = some (.sl (num X.N (.dy X.dyn.length)) (2 * ((X.b f).tk n).1.length) 0 ((X.b f).tk n).1.length, mem Y) ∧ Xe X Y ∧ Y.b f = ((X.b f).tk n).2 ∧ Y.b (!f) = X.b (!f) ∧ Y.A = X.A ∧ Y.dyn[X.dyn.length]? = some (.jk (outB ((X.b f).tk n).1)) := by
  have hR : ((X.b f).R n).length ≤ 1000000 := by have h1 := h.rlen n; have h2 : M.size * M.size ≤ 1000 * 1000 := Nat.mul_le_mul hsz hsz; omega
  obtain ⟨_, _, h1, rfl, rfl⟩ := LX_s (zMUw (X := X) (f := f) (n := n) hX hn hR fun p hp => by rw [hNM]; exact (h.low p.1 p.2 n hp).1)
  obtain ⟨e1, e2, e3⟩ := tkm_e (X := X) (f := f) hX ((X.b f).tk n).2.D ((X.b f).tk n).1
  exact ⟨_, h1, e1, by rw [tkm_b, if_pos rfl]; rfl, by rw [tkm_b, if_neg (by cases f <;> simp)], e3, e2⟩
theorem z0lr (hM : M.Sm) (hsz : M.size ≤ 1000) {tt : Nat} {mv : AV} (hmv : MOk tt mv M) {nn : Nst} (hc : nn.calls = M.calls) (hi' : nn.inns = M.inns) (hr' : nn.rets = M.rets) {X : XM} (hX : Xok X) (hNM : X.N = M.size) (hbx : X.bx = bxOf tt mv nn) (hAok : AOk M X.A) (hAl : ∀ p, (X.A p).length ≤ 1000000) (hn : n < 1025) (h : Lvl M n X.S X.C) :
    ∃ Y k out, L zkQN [.ptr (num X.N .bx) (kst (some 14)) 0, .int n] (mem X) = some (.sl (num X.N (.dy k)) (2 * out.length) 0 out.length, mem Y) ∧ Xe X Y ∧ Y.A = X.A ∧ Y.dyn[k]? = some (.jk (outB out)) ∧ Lvl M (n + 1) Y.S Y.C ∧ out.length ≤ 1000000 ∧ ∀ s t, (s, t) ∈ out ↔ (inS M s ∧ inS M t) ∧ ∃ a, M.lk s t = some a ∧ a.length = n ∧ Y.C.W s t = some a := by
  have main : LX L zkQN [.ptr (num X.N .bx) (kst (some 14)) 0, .int n] (mem X) (fun v τ => ∃ Y k out, v = .sl (num X.N (.dy k)) (2 * out.length) 0 out.length ∧ τ = mem Y ∧ Xe X Y ∧ Y.A = X.A ∧ Y.dyn[k]? = some (.jk (outB out)) ∧ Lvl M (n + 1) Y.S Y.C ∧ out.length ≤ 1000000 ∧ ∀ s t, (s, t) ∈ out ↔ (inS M s ∧ inS M t) ∧ ∃ a, M.lk s t = some a ∧ a.length = n ∧ Y.C.W s t = some a) := by
    refine z3dw rfl ?_
    have h2 : M.size * M.size ≤ 1000 * 1000 := Nat.mul_le_mul hsz hsz
    obtain ⟨t1, t2, t3, t4⟩ := Bst.tk (zZ3e hM) h.s (h.cplS hM)
    obtain ⟨X1, hO1, x1, xS, xC, xA, xd⟩ := z8Gm (X := X) (f := true) hX hNM hsz hn h.s
    have hS : X.b true = X.S := rfl
    rw [hS] at hO1 xS xd
    have xS : X1.S = (X.S.tk n).2 := xS
    have xC : X1.C = X.C := xC
    have hl1 := zJ3N (M := M) t3 fun s t hm => ((t4 s t).1 hm).1
    have hxf := zf_of hX rfl hbx
    have hbx1 := hxf.bx
    have hbe : bxOf tt mv nn = [.iface tt mv, .int nn.calls, .int nn.inns, .int nn.rets, .int nn.stack, .int nn.start, bL nn.accept, iLL nn.call, iLL nn.push, iLL nn.inner, iLLL nn.pop] := rfl
    rw [hbe] at hbx1
    have t1' : Bst M (Stp M) (n + 1) X1.S := by rw [xS]; exact t1
    have hA1 := fun (nv : AV) (Q : Ex → St → Prop) => z8xT hM hsz (Q := Q) x1.ok (x1.n.trans hNM) (x1.bx.trans hbx) ⟨_, _, _, _, _, _, _, _, _, _, _, hbe⟩ (by omega) xd h.c xC t1' (fun s t hm => by have := (t4 s t).1 hm; rw [xS]; exact ⟨this.1, this.2⟩) nv
    rw [x1.n] at hA1
    generalize hout : (X.S.tk n).1 = out1 at *
    simp [-zJRc, hbx1, hO1]
    refine hA1 _ _ fun Z z1 z2 z3 z4 i => ?_
    have z4' : LvA M n (X.S.tk n).2 X.C Z.C (X.S.tk n).1 (X.S.tk n).1.length 0 := by rw [← xS, hout]; exact z4
    have oj1 := LvA.fin hM h t1 (fun s t => by rw [hout]; exact t4 s t) z4'
    have oe1 := fun (s : Int) (hs : inS M s) => (h.oe s hs).mono z4.l hs hs
    obtain ⟨u1, u2, u3, u4⟩ := Bst.tk (wd_sy hM) z4.c (cplC hM t1 z4.c oe1 oj1)
    have xz := x1.trans z1
    obtain ⟨X2, hO2, y1, yC, yS, yA, yd⟩ := z8Gm (X := Z) (f := false) z1.ok (xz.n.trans hNM) hsz hn z4.c
    have hZC : Z.b false = Z.C := rfl
    rw [hZC, xz.n] at hO2
    rw [hZC] at yC yd
    have yC : X2.C = (Z.C.tk n).2 := yC
    have yS : X2.S = (X.S.tk n).2 := (show X2.S = Z.S from yS).trans (z2.trans xS)
    have yA2 : X2.A = X.A := yA.trans (z3.trans xA)
    have hl2 := zJ3N (M := M) u3 fun s t hm => ((u4 s t).1 hm).1
    have x2 := xz.trans y1
    have zbx := (zf_of z1.ok xz.n (xz.bx.trans hbx)).bx
    rw [hbe] at zbx
    have u1' : Bst M (Wd M) (n + 1) X2.C := by rw [yC]; exact u1
    have s1' : Bst M (Stp M) (n + 1) X2.S := by rw [yS]; exact t1
    have ho2 : ∀ s t, (s, t) ∈ (Z.C.tk n).1 ↔ (inS M s ∧ inS M t) ∧ ∃ a, M.lk s t = some a ∧ a.length = n ∧ X2.C.W s t = some a := fun s t => by rw [yC]; exact u4 s t
    have hB1 := fun (Q : Ex → St → Prop) => z9v9 hM hsz (Q := Q) hmv hc hi' hr' x2.ok (x2.n.trans hNM) (x2.bx.trans hbx) (by omega) yd yA2 hAok hAl s1' u1' (fun s t hm => (ho2 s t).1 hm)
    rw [x2.n] at hB1
    have k1 : Bsl M X.S X2.S := by rw [yS]; exact t2
    have k2 : Bsl M Z.C X2.C := by rw [yC]; exact u2
    generalize hout2 : (Z.C.tk n).1 = out2 at *
    simp [-zJRc, zbx, hO2]
    refine hB1 _ fun V v1 v2 v3 i' => ?_
    have fin := LvB.fin hM h hAok k1 z4.l k2 z4.c (by rw [yS]; exact oj1) ho2 s1' u1' v3
    have memb : ∀ s t, (s, t) ∈ out2 ↔ (inS M s ∧ inS M t) ∧ ∃ a, M.lk s t = some a ∧ a.length = n ∧ V.C.W s t = some a := fun s t => by
      rw [ho2]
      constructor
      · rintro ⟨q, a, a1, a2, a3⟩
        exact ⟨q, a, a1, a2, (v3.c.fin q.1 q.2 a1 (by omega)).2⟩
      · rintro ⟨q, a, a1, a2, a3⟩
        exact ⟨q, a, a1, a2, (u1'.fin q.1 q.2 a1 (by omega)).2⟩
    simp [-zJRc]
    exact ⟨V, _, out2, ⟨rfl, rfl, rfl⟩, rfl, x2.trans v1, v2.trans yA2, z_ext v1 yd, fin, by omega, memb⟩
  obtain ⟨_, _, h1, Y, k, out, rfl, rfl, h2, h3, h4, h5, h6, h7⟩ := LX_s main
  exact ⟨Y, k, out, h1, h2, h3, h4, h5, h6, h7⟩
end
end Ab
namespace Ab
section
variable {X : XM} {t : Nat} {c : CR}
def aiU (r : Nat → Nat) (k v : Nat) : Nat → Nat := fun j => if j = k then v else r j
def XM.addA (X : XM) (t : Nat) (c : CR) : XM :=
  if X.A (t : Int) = [] then { X with A := updA X.A (t : Int) c, ai := aiU X.ai t X.dyn.length, dyn := X.dyn ++ [.ra t] } else { X with A := updA X.A (t : Int) c }
theorem zhMs {l : List CR} : crs (l ++ [c]) = crs l ++ [.int c.1, .int c.2.1, .int c.2.2] := by simp [crs]
theorem m_col (h : Xok X) (hr : X.A (t : Int) ≠ []) : X.ai t < X.dyn.length ∧ blk (mem X) (num X.N (.dy (X.ai t))) = some ⟨some 3, crs (X.A (t : Int)), .live⟩ := by
  have h1 := h.a1 t hr
  have hl := (List.getElem?_eq_some_iff.1 h1).1
  refine ⟨hl, ?_⟩
  have := zTeC h.n.1 (x := .dy (X.ai t)) hl
  rw [this]
  show some (dcb X X.dyn[X.ai t]?) = _
  rw [h1]; rfl
theorem zJyz {A : Int → List CR} {i : Nat} (h : i ≠ t) : updA A (t : Int) c (i : Int) = A (i : Int) := by unfold updA; rw [if_neg (by omega)]
theorem z8Ze {A : Int → List CR} : updA A (t : Int) c (t : Int) = A (t : Int) ++ [c] := by unfold updA; rw [if_pos rfl]
theorem zXw8 (h : Xok X) (ht : t < X.N) (hr : X.A (t : Int) ≠ []) : setB (setB (mem X) (num X.N (.dy (X.ai t))) ⟨some 3, crs (X.A (t : Int)) ++ [.int c.1, .int c.2.1, .int c.2.2], .live⟩) (num X.N .co) ⟨none, (coc X).set t (.sl (num X.N (.dy (X.ai t))) (3 * (X.A (t : Int)).length + 3) 0 ((X.A (t : Int)).length + 1)), .live⟩ = mem (X.addA t c) := by
  have hl := (m_col h hr).1
  unfold XM.addA
  rw [if_neg hr]
  refine zVJX (Y := { X with A := updA X.A (t : Int) c }) h.n.1 rfl rfl (x := .dy (X.ai t)) (z := .co) hl trivial ?_ _ _ ?_ ?_ fun y hy hz => ?_
  · show 4 * X.N + 10 + X.ai t ≠ 4 * X.N + 8
    omega
  · show dcb _ X.dyn[X.ai t]? = _
    rw [h.a1 t hr]
    simp only [dcb, z8Ze, zhMs]
  · show (⟨none, coc _, .live⟩ : Blk) = _
    congr 1
    apply List.ext_getElem
    · simp [coc]
    · intro i h1 h2
      simp only [coc, List.getElem_set, List.getElem_map, List.getElem_range]
      by_cases e : t = i
      · subst e; simp [z8Ze]; omega
      · have e' : ¬ i = t := fun x => e x.symm
        rw [if_neg e]; simp only [zJyz e']
  · cases y with
    | co => exact absurd rfl hz
    | dy i =>
      have hi : i ≠ X.ai t := fun e => hy (by rw [e])
      simp only [cb]
      cases hd : X.dyn[i]? with
      | none => rfl
      | some d =>
        cases d with
        | ra j =>
          have hj : j ≠ t := fun e2 => hi (by rw [← e2]; exact (h.a2 i j hd).2)
          simp only [dcb, zJyz hj]
        | _ => rfl
    | _ => rfl
theorem zOMV (h : Xok X) (ht : t < X.N) (hr : X.A (t : Int) = []) : setB (mem X ++ [⟨some 3, [.int c.1, .int c.2.1, .int c.2.2], .live⟩]) (num X.N .co) ⟨none, (coc X).set t (.sl (num X.N (.dy X.dyn.length)) 3 0 1), .live⟩ = mem (X.addA t c) := by
  unfold XM.addA
  rw [if_pos hr]
  refine zQvU (Y := { X with A := updA X.A (t : Int) c, ai := aiU X.ai t X.dyn.length, dyn := X.dyn ++ [.ra t] }) h.n.1 rfl rfl (z := .co) trivial _ _ ?_ ?_ fun y hz hv => ?_
  · simp only [dcb, z8Ze, hr]
    rfl
  · show (⟨none, coc _, .live⟩ : Blk) = _
    congr 1
    apply List.ext_getElem
    · simp [coc]
    · intro i h1 h2
      simp only [coc, List.getElem_set, List.getElem_map, List.getElem_range]
      by_cases e : t = i
      · subst e; simp [z8Ze, hr, aiU]
      · have e' : ¬ i = t := fun x => e x.symm
        rw [if_neg e]; simp only [zJyz e', aiU, if_neg e']
  · cases y with
    | co => exact absurd rfl hz
    | dy i =>
      have hi : i < X.dyn.length := hv
      show dcb _ (X.dyn ++ [.ra t])[i]? = dcb X X.dyn[i]?
      rw [List.getElem?_append_left hi]
      cases hd : X.dyn[i]? with
      | none => rfl
      | some d =>
        cases d with
        | ra j =>
          have hj : j ≠ t := fun e2 => (h.a2 i j hd).1 (by rw [e2]; exact hr)
          simp only [dcb, zJyz hj]
        | _ => rfl
    | _ => rfl
theorem z8r9 : (X.addA t c).N = X.N ∧ (X.addA t c).bx = X.bx ∧ (X.addA t c).S = X.S ∧ (X.addA t c).C = X.C ∧ (X.addA t c).A = updA X.A (t : Int) c := by
  unfold XM.addA
  split <;> exact ⟨rfl, rfl, rfl, rfl, rfl⟩
theorem zZf8 (h : Xok X) : Xe X (X.addA t c) := by
  by_cases hr : X.A (t : Int) = []
  · have eY : X.addA t c = { X with A := updA X.A (t : Int) c, ai := aiU X.ai t X.dyn.length, dyn := X.dyn ++ [.ra t] } := by unfold XM.addA; rw [if_pos hr]
    rw [eY]
    refine ⟨⟨h.n, h.bx, fun g j hne => ?_, fun i g j hi => ?_, fun u hne => ?_, fun i u hi => ?_⟩, rfl, rfl, [.ra t], rfl⟩
    · have := h.r1 g j hne
      show (X.dyn ++ [.ra t])[X.ri g j]? = _
      rw [List.getElem?_append_left (List.getElem?_eq_some_iff.1 this).1, this]
    · have hi : (X.dyn ++ [.ra t])[i]? = some (.rt g j) := hi
      by_cases hl : i < X.dyn.length
      · rw [List.getElem?_append_left hl] at hi; exact h.r2 i g j hi
      · rw [List.getElem?_append_right (by omega)] at hi
        have : i - X.dyn.length = 0 ∨ 0 < i - X.dyn.length := by omega
        rcases this with e | e
        · rw [e] at hi; simp at hi
        · rw [List.getElem?_eq_none (by simp; omega)] at hi; simp at hi
    · have hne : updA X.A (t : Int) c (u : Int) ≠ [] := hne
      show (X.dyn ++ [.ra t])[aiU X.ai t X.dyn.length u]? = _
      unfold aiU
      by_cases e : u = t
      · rw [if_pos e, List.getElem?_append_right (Nat.le_refl _), Nat.sub_self, e]; rfl
      · rw [if_neg e]
        rw [zJyz e] at hne
        have := h.a1 u hne
        rw [List.getElem?_append_left (List.getElem?_eq_some_iff.1 this).1, this]
    · have hi : (X.dyn ++ [.ra t])[i]? = some (.ra u) := hi
      show updA X.A (t : Int) c (u : Int) ≠ [] ∧ i = aiU X.ai t X.dyn.length u
      unfold aiU
      by_cases hl : i < X.dyn.length
      · rw [List.getElem?_append_left hl] at hi
        obtain ⟨a1, a2⟩ := h.a2 i u hi
        have hne : u ≠ t := fun e => a1 (by rw [e]; exact hr)
        rw [zJyz hne, if_neg hne]
        exact ⟨a1, a2⟩
      · rw [List.getElem?_append_right (by omega)] at hi
        have : i - X.dyn.length = 0 ∨ 0 < i - X.dyn.length := by omega
        rcases this with e | e
        · rw [e] at hi
          simp at hi
          subst hi
          rw [z8Ze, if_pos rfl]
          exact ⟨by simp, by omega⟩
        · rw [List.getElem?_eq_none (by simp; omega)] at hi; simp at hi
  · have eY : X.addA t c = { X with A := updA X.A (t : Int) c } := by unfold XM.addA; rw [if_neg hr]
    rw [eY]
    have hiff : ∀ u : Nat, updA X.A (t : Int) c (u : Int) ≠ [] ↔ X.A (u : Int) ≠ [] := fun u => by
      by_cases e : u = t
      · subst e; rw [z8Ze]; simp [hr]
      · rw [zJyz e]
    exact ⟨⟨h.n, h.bx, h.r1, h.r2, fun u hne => h.a1 u ((hiff u).1 hne), fun i u hi => ⟨(hiff u).2 (h.a2 i u hi).1, (h.a2 i u hi).2⟩⟩, rfl, rfl, [], by simp⟩
end
end Ab
namespace Ab
def rd0 : List AV := List.replicate 1025 .snil
def nbI (N b w d : Nat) : Ix → Blk
  | .rdy _ => ⟨none, rd0, .live⟩
  | .box _ => ⟨some 3, [if w = 0 then .snil else .sl (b + 3) w 0 w, if d = 0 then .snil else .sl (b + 5) d 0 d, .sl b 1025 0 1025], .live⟩
  | .wr _ _ => ⟨none, List.replicate N .snil, .live⟩
  | .wo _ => ⟨none, (List.range w).map fun s => .sl (b + if s = 0 then 2 else 4 + 2 * s) N 0 N, .live⟩
  | .dr _ _ => ⟨none, List.replicate N (.bool false), .live⟩
  | .dno _ => ⟨none, (List.range d).map fun s => .sl (b + if s = 0 then 4 else 5 + 2 * s) N 0 N, .live⟩
  | _ => default
def nbN (w d : Nat) : Nat := if w = 0 then 2 else if d = 0 then 4 else w + d + 4
def nbl (N b w d : Nat) : List Blk := (List.range (nbN w d)).map fun j => nbI N b w d (decb true j)
section
variable {N b w d : Nat} {σ : List Blk}
theorem zHIt : (nbl N b w d).length = nbN w d := by simp [nbl]
theorem zWuK (hb : b = σ.length) {k : Nat} (hk : k < nbN w d) : blk (σ ++ nbl N b w d) (b + k) = some (nbI N b w d (decb true k)) := by
  subst hb
  rw [zzWB, List.getElem?_append_right (by omega)]
  simp [nbl, hk]
theorem nb_1 : blk (σ ++ nbl N σ.length w d) (σ.length + 1) = some ⟨some 3, [if w = 0 then .snil else .sl (σ.length + 3) w 0 w, if d = 0 then .snil else .sl (σ.length + 5) d 0 d, .sl σ.length 1025 0 1025], .live⟩ := zWuK rfl (by unfold nbN; by_cases h : w = 0 <;> by_cases h2 : d = 0 <;> simp [h, h2] <;> omega)
theorem nb_3 (hw : w ≠ 0) : blk (σ ++ nbl N σ.length w d) (σ.length + 3) = some ⟨none, (List.range w).map fun s => .sl (σ.length + if s = 0 then 2 else 4 + 2 * s) N 0 N, .live⟩ := zWuK rfl (by unfold nbN; by_cases h2 : d = 0 <;> simp [hw, h2] <;> omega)
theorem nb_5 (hw : w ≠ 0) (hd : d ≠ 0) : blk (σ ++ nbl N σ.length w d) (σ.length + 5) = some ⟨none, (List.range d).map fun s => .sl (σ.length + if s = 0 then 4 else 5 + 2 * s) N 0 N, .live⟩ := zWuK rfl (by unfold nbN; simp [hw, hd]; omega)
theorem nbI_w {w' j : Nat} (h1 : j ≠ 1) (h3 : j ≠ 3) : nbI N b w d (decb true j) = nbI N b w' d (decb true j) := by
  unfold decb
  repeat' split
  all_goals first | rfl | (exfalso; omega)
theorem nbI_d {d' j : Nat} (h1 : j ≠ 1) (h5 : j ≠ 5) : nbI N b w d (decb true j) = nbI N b w d' (decb true j) := by
  unfold decb
  repeat' split
  all_goals first | rfl | (exfalso; omega)
theorem zVhL {τ : List Blk} {k : Nat} {B : Blk} : setB (σ ++ τ) (σ.length + k) B = σ ++ τ.set k B := by
  rw [z4Wl, List.set_append_right _ _ (by omega), show σ.length + k - σ.length = k by omega]
theorem zF3P : setB (σ ++ (nbl N σ.length 0 0 ++ [⟨none, List.replicate N .snil, .live⟩, ⟨none, [.sl (σ.length + 2) N 0 N], .live⟩])) (σ.length + 1) ⟨some 3, [.sl (σ.length + 3) 1 0 1, .snil, .sl σ.length 1025 0 1025], .live⟩ = σ ++ nbl N σ.length 1 0 := by
  rw [zVhL]; rfl
theorem z9hJ : setB (σ ++ (nbl N σ.length 1 0 ++ [⟨none, List.replicate N (.bool false), .live⟩, ⟨none, [.sl (σ.length + 4) N 0 N], .live⟩])) (σ.length + 1) ⟨some 3, [.sl (σ.length + 3) 1 0 1, .sl (σ.length + 5) 1 0 1, .sl σ.length 1025 0 1025], .live⟩ = σ ++ nbl N σ.length 1 1 := by
  rw [zVhL]; rfl
theorem zTX1 {i : Nat} (h : i ≠ 0) : setB (setB (σ ++ (nbl N σ.length i i ++ [⟨none, List.replicate N .snil, .live⟩])) (σ.length + 3) ⟨none, (List.range i).map (fun s => .sl (σ.length + if s = 0 then 2 else 4 + 2 * s) N 0 N) ++ [.sl (σ.length + (i + i + 4)) N 0 N], .live⟩) (σ.length + 1) ⟨some 3, [.sl (σ.length + 3) (i + 1) 0 (i + 1), .sl (σ.length + 5) i 0 i, .sl σ.length 1025 0 1025], .live⟩ = σ ++ nbl N σ.length (i + 1) i := by
  rw [zVhL, zVhL]
  congr 1
  have e1 : nbN i i = i + i + 4 := by unfold nbN; simp [h]
  have e2 : nbN (i + 1) i = i + i + 5 := by unfold nbN; simp [h]; omega
  apply List.ext_getElem
  · simp [nbl, e1, e2]
  · intro j h1 h2
    rw [List.getElem_set, List.getElem_set]
    simp only [nbl, List.length_map, List.length_range, e2] at h2
    simp only [nbl, List.getElem_map, List.getElem_range]
    by_cases j1 : 1 = j
    · subst j1; rw [if_pos rfl]; show _ = nbI N _ (i + 1) i (.box true); simp [nbI, h]
    · rw [if_neg j1]
      by_cases j3 : 3 = j
      · subst j3; rw [if_pos rfl]; show _ = nbI N _ (i + 1) i (.wo true); simp [nbI, List.range_succ, h]; omega
      · rw [if_neg j3, nbI_w (w' := i) (fun e => j1 e.symm) (fun e => j3 e.symm)]
        by_cases jl : j < i + i + 4
        · rw [List.getElem_append_left (by simp [e1]; exact jl)]
          simp
        · have : j = i + i + 4 := by omega
          subst this
          rw [List.getElem_append_right (by simp [e1])]
          have e3 : decb true (i + i + 4) = .wr true i := by
            have := zjWf (f := true) (s := i)
            rw [if_neg h] at this
            rw [← this]; congr 1; omega
          simp [e1, e3, nbI]
theorem zoGx {i : Nat} (h : i ≠ 0) : setB (setB (σ ++ (nbl N σ.length (i + 1) i ++ [⟨none, List.replicate N (.bool false), .live⟩])) (σ.length + 5) ⟨none, (List.range i).map (fun s => .sl (σ.length + if s = 0 then 4 else 5 + 2 * s) N 0 N) ++ [.sl (σ.length + (i + i + 5)) N 0 N], .live⟩) (σ.length + 1) ⟨some 3, [.sl (σ.length + 3) (i + 1) 0 (i + 1), .sl (σ.length + 5) (i + 1) 0 (i + 1), .sl σ.length 1025 0 1025], .live⟩ = σ ++ nbl N σ.length (i + 1) (i + 1) := by
  rw [zVhL, zVhL]
  congr 1
  have e1 : nbN (i + 1) i = i + i + 5 := by unfold nbN; simp [h]; omega
  have e2 : nbN (i + 1) (i + 1) = i + i + 6 := by unfold nbN; simp; omega
  apply List.ext_getElem
  · simp [nbl, e1, e2]
  · intro j h1 h2
    rw [List.getElem_set, List.getElem_set]
    simp only [nbl, List.length_map, List.length_range, e2] at h2
    simp only [nbl, List.getElem_map, List.getElem_range]
    by_cases j1 : 1 = j
    · subst j1; rw [if_pos rfl]; show _ = nbI N _ (i + 1) (i + 1) (.box true); simp [nbI, h]
    · rw [if_neg j1]
      by_cases j3 : 5 = j
      · subst j3; rw [if_pos rfl]; show _ = nbI N _ (i + 1) (i + 1) (.dno true); simp [nbI, List.range_succ, h]; omega
      · rw [if_neg j3, nbI_d (d' := i) (fun e => j1 e.symm) (fun e => j3 e.symm)]
        by_cases jl : j < i + i + 5
        · rw [List.getElem_append_left (by simp [e1]; exact jl)]
          simp
        · have : j = i + i + 5 := by omega
          subst this
          rw [List.getElem_append_right (by simp [e1])]
          have e3 : decb true (i + i + 5) = .dr true i := by
            have := zWOt (f := true) (s := i)
            rw [if_neg h] at this
            rw [← this]; congr 1; omega
          simp [e1, e3, nbI]
theorem znDD {N : Nat} (hN : N ≤ 1000) (σ : List Blk) : L zlGq [.int N] σ = some (.ptr (σ.length + 1) (kst (some 3)) 0, σ ++ nbl N σ.length N N) := by
  have main : LX L zlGq [.int N] σ (fun v τ => v = .ptr (σ.length + 1) (kst (some 3)) 0 ∧ τ = σ ++ nbl N σ.length N N) := by
    refine zQae rfl ?_
    have hrd : List.replicate 1025 AV.snil = rd0 := rfl
    have e0 : [⟨none, rd0, .live⟩, ⟨some 3, [.snil, .snil, .sl σ.length 1025 0 1025], .live⟩] = nbl N σ.length 0 0 := rfl
    have e0' : (AV.agg [AV.snil, AV.snil, AV.sl σ.length 1025 0 1025]).cells = [AV.snil, AV.snil, AV.sl σ.length 1025 0 1025] := rfl
    simp [-zJRc, -List.reduceReplicate]
    simp only [hrd, e0', e0]
    refine zv8C (fun p : Nat => [(1, .int p)]) (fun p => σ ++ nbl N σ.length p p) (fun p => p ≤ N) (fun p => N - p) 0 (by simp [sets]) (by simp) ?_
    intro i i1
    try dsimp only at i1 ⊢
    have hN2 : (N : Int) ≤ 1073741824 := by omega
    by_cases hi : i < N
    · by_cases h0 : i = 0
      · subst h0
        have b1 := nb_1 (N := N) (σ := σ) (w := 0) (d := 0)
        have b2 := nb_1 (N := N) (σ := σ) (w := 1) (d := 0)
        have c1 := fun τ => zTJw (τ := τ) b1
        have c2 := fun τ => zTJw (τ := τ) b2
        have hl := zHIt (N := N) (b := σ.length) (w := 0) (d := 0)
        rw [show nbN 0 0 = 2 from rfl] at hl
        have hl2 := zHIt (N := N) (b := σ.length) (w := 1) (d := 0)
        rw [show nbN 1 0 = 4 from rfl] at hl2
        simp at b1 c1 b2 c2
        have s1 := zF3P (N := N) (σ := σ)
        have s2 := z9hJ (N := N) (σ := σ)
        simp [-zJRc, hi, b1, c1, hl, s1, b2, c2, hl2, s2, hN2]
        exact zGkM 1 (by simp) rfl (by omega) (by omega)
      · have b1 := nb_1 (N := N) (σ := σ) (w := i) (d := i)
        have b2 := nb_1 (N := N) (σ := σ) (w := i + 1) (d := i)
        have b3 := nb_3 (N := N) (σ := σ) (w := i) (d := i) h0
        have b5 := nb_5 (N := N) (σ := σ) (w := i + 1) (d := i) (by omega) h0
        have hl := zHIt (N := N) (b := σ.length) (w := i) (d := i)
        have hnn : nbN i i = i + i + 4 := by unfold nbN; simp [h0]
        rw [hnn] at hl
        have hl2 := zHIt (N := N) (b := σ.length) (w := i + 1) (d := i)
        have hnn2 : nbN (i + 1) i = i + i + 5 := by unfold nbN; simp [h0]; omega
        rw [hnn2] at hl2
        rw [if_neg h0, if_neg h0] at b1
        rw [if_neg (by omega), if_neg h0] at b2
        have c1 := fun τ => zTJw (τ := τ) b1
        have c3 := fun τ => zTJw (τ := τ) b3
        have c2 := fun τ => zTJw (τ := τ) b2
        have c5 := fun τ => zTJw (τ := τ) b5
        have n3 := fun (τ : List Blk) (B : Blk) => zkoI (σ := τ) (B := B) (show σ.length + 3 ≠ σ.length + 1 by omega)
        have n5 := fun (τ : List Blk) (B : Blk) => zkoI (σ := τ) (B := B) (show σ.length + 5 ≠ σ.length + 1 by omega)
        simp only [List.append_assoc] at c1 c2 c3 c5
        have s1 := zTX1 (N := N) (σ := σ) h0
        have s2 := zoGx (N := N) (σ := σ) h0
        simp [-zJRc, hi, h0, b1, b2, b3, b5, c1, c2, c3, c5, n3, n5, hl, hl2, hN2, s1, s2]
        exact ⟨by omega, by omega, zGkM (i + 1) (by simp) rfl (by omega) (by omega)⟩
    · have : i = N := by omega
      subst this
      simp [-zJRc]
  obtain ⟨_, _, h1, rfl, rfl⟩ := LX_s main
  exact h1
end
end Ab
