/- The search begins: newSearch. The first word, as the program finds it. Shortest, as the program finds it. Condition: none. -/
import Derived.Test.YtkchnhfeebkogaaN43Nb
set_option linter.all false
set_option maxRecDepth 100000
set_option maxHeartbeats 4000000
namespace Ab
def xm0 (N : Nat) (bx : List AV) : XM := ⟨N, bx, .emp, .emp, fun _ => [], fun _ _ => 0, fun _ => 0, []⟩
theorem zIhG {N : Nat} {bx : List AV} (h1 : 1 ≤ N) (h2 : N ≤ 1000) (hb : bx.length = 11) : Xok (xm0 N bx) := ⟨⟨h1, h2⟩, hb, fun f k h => by cases f <;> exact absurd rfl h, fun i f k h => by simp [xm0] at h, fun t h => absurd rfl h, fun i t h => by simp [xm0] at h⟩
theorem zsAV {n : Nat} {x : AV} : (List.range n).map (fun _ => x) = List.replicate n x := by
  rw [List.map_const', List.length_range]
theorem zBIF {k n : Nat} {x : AV} (h : shV k x = x) : shL k (List.replicate n x) = List.replicate n x := by rw [zJVm, List.map_replicate, h]
theorem zurP {N k w d : Nat} {x : Ix} : shB k (nbI N 0 w d x) = nbI N k w d x := by
  cases x with
  | rdy f => simp only [shB, nbI]; rw [show rd0 = List.replicate 1025 AV.snil from rfl, zBIF (by unfold shV; rfl)]
  | box f =>
    simp only [shB, nbI, zJVm, List.map_cons, List.map_nil]
    congr 1
    by_cases hw : w = 0 <;> by_cases hd : d = 0 <;> simp [hw, hd, shV, Nat.add_comm]
  | wr f s => simp only [shB, nbI]; rw [zBIF (by unfold shV; rfl)]
  | dr f s => simp only [shB, nbI]; rw [zBIF (by unfold shV; rfl)]
  | wo f =>
    simp only [shB, nbI, zJVm, List.map_map]
    congr 1
    refine List.map_congr_left fun j _ => ?_
    simp [shV, Nat.add_comm]
  | dno f =>
    simp only [shB, nbI, zJVm, List.map_map]
    congr 1
    refine List.map_congr_left fun j _ => ?_
    simp [shV, Nat.add_comm]
  | _ => rfl
theorem zdKR {N k w d : Nat} : (nbl N 0 w d).map (shB k) = nbl N k w d := by
  unfold nbl
  rw [List.map_map]
  exact List.map_congr_left fun j _ => zurP
theorem mem0 {N : Nat} {bx : List AV} (h1 : 1 ≤ N) : nbl N 0 N N ++ (nbl N (2 * N + 4) N N ++ [⟨none, List.replicate N .snil, .live⟩, ⟨some 14, bx ++ [.ptr 1 (kst (some 3)) 0, .ptr (2 * N + 5) (kst (some 3)) 0, .sl (4 * N + 8) N 0 N], .live⟩]) = mem (xm0 N bx) := by
  have e1 : nbN N N = 2 * N + 4 := by unfold nbN; rw [if_neg (by omega), if_neg (by omega)]; omega
  have hne : N ≠ 0 := by omega
  have main : ∀ f k, k < 2 * N + 4 → cb (xm0 N bx) (decb f k) = nbI N (e0 N f) N N (decb true k) := by
    intro f k hk
    have hb : (xm0 N bx).b f = .emp := by cases f <;> rfl
    unfold decb
    repeat' split
    · simp only [cb, nbI, rdc, hb]; rw [show rd0 = List.replicate 1025 AV.snil from rfl, ← zsAV]; simp [Bs.emp]
    · simp [cb, nbI, xm0, num, hne]
    · simp only [cb, nbI, wrow, hb]; rw [← zsAV]; simp [Bs.emp, wc, xm0]
    · simp [cb, nbI, rowS, xm0, num]
    · simp only [cb, nbI, drow, hb]; rw [← zsAV]; simp [Bs.emp, xm0]
    · simp [cb, nbI, rowS, xm0, num]
    · simp only [cb, nbI, wrow, hb]; rw [← zsAV]; simp [Bs.emp, wc, xm0]
    · simp only [cb, nbI, drow, hb]; rw [← zsAV]; simp [Bs.emp, xm0]
  apply List.ext_getElem
  · simp [mem, nbl, e1, xm0]; omega
  · intro j j1 j2
    simp only [mem, List.length_map, List.length_range] at j2
    have j2 : j < 4 * N + 10 + 0 := j2
    simp only [mem, List.getElem_map, List.getElem_range]
    have hx : (xm0 N bx).N = N := rfl
    rw [hx]
    by_cases a1 : j < 2 * N + 4
    · rw [List.getElem_append_left (by rw [zHIt, e1]; exact a1)]
      have hd : decI N j = decb true j := by unfold decI; rw [if_pos a1]
      rw [hd, main true j a1]
      simp [nbl, e0]
    · rw [List.getElem_append_right (by rw [zHIt, e1]; omega)]
      simp only [zHIt, e1]
      by_cases a2 : j < 4 * N + 8
      · rw [List.getElem_append_left (by rw [zHIt, e1]; omega)]
        have hd : decI N j = decb false (j - (2 * N + 4)) := by unfold decI; rw [if_neg a1, if_pos a2]
        rw [hd, main false _ (by omega)]
        simp [nbl, e0]
      · rw [List.getElem_append_right (by rw [zHIt, e1]; omega)]
        simp only [zHIt, e1]
        by_cases a3 : j = 4 * N + 8
        · subst a3
          have hd : decI N (4 * N + 8) = .co := by unfold decI; rw [if_neg (by omega), if_neg (by omega), if_pos rfl]
          rw [hd]
          have e2 : 4 * N + 8 - (2 * N + 4) - (2 * N + 4) = 0 := by omega
          simp only [e2]
          simp [cb, coc, xm0]; exact zsAV.symm
        · have a4 : j = 4 * N + 9 := by omega
          subst a4
          have hd : decI N (4 * N + 9) = .bx := by unfold decI; rw [if_neg (by omega), if_neg (by omega), if_neg (by omega), if_pos rfl]
          rw [hd]
          have e2 : 4 * N + 9 - (2 * N + 4) - (2 * N + 4) = 1 := by omega
          simp only [e2]
          simp [cb, xm0, num, e0]
section
variable {M : Mch}
theorem zGAt (hM : M.Sm) (hs1 : 1 ≤ M.size) (hsz : M.size ≤ 1000) {tt : Nat} {mv : AV} (hmv : MOk tt mv M) {nn : Nst} (hc : nn.calls = M.calls) (hi' : nn.inns = M.inns) (hr' : nn.rets = M.rets) :
    ∃ X, L zNv5 [.iface tt mv, nn.av] [] = some (.ptr (num X.N .bx) (kst (some 14)) 0, mem X) ∧ Xok X ∧ X.N = M.size ∧ X.bx = bxOf tt mv nn ∧ Lvl M 0 X.S X.C ∧ AOk M X.A ∧ ∀ p, (X.A p).length ≤ 1000000 := by
  have main : LX L zNv5 [.iface tt mv, nn.av] [] (fun v τ => ∃ X, v = .ptr (num X.N .bx) (kst (some 14)) 0 ∧ τ = mem X ∧ Xok X ∧ X.N = M.size ∧ X.bx = bxOf tt mv nn ∧ Lvl M 0 X.S X.C ∧ AOk M X.A ∧ ∀ p, (X.A p).length ≤ 1000000) := by
    refine ztgG rfl ?_
    obtain ⟨fs, hfs, hsz'⟩ := hmv.size
    obtain ⟨fc, hfc, hcall⟩ := hmv.call
    obtain ⟨fi, hfi, hinn⟩ := hmv.inner
    have hloc := hmv.loc
    have hwk := hmv.wk
    have e1 : nbN M.size M.size = 2 * M.size + 4 := by unfold nbN; rw [if_neg (by omega), if_neg (by omega)]; omega
    have hB1 := znDD hsz []
    have hl := zHIt (N := M.size) (b := 0) (w := M.size) (d := M.size)
    have hl2 := zHIt (N := M.size) (b := 2 * M.size + 4) (w := M.size) (d := M.size)
    rw [e1] at hl hl2
    have hs0 := zdKR (N := M.size) (k := 0) (w := M.size) (d := M.size)
    have hs2 := zdKR (N := M.size) (k := 2 * M.size + 4) (w := M.size) (d := M.size)
    have p1 : shV 0 (.ptr 1 (kst (some 3)) 0) = .ptr 1 (kst (some 3)) 0 := by simp [shV]
    have p2 : shV (2 * M.size + 4) (.ptr 1 (kst (some 3)) 0) = .ptr (2 * M.size + 5) (kst (some 3)) 0 := by simp [shV]; omega
    simp only [List.nil_append, List.length_nil, Nat.zero_add] at hB1
    simp [-zJRc, hfs, hsz', hloc, hwk, hB1, hs0, hs2, p1, p2, hl, hl2]
    refine ⟨by omega, ?_⟩
    have em := mem0 (N := M.size) (bx := bxOf tt mv nn) hs1
    have hok := zIhG (N := M.size) (bx := bxOf tt mv nn) hs1 hsz rfl
    generalize hX0 : xm0 M.size (bxOf tt mv nn) = X0 at *
    have n0 : X0.N = M.size := by rw [← hX0]; rfl
    have b0 : X0.bx = bxOf tt mv nn := by rw [← hX0]; rfl
    have i0 : Ini M X0.S X0.C X0.A 0 0 0 0 := by rw [← hX0]; exact .init
    have l0 : ∀ p, (X0.A p).length = 0 := fun p => by rw [← hX0]; rfl
    have hbe : bxOf tt mv nn = [.iface tt mv, .int nn.calls, .int nn.inns, .int nn.rets, .int nn.stack, .int nn.start, bL nn.accept, iLL nn.call, iLL nn.push, iLL nn.inner, iLLL nn.pop] := rfl
    have q1 : 2 * M.size + 4 + (2 * M.size + 4) = 4 * M.size + 8 := by omega
    have q2 : 2 * M.size + 4 + (2 * M.size + 4 + 1) = num M.size .bx := by show _ = 4 * M.size + 9; omega
    rw [q1, q2]
    have hcal := hM.ok.calls
    have hin := hM.ok.inns
    have hsum := hM.sum
    have hrt := hM.ok.rets
    obtain ⟨nc, hnc⟩ := Int.eq_ofNat_of_zero_le hcal.1
    obtain ⟨ni, hni⟩ := Int.eq_ofNat_of_zero_le hin.1
    refine zv8C (fun p : Nat × XM => [(3, .int p.1)]) (fun p => mem p.2) (fun p => p.1 ≤ M.size ∧ Xe X0 p.2 ∧ Ini M p.2.S p.2.C p.2.A p.1 p.1 0 0 ∧ ∀ q, (p.2.A q).length ≤ p.1 * nc) (fun p => M.size - p.1) (0, X0) (congrArg (fun z => (⟨_, none, z⟩ : St)) em) ⟨by simp, .refl hok, i0, fun q => by rw [l0]; omega⟩ ?_
    rintro ⟨s, Z⟩ ⟨s1, z1, z2, z3⟩
    dsimp only at s1 z1 z2 z3 ⊢
    by_cases hs : s < M.size
    · have zf := zf_of z1.ok (z1.n.trans n0) (z1.bx.trans b0)
      have zbx := zf.bx
      rw [hbe] at zbx
      have hin : inS M (s : Int) := ⟨by omega, by omega⟩
      have hs' := eq_true hs
      obtain ⟨Y, hO, y1, yC, yS, yA⟩ := zaGq (X := Z) (f := false) (s := s) (t := s) z1.ok (by rw [z1.n, n0]; exact hs) (by rw [z1.n, n0]; exact hs) (v := .snil) (w := .snil) .nil .nil (by simp) (fun k => by have h1 := z2.bc.rlen k; have h2 : M.size * M.size ≤ 1000 * 1000 := Nat.mul_le_mul hsz hsz; show (Z.C.R k).length ≤ _; omega) (fun o e => (z2.bc.snd _ _ _ hin hin e).2)
      rw [z1.n, n0] at hO
      have yC : Y.C = Z.C.off (s : Int) (s : Int) [] := yC
      have yS : Y.S = Z.S := yS
      have y2 : Ini M Y.S Y.C Y.A (s : Int) ((s : Int) + 1) 0 0 := by rw [yC, yS, yA]; exact z2.stepE hM hin
      have yn := (z1.trans y1).n.trans n0
      simp [-zJRc, hs', hfs, hsz', hloc, hwk, zbx, hO]
      refine zv8C (fun p : Nat × XM => [(7, .int p.1)]) (fun p => mem p.2) (fun p => p.1 ≤ ni ∧ Xe X0 p.2 ∧ Ini M p.2.S p.2.C p.2.A (s : Int) ((s : Int) + 1) p.1 0 ∧ ∀ q, (p.2.A q).length ≤ s * nc) (fun p => ni - p.1) (0, Y) (by simp [sets]) ⟨by simp, z1.trans y1, y2, fun q => by rw [yA]; exact z3 q⟩ ?_
      rintro ⟨j, V⟩ ⟨j1, v1, v2, v3⟩
      dsimp only at j1 v1 v2 v3 ⊢
      by_cases hj : j < ni
      · have vf := zf_of v1.ok (v1.n.trans n0) (v1.bx.trans b0)
        have vbx := vf.bx
        rw [hbe] at vbx
        have hjl := eq_true (show (j : Int) < nn.inns by omega)
        have hnx := hinn (s : Int) (j : Int) (by omega) (by omega) (by omega) (by omega)
        have htn := hM.ok.inner (s : Int) (j : Int) hin.1 hin.2 (by omega) (by omega)
        generalize htt : M.inner (s : Int) (j : Int) = t at *
        obtain ⟨tn, rfl⟩ := Int.eq_ofNat_of_zero_le htn.1
        obtain ⟨U, hO, u1, uS, uC, uA⟩ := zaGq (X := V) (f := true) (s := s) (t := tn) v1.ok (by rw [v1.n, n0]; exact hs) (by rw [v1.n, n0]; omega) (v := .imm false [.int (M.calls + (j : Int))]) (w := .snil) (.imm false [M.calls + (j : Int)]) .nil (by simp) (fun k => by have h1 := v2.bs.rlen k; have h2 : M.size * M.size ≤ 1000 * 1000 := Nat.mul_le_mul hsz hsz; show (V.S.R k).length ≤ _; omega) (fun o e => (v2.bs.snd _ _ _ hin ⟨by omega, htn.2⟩ e).2)
        rw [v1.n, n0, ← hc] at hO
        have uS : U.S = V.S.off (s : Int) (tn : Int) [M.calls + (j : Int)] := uS
        have uC : U.C = V.C := uC
        have u2 : Ini M U.S U.C U.A (s : Int) ((s : Int) + 1) ((j + 1 : Nat) : Int) 0 := by rw [uC, uS, uA, ← htt]; exact v2.stepI hM hin (by omega) (by omega)
        have hcj : -9223372036854775808 ≤ nn.calls + (j : Int) ∧ nn.calls + (j : Int) ≤ 9223372036854775807 := by omega
        simp [-zJRc, hjl, hfi, hnx, hloc, hwk, vbx, hO, hcj]
        exact ⟨by omega, zGkM (j + 1, U) (by simp) rfl ⟨by dsimp only; omega, v1.trans u1, u2, fun q => by rw [uA]; exact v3 q⟩ (by dsimp only; omega)⟩
      · have : j = ni := by omega
        subst this
        have hjl := eq_false (show ¬ (j : Int) < nn.inns by omega)
        simp [-zJRc, hjl]
        have v2 : Ini M V.S V.C V.A (s : Int) ((s : Int) + 1) M.inns ((0 : Nat) : Int) := by rw [hni]; exact v2
        refine zv8C (fun p : Nat × XM => [(10, .int p.1)]) (fun p => mem p.2) (fun p => p.1 ≤ nc ∧ Xe X0 p.2 ∧ Ini M p.2.S p.2.C p.2.A (s : Int) ((s : Int) + 1) M.inns p.1 ∧ ∀ q, (p.2.A q).length ≤ s * nc + p.1) (fun p => nc - p.1) (0, V) (by simp [sets]) ⟨by simp, v1, v2, fun q => by simpa using v3 q⟩ ?_
        rintro ⟨k, U⟩ ⟨k1, u1, u2, u3⟩
        dsimp only at k1 u1 u2 u3 ⊢
        by_cases hk : k < nc
        · have uf := zf_of u1.ok (u1.n.trans n0) (u1.bx.trans b0)
          have ubx := uf.bx
          rw [hbe] at ubx
          have hkl := eq_true (show (k : Int) < nn.calls by omega)
          have hnx := hcall (s : Int) (k : Int) (by omega) (by omega) (by omega) (by omega)
          have htn := hM.ok.call (s : Int) (k : Int) hin.1 hin.2 (by omega) (by omega)
          have hst := u2.stepC (by omega) (by omega) (by omega)
          generalize htt : M.call (s : Int) (k : Int) = tg at *
          obtain ⟨t, g⟩ := tg
          dsimp only at hnx htn hst
          obtain ⟨tn, rfl⟩ := Int.eq_ofNat_of_zero_le htn.1
          have htN : tn < U.N := by rw [u1.n, n0]; omega
          have htN' := eq_true (show tn < M.size by omega)
          have aE := zZf8 (X := U) (t := tn) (c := ((s : Int), (k : Int), g)) u1.ok
          obtain ⟨a1, a2, a3, a4, a5⟩ := z8r9 (X := U) (t := tn) (c := ((s : Int), (k : Int), g))
          have w2 : Ini M (U.addA tn ((s : Int), (k : Int), g)).S (U.addA tn ((s : Int), (k : Int), g)).C (U.addA tn ((s : Int), (k : Int), g)).A (s : Int) ((s : Int) + 1) M.inns ((k + 1 : Nat) : Int) := by rw [a3, a4, a5]; exact hst
          have w3 : ∀ q, ((U.addA tn ((s : Int), (k : Int), g)).A q).length ≤ s * nc + (k + 1) := fun q => by
            rw [a5]
            unfold updA
            have := u3 q
            split
            · rw [List.length_append]; simp; omega
            · omega
          have c0 := uf.co
          have c1 := zf1d (X := U)
          have c2 := zsZ6 (X := U) (t := tn) htN
          rw [u1.n, n0] at c1 c2
          have ht1 := eq_true (show tn + 1 ≤ M.size by omega)
          have mlY : num M.size (.dy U.dyn.length) = (mem U).length := by rw [zKS9, u1.n, n0]; rfl
          have c7 := fun (B : Blk) => zTJw (τ := [B]) c0
          have hne : ∀ i, num M.size (.dy i) ≠ num M.size .co := fun i => by
            show 4 * M.size + 10 + i ≠ 4 * M.size + 8
            omega
          have c8 := fun (i : Nat) (B : Blk) => zkoI (σ := mem U) (B := B) (hne i)
          have cl := zLL4 (l := U.A (tn : Int))
          have hlen : (U.A (tn : Int)).length ≤ 1073741823 := by have h3 := u3 tn; have h4 : s * nc ≤ 1000 * 64 := Nat.mul_le_mul (by omega) (by omega); omega
          by_cases hA : U.A (tn : Int) = []
          · have st := zOMV (c := ((s : Int), (k : Int), g)) u1.ok htN hA
            rw [u1.n, n0] at st
            simp only [← putR1, mlY] at st
            rw [if_pos hA] at c2
            simp [-zJRc, hkl, hfc, hnx, hloc, hwk, ubx, c0, c1, c2, htN', ht1, c7, st]
            exact ⟨by omega, zGkM (k + 1, U.addA tn ((s : Int), (k : Int), g)) (by simp) rfl ⟨by dsimp only; omega, u1.trans aE, w2, w3⟩ (by dsimp only; omega)⟩
          · have st := zXw8 (c := ((s : Int), (k : Int), g)) u1.ok htN hA
            rw [u1.n, n0] at st
            simp only [← putR1] at st
            rw [if_neg hA] at c2
            have hcol := (m_col u1.ok hA).2
            rw [u1.n, n0] at hcol
            simp [-zJRc, hkl, hfc, hnx, hloc, hwk, ubx, c0, c1, c2, htN', ht1, hcol, cl, hlen, c8, st]
            exact ⟨by simp [kst]; omega, by omega, zGkM (k + 1, U.addA tn ((s : Int), (k : Int), g)) (by simp) rfl ⟨by dsimp only; omega, u1.trans aE, w2, w3⟩ (by dsimp only; omega)⟩
        · have : k = nc := by omega
          subst this
          have hkl := eq_false (show ¬ (k : Int) < nn.calls by omega)
          simp [-zJRc, hkl]
          have u2 : Ini M U.S U.C U.A (s : Int) ((s : Int) + 1) M.inns M.calls := by rw [hnc]; exact u2
          exact ⟨by omega, zGkM (s + 1, U) (by simp) rfl ⟨by dsimp only; omega, u1, by have := u2.next; exact this, fun q => by have := u3 q; have : (s + 1) * k = s * k + k := Nat.succ_mul s k; dsimp only; omega⟩ (by dsimp only; omega)⟩
    · have : s = M.size := by omega
      subst this
      simp [-zJRc]
      obtain ⟨f1, f2⟩ := Ini.fin hM z2
      exact ⟨Z, by rw [z1.n, n0], rfl, z1.ok, z1.n.trans n0, z1.bx.trans b0, f1, f2, fun p => by have h3 := z3 p; have h4 : M.size * nc ≤ 1000 * 64 := Nat.mul_le_mul hsz (by omega); omega⟩
  obtain ⟨_, _, h1, X, rfl, rfl, h2⟩ := LX_s main
  exact ⟨X, h1, h2⟩
end
end Ab
namespace Ab
def fAns (o : Option (List Int)) (e : Int) : AV :=
  match o with
  | some w => .tup [iL w, .bool true, .int 0]
  | none => .tup [.imm false [], .bool false, .int e]
def wo : Option (List Int) → AV
  | none => .snil
  | some w => .imm true (w.map .int)
structure Bst1 (W : TO) (s : Int) (g : Int → Bool) (out : List PR) (i : Nat) (o : Option (List Int)) : Prop where
  no : o = none → ∀ j : Nat, j < i → j < out.length → (ix out (j : Int)).1 = s → g (ix out (j : Int)).2 = true → False
  so : ∀ w, o = some w → ∃ t, (s, t) ∈ out ∧ g t = true ∧ W s t = some w ∧ ∀ (j : Nat) v, j < i → j < out.length → (ix out (j : Int)).1 = s → g (ix out (j : Int)).2 = true → W s (ix out (j : Int)).2 = some v → rkW w ≤ rkW v
theorem Bst1.keep {W : TO} {s : Int} {g : Int → Bool} {out : List PR} {i : Nat} {o : Option (List Int)} (h : Bst1 W s g out i o) (hk : (ix out (i : Int)).1 = s → g (ix out (i : Int)).2 = true → ∃ w v, o = some w ∧ W s (ix out (i : Int)).2 = some v ∧ rkW w ≤ rkW v) : Bst1 W s g out (i + 1) o := by
  refine ⟨fun ho j hj hl h1 h2 => ?_, fun w hw => ?_⟩
  · by_cases e : j = i
    · subst e
      obtain ⟨w, _, h3, _⟩ := hk h1 h2
      rw [ho] at h3; simp at h3
    · exact h.no ho j (by omega) hl h1 h2
  · obtain ⟨t, t1, t2, t3, t4⟩ := h.so w hw
    refine ⟨t, t1, t2, t3, fun j v hj hl h1 h2 h3 => ?_⟩
    by_cases e : j = i
    · subst e
      obtain ⟨w', v', k1, k2, k3⟩ := hk h1 h2
      rw [hw] at k1; injection k1 with k1
      rw [h3] at k2; injection k2 with k2
      rw [k1, k2]; exact k3
    · exact t4 j v (by omega) hl h1 h2 h3
theorem Bst1.put {W : TO} {s : Int} {g : Int → Bool} {out : List PR} {i : Nat} {o : Option (List Int)} {a : List Int} (h : Bst1 W s g out i o) (hm : (s, (ix out (i : Int)).2) ∈ out) (h2 : g (ix out (i : Int)).2 = true) (hv : W s (ix out (i : Int)).2 = some a) (hb : ∀ w, o = some w → rkW a ≤ rkW w) : Bst1 W s g out (i + 1) (some a) := by
  refine ⟨fun ho => by simp at ho, fun w hw => ?_⟩
  injection hw with hw
  subst hw
  refine ⟨_, hm, h2, hv, fun j v hj hl k1 k2 k3 => ?_⟩
  by_cases e : j = i
  · subst e
    rw [hv] at k3; injection k3 with k3
    rw [k3]; exact Nat.le_refl _
  · cases o with
    | none => exact absurd (h.no rfl j (by omega) hl k1 k2) (fun h => h)
    | some w =>
      obtain ⟨t, t1, t2, t3, t4⟩ := h.so w rfl
      have := t4 j v (by omega) hl k1 k2 k3
      have := hb w rfl
      omega
theorem z2ul {M : Mch} (hM : M.Sm) {s t : Int} {w : List Int} (h : M.lk s t = some w) : w.length ≤ 1024 := ((zvJ0 hM).1 h).1.2
mutual
theorem shV_0 : ∀ x : AV, shV 0 x = x
  | .int _ => rfl
  | .ik _ _ => rfl
  | .bool _ => rfl
  | .str _ => rfl
  | .agg l => by simp only [shV, shL_0 l]
  | .tup l => by simp only [shV, shL_0 l]
  | .snil => rfl
  | .imm _ _ => rfl
  | .arr l => by simp only [shV, shL_0 l]
  | .sl _ _ _ _ => rfl
  | .pnil => rfl
  | .pimm _ => rfl
  | .ptr _ _ _ => rfl
  | .fnil => rfl
  | .func _ l => by simp only [shV, shL_0 l]
  | .inil => rfl
  | .iface _ v => by simp only [shV, shV_0 v]
  | .mapr _ => rfl
  | .und => rfl
theorem shL_0 : ∀ l : List AV, shL 0 l = l
  | [] => rfl
  | x :: r => by simp only [shL, shV_0 x, shL_0 r]
end
theorem shB_0 (l : List Blk) : l.map (shB 0) = l := by
  have : ∀ B : Blk, shB 0 B = B := fun B => by unfold shB; rw [shL_0]
  rw [List.map_congr_left fun B _ => this B, List.map_id']
def psb (row gs : List Bool) (t : Nat) : Bool := (List.range t).any fun u => ix row (u : Int) && ix gs (u : Int)
theorem zv2S {row gs : List Bool} {t : Nat} : psb row gs (t + 1) = (psb row gs t || (ix row (t : Int) && ix gs (t : Int))) := by simp [psb, List.range_succ]
theorem psb_t {row gs : List Bool} {n : Nat} : psb row gs n = true ↔ ∃ t : Int, (0 ≤ t ∧ t < (n : Int)) ∧ ix row t = true ∧ ix gs t = true := by
  simp only [psb, List.any_eq_true, List.mem_range, Bool.and_eq_true]
  constructor
  · rintro ⟨u, h1, h2⟩
    exact ⟨u, ⟨by omega, by omega⟩, h2⟩
  · rintro ⟨t, ⟨h1, h2⟩, h3⟩
    exact ⟨t.toNat, by omega, by rw [show ((t.toNat : Nat) : Int) = t by omega]; exact h3⟩
section
variable {M : Mch}
theorem zkpq (hM : M.Sm) (hs1 : 1 ≤ M.size) (hsz : M.size ≤ 1000) {tt : Nat} {mv : AV} (hmv : MOk tt mv M) {nn : Nst} (hc : nn.calls = M.calls) (hi' : nn.inns = M.inns) (hr' : nn.rets = M.rets) {s : Nat} (hs : s < M.size) {gs : List Bool} (hg : gs.length = M.size) {q : Bool} :
    PC zDXm [.iface tt mv, nn.av, .int s, .imm q (gs.map .bool)] = some (fAns (M.f1 s (ix gs)) (M.f1E s (ix gs))) := by
  refine zx72 ?_
  refine zaFY rfl ?_
  have hcon := zInf M hM.ok tt mv hmv nn hc hi' hr'
  have hloc := hmv.loc
  have hwk := hmv.wk
  have hsq := z90g (M := M)
  have hrow := hsq.row (s := (s : Int)) (by omega) (by omega)
  have hrow' : ((ix (conT M) (s : Int)).length : Int) = (M.size : Int) := by omega
  have hsl := hsq.1
  have hs' := eq_true (show (s : Int) < ((conT M).length : Int) by omega)
  simp [-zJRc, hcon, hloc, hwk, hs', hrow']
  generalize hrw : ix (conT M) (s : Int) = row at *
  refine zv8C (fun t : Nat => [(5, .int t), (8, .bool (psb row gs t))]) (fun _ => []) (fun t => t ≤ M.size) (fun t => M.size - t) 0 (by simp [sets, psb]) (by simp) ?_
  intro t t1
  try dsimp only at t1 ⊢
  by_cases ht : t < M.size
  · have ht1 := eq_true (show (t : Int) < (row.length : Int) by omega)
    have ht2 := eq_true (show (t : Int) < (gs.length : Int) by omega)
    have e := zv2S (row := row) (gs := gs) (t := t)
    cases h1 : psb row gs t <;> cases h2 : ix row (t : Int) <;> cases h3 : ix gs (t : Int) <;> rw [h1, h2, h3] at e <;> simp at e <;> simp [-zJRc, ht, ht1, ht2, h1, h2, h3] <;> exact ⟨by omega, zGkM (t + 1) (by simp [e]) rfl (by omega) (by omega)⟩
  · have : t = M.size := by omega
    subst this
    have hps : psb row gs M.size = true ↔ ∃ t, inS M t ∧ ix gs t = true ∧ Conn M (s : Int) t := by
      rw [psb_t]
      constructor
      · rintro ⟨t, h1, h2, h3⟩
        exact ⟨t, h1, h3, (z4iI (by omega) (by omega) h1.1 h1.2).1 (by rw [hrw]; exact h2)⟩
      · rintro ⟨t, h1, h3, h2⟩
        exact ⟨t, h1, by rw [← hrw]; exact (z4iI (by omega) (by omega) h1.1 h1.2).2 h2, h3⟩
    obtain ⟨X, hX1, xo, xn, xb, xl, xa, xA⟩ := zGAt hM hs1 hsz hmv hc hi' hr'
    have xs0 := shB_0 (mem X)
    have xv0 := shV_0 (.ptr (num X.N .bx) (kst (some 14)) 0)
    cases hp : psb row gs M.size with
    | false =>
      have hne : ¬ ∃ t, inS M t ∧ ix gs t = true ∧ Conn M (s : Int) t := fun h => by rw [hps.2 h] at hp; simp at hp
      have hf : M.f1 (s : Int) (ix gs) = none := zHpH hM fun t ht hgt => by
        cases e : M.lk (s : Int) t with
        | none => rfl
        | some w => exact absurd ⟨t, ht, hgt, ((zvJ0 hM).1 e).1.1.conn⟩ hne
      have hE : M.f1E (s : Int) (ix gs) = 0 := by unfold Mch.f1E; rw [if_neg fun h => hne h.1]
      rw [hf, hE]
      simp [-zJRc, hp, fAns]
    | true =>
      have hex := hps.1 hp
      simp [-zJRc, hp, hloc, hX1, xs0, xv0]
      have hsin : inS M (s : Int) := ⟨by omega, by omega⟩
      refine zv8C (fun p : Nat × XM => [(11, .int p.1)]) (fun p => mem p.2) (fun p => p.1 ≤ 1025 ∧ Xe X p.2 ∧ p.2.A = X.A ∧ Lvl M p.1 p.2.S p.2.C ∧ ∀ t, inS M t → ix gs t = true → ∀ w, M.lk (s : Int) t = some w → p.1 ≤ w.length) (fun p => 1025 - p.1) (0, X) (by simp [sets]) ⟨by simp, .refl xo, rfl, xl, fun _ _ _ _ _ => Nat.zero_le _⟩ ?_
      rintro ⟨n, Z⟩ ⟨n1, z1, z2, z3, z4⟩
      dsimp only at n1 z1 z2 z3 z4 ⊢
      by_cases hn : n < 1025
      · have hn' := eq_true (show (n : Int) < 1025 by omega)
        obtain ⟨Y, D, out, hL, y1, y2, yd, y3, yl, ym⟩ := z0lr hM hsz hmv hc hi' hr' z1.ok (z1.n.trans xn) (z1.bx.trans xb) (by rw [z2]; exact xa) (by rw [z2]; exact xA) hn z3
        have yx := z1.trans y1
        rw [z1.n] at hL
        have yf := zf_of yx.ok yx.n (yx.bx.trans xb)
        have hdy := z_dy yx.ok yx.n yd
        have hdy : blk (mem Y) (num X.N (.dy D)) = some ⟨some 2, prs out, if out = [] then .nul else .live⟩ := hdy
        have hol := zVGk (l := out)
        have ybx := yf.bx
        have hbe : bxOf tt mv nn = [.iface tt mv, .int nn.calls, .int nn.inns, .int nn.rets, .int nn.stack, .int nn.start, bL nn.accept, iLL nn.call, iLL nn.push, iLL nn.inner, iLLL nn.pop] := rfl
        rw [hbe] at ybx
        simp [-zJRc, hn', hL]
        refine zv8C (fun p : Nat × Option (List Int) => [(14, .int p.1), (18, .bool p.2.isSome), (20, wo p.2)]) (fun _ => mem Y) (fun p => p.1 ≤ out.length ∧ Bst1 Y.C.W s (ix gs) out p.1 p.2) (fun p => out.length - p.1) (0, none) (by simp [sets, wo]) ⟨by simp, fun _ j hj => by omega, fun w h => by simp at h⟩ ?_
        rintro ⟨i, o⟩ ⟨i1, i2⟩
        dsimp only at i1 i2 ⊢
        by_cases hi : i < out.length
        · have hone : out ≠ [] := by intro e; rw [e] at hi; simp at hi
          rw [if_neg hone] at hdy
          have p2 := fun (K : AV → Prop) (t : Tk K) => zx37 (l := out) (i := i) (K := K) (t := t) hi
          have hmem := zmAQ (l := out) (n := (i : Int)) (by omega) (by omega)
          obtain ⟨⟨⟨s0, s1⟩, t0, t1⟩, a, ha, hal, haW⟩ := (ym (ix out (i : Int)).1 (ix out (i : Int)).2).1 hmem
          generalize hP : ix out (i : Int) = P at *
          obtain ⟨u, hu⟩ := Int.eq_ofNat_of_zero_le s0
          obtain ⟨v, hv⟩ := Int.eq_ofNat_of_zero_le t0
          have hun : u < X.N := by omega
          have hvn : v < X.N := by omega
          have hun' := eq_true hun
          have hvn' := eq_true hvn
          have hPe : P = ((u : Int), (v : Int)) := Prod.ext hu hv
          subst hPe
          dsimp only at p2 ha haW
          have w2 : blk (mem Y) (num X.N (.wr false u)) = some ⟨none, wrow X.N Y.C.W u, .live⟩ := yf.wr false u hun
          have w5 := zFNI (s := u) (N := X.N) (W := Y.C.W)
          have w6 := zoH3 (s := u) (N := X.N) (W := Y.C.W) hvn
          rw [haW] at w6
          have w6 : elm (wrow X.N Y.C.W u) v = some (.imm true (a.map .int)) := w6
          have w9 := yf.wo false
          have w12 := zCaJ (N := X.N) (g := .wr false)
          have w13 := z2sE (N := X.N) (g := .wr false) hun
          have w14 := yf.box false
          have hvg := eq_true (show (v : Int) < (gs.length : Int) by omega)
          by_cases hus : (u : Int) = (s : Int)
          · have hgo : ∀ o2, Bst1 Y.C.W (s : Int) (ix gs) out (i + 1) o2 → (i + 1 ≤ out.length ∧ Bst1 Y.C.W (s : Int) (ix gs) out (i + 1) o2) := fun o2 h => ⟨by omega, h⟩
            have hus' := eq_true hus
            rw [hus] at ha haW
            have asy := ((zvJ0 hM).1 ha).1.1.sy hM
            cases hgv : ix gs (v : Int) with
            | false =>
              simp [-zJRc, hi, hdy, hol, ↓p2, ybx, w2, w5, w6, w9, w12, w13, w14, hun', hvn', hvg, hus', hgv]
              exact ⟨by omega, zGkM (i + 1, o) (by simp) rfl (hgo o (i2.keep (by rw [hP]; intro _ h; rw [hgv] at h; simp at h))) (by dsimp only; omega)⟩
            | true =>
              have hm' : ((s : Int), (v : Int)) ∈ out := by rw [← hus]; exact hmem
              cases o with
              | none =>
                have ho1 : (none : Option (List Int)).isSome = false := rfl
                simp [-zJRc, hi, hdy, hol, ↓p2, ybx, w2, w5, w6, w9, w12, w13, w14, hun', hvn', hvg, hus', hgv, ho1]
                exact ⟨by omega, zGkM (i + 1, some a) (by simp [wo]) rfl (hgo _ (i2.put (by rw [hP]; exact hm') (by rw [hP]; exact hgv) (by rw [hP]; exact haW) (fun w h => by simp at h))) (by dsimp only; omega)⟩
              | some w =>
                have ho1 : (some w : Option (List Int)).isSome = true := rfl
                have hw0 : wo (some w) = .imm true (w.map .int) := rfl
                obtain ⟨t', h1, h2, h3, h4⟩ := i2.so w rfl
                obtain ⟨⟨_, ht'⟩, a', ha1, ha2, ha3⟩ := (ym (s : Int) t').1 h1
                rw [h3] at ha3; injection ha3 with ha3; subst ha3
                have wsy := ((zvJ0 hM).1 ha1).1.1.sy hM
                have hcm := zXl5 a w (by omega) (by omega)
                have hcm : PC zGKM [.imm false (a.map .int), .imm false (w.map .int)] = some (.int (slxC a w)) := hcm
                by_cases hlt : slxC a w < 0
                · have hlt' := eq_true hlt
                  simp [-zJRc, hi, hdy, hol, ↓p2, ybx, w2, w5, w6, w9, w12, w13, w14, hun', hvn', hvg, hus', hgv, ho1, hw0, hcm, hlt']
                  have hr := zTYO asy wsy hlt
                  exact ⟨by omega, zGkM (i + 1, some a) (by simp [wo]) rfl (hgo _ (i2.put (by rw [hP]; exact hm') (by rw [hP]; exact hgv) (by rw [hP]; exact haW) (fun w' h => by injection h with h; rw [← h]; omega))) (by dsimp only; omega)⟩
                · have hlt' := eq_false hlt
                  simp [-zJRc, hi, hdy, hol, ↓p2, ybx, w2, w5, w6, w9, w12, w13, w14, hun', hvn', hvg, hus', hgv, ho1, hw0, hcm, hlt']
                  have hr : rkW w ≤ rkW a := (z7J5 wsy asy).1 (by have := zvz8.anti a w; omega)
                  exact ⟨by omega, zGkM (i + 1, some w) (by simp [wo]) rfl (hgo _ (i2.keep (by rw [hP]; exact fun _ _ => ⟨w, a, rfl, haW, hr⟩))) (by dsimp only; omega)⟩
          · have hus' := eq_false hus
            simp [-zJRc, hi, hdy, hol, ↓p2, ybx, w2, w5, w6, w9, w12, w13, w14, hun', hvn', hvg, hus']
            exact ⟨by omega, zGkM (i + 1, o) (by simp) rfl ⟨by dsimp only; omega, i2.keep (by rw [hP]; intro h; exact absurd h hus)⟩ (by dsimp only; omega)⟩
        · have : i = out.length := by omega
          subst this
          have idx : ∀ t, (((s : Int), t) ∈ out) → ∃ j : Nat, j < out.length ∧ ix out (j : Int) = ((s : Int), t) := fun t h => by
            obtain ⟨j, hj, e⟩ := List.mem_iff_getElem.1 h
            exact ⟨j, hj, by rw [zrZW hj, e]⟩
          have memb : ∀ t, inS M t → ∀ w, M.lk (s : Int) t = some w → w.length = n → (((s : Int), t) ∈ out) ∧ Y.C.W (s : Int) t = some w := fun t ht w hw hl => by
            have := (y3.c.fin hsin ht hw (by omega)).2
            exact ⟨(ym (s : Int) t).2 ⟨⟨hsin, ht⟩, w, hw, hl, this⟩, this⟩
          cases o with
          | none =>
            have ho1 : (none : Option (List Int)).isSome = false := rfl
            simp [-zJRc, ho1]
            refine ⟨by omega, zGkM (n + 1, Y) (by simp) rfl ⟨by dsimp only; omega, yx, y2.trans z2, y3, fun t ht hgt w hw => ?_⟩ (by dsimp only; omega)⟩
            have h1 := z4 t ht hgt w hw
            refine Classical.byContradiction fun hne => ?_
            obtain ⟨h2, h3⟩ := memb t ht w hw (by dsimp only at hne; omega)
            obtain ⟨j, hj, e⟩ := idx t h2
            exact i2.no rfl j hj hj (by rw [e]) (by rw [e]; exact hgt)
          | some w =>
            have ho1 : (some w : Option (List Int)).isSome = true := rfl
            have hw0 : wo (some w) = .imm true (w.map .int) := rfl
            obtain ⟨t', h1, h2, h3, h4⟩ := i2.so w rfl
            obtain ⟨⟨_, ht'⟩, a', ha1, ha2, ha3⟩ := (ym (s : Int) t').1 h1
            rw [h3] at ha3; injection ha3 with ha3; subst ha3
            have hf := zqB0 hM z4 ht' h2 ha1 ha2 fun u v hu hgu hv hl => by
              obtain ⟨k1, k2⟩ := memb u hu v hv hl
              obtain ⟨j, hj, e⟩ := idx u k1
              exact h4 j v hj hj (by rw [e]) (by rw [e]; exact hgu) (by rw [e]; exact k2)
            have hcl : PC zUHS [.imm false (w.map .int)] = some (.imm false (w.map .int)) := zEsX w (by omega)
            rw [hf]
            simp [-zJRc, ho1, hw0, hcl, fAns]
      · have : n = 1025 := by omega
        subst this
        have hf : M.f1 (s : Int) (ix gs) = none := zHpH hM fun t ht hgt => by
          cases e : M.lk (s : Int) t with
          | none => rfl
          | some w =>
            have h1 := z4 t ht hgt w e
            have h2 := z2ul hM e
            omega
        have hE : M.f1E (s : Int) (ix gs) = 3 := by unfold Mch.f1E; rw [if_pos ⟨hex, hf⟩]
        rw [hf, hE]
        simp [-zJRc, fAns]
end
end Ab
namespace Ab
theorem zcLc {n : Nst} (h : n.Ok) : n.mch.Sm := ⟨ztQm h, by have := h.syms; show n.calls + n.inns + n.rets ≤ 64; omega⟩
end Ab
