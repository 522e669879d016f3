/- The document's first word. Shortest is the document's. Condition: none. -/
import Derived.Test.YtkchnhfeebkogaaN43Dd
set_option linter.all false
set_option maxRecDepth 100000
set_option maxHeartbeats 4000000
namespace Ab
theorem znW3 {α : Type} {f g : α → AV} {rest : List AV} : ∀ {l : List α}, chunk (some 2) l.length ((l.flatMap fun x => [f x, g x]) ++ rest) = l.map fun x => .agg [f x, g x]
  | [] => rfl
  | x :: l => by
    have := znW3 (f := f) (g := g) (rest := rest) (l := l)
    simp only [List.length_cons, List.flatMap_cons, List.map_cons, List.cons_append, List.nil_append, chunk, List.take_succ_cons, List.take_zero, List.drop_succ_cons, List.drop_zero, this]
theorem z7sj {σ : List Blk} {k : Nat} {f : Bool} {o : Option (List Int)} : view σ false (k + 1) (xw f o) = some (iL (o.getD [])) := by
  rcases zjp9 f o with ⟨h, e⟩ | h
  · rw [h, e]; rfl
  · rw [h]; rfl
theorem z8ob {σ : List Blk} {N k s b : Nat} {T : TO} (h : blk σ b = some ⟨some 2, trow N T s, .live⟩) : view σ false (k + 3) (.sl b (2 * N) 0 N) = some (.imm false ((List.range N).map fun (t : Nat) => bw (T (s : Int) (t : Int)))) := by
  have hl := zmBL (N := N) (T := T) (s := s)
  have hu : upto σ b (2 * N) = some ⟨some 2, trow N T s, .live⟩ := by
    unfold upto
    rw [h]
    simp [hl]
  unfold view
  simp only [hu, kst, List.drop_zero, Nat.zero_add]
  rw [if_pos (by rw [hl]; omega)]
  have hc := znW3 (f := fun (t : Nat) => AV.bool (T (s : Int) (t : Int)).isSome) (g := fun (t : Nat) => xw true (T (s : Int) (t : Int))) (rest := []) (l := List.range N)
  rw [List.append_nil, List.length_range] at hc
  have e : chunk (some 2) N (trow N T s) = (List.range N).map fun (t : Nat) => AV.agg [.bool (T (s : Int) (t : Int)).isSome, xw true (T (s : Int) (t : Int))] := hc
  rw [e, zwdp (g := fun (t : Nat) => bw (T (s : Int) (t : Int))) fun t _ => ?_]
  unfold view
  simp only [mapO, z7sj]
  rfl
noncomputable def tabV (n : Nst) : AV := .imm false ((List.range n.accept.length).map fun (s : Nat) => .imm false ((List.range n.accept.length).map fun (t : Nat) => bw (n.mch.lk (s : Int) (t : Int))))
theorem zvgk {n : Nst} (hn : n.Ok) : PC ztWO [n.av] = some (tabV n) := by
  refine zx72 ?_
  obtain ⟨v', σ', h1, junk, rfl, rfl⟩ := LX_s (z3rD hn)
  refine LX_of h1 ?_
  have hst := hn.states
  have hN : stK n.accept.length = .live := by unfold stK; rw [if_neg (by omega)]
  have hv : viewT (lm n n.mch.lk n.accept.length junk) false (.sl 1 n.accept.length 0 n.accept.length) = some (tabV n) := by
    have e : ∀ (σ : List Blk) (b u a l : Nat), viewT σ false (.sl b u a l) = view σ false (11 + 1) (.sl b u a l) := fun _ _ _ _ _ => rfl
    rw [e]
    refine zNcL (f := fun (s : Nat) => AV.sl (2 + s) (2 * n.accept.length) 0 n.accept.length) (g := fun (s : Nat) => .imm false ((List.range n.accept.length).map fun (t : Nat) => bw (n.mch.lk (s : Int) (t : Int)))) (xs := List.range n.accept.length) (st := .live) (by rw [lm_1, hN]; rfl) (by simp) (by simp) fun s hs => ?_
    exact z8ob (k := 8) (lm_r (List.mem_range.1 hs))
  rw [hv]
  rfl
structure Bf (n : Nst) (t : Nat) (o : Option (List Int)) : Prop where
  so : ∀ w, o = some w → ∃ u, inS n.mch u ∧ ix n.accept u = true ∧ n.mch.lk n.start u = some w
  le : ∀ u : Nat, u < t → ix n.accept (u : Int) = true → ∀ v, n.mch.lk n.start (u : Int) = some v → ∃ w, o = some w ∧ rkW w ≤ rkW v
theorem zClM {n : Nst} (hn : n.Ok) : PC z1qE [n.av] = some (fAns (n.mch.f1 n.start (ix n.accept)) (n.mch.f1E n.start (ix n.accept))) := by
  refine zx72 (zpC7 rfl ?_)
  have hl := zvgk hn
  have hc := z8lI n hn
  have hst := hn.states
  have hss := hn.start
  unfold tabV at hl
  simp [-zJRc, hl, hc]
  obtain ⟨s0, hs0⟩ := Int.eq_ofNat_of_zero_le hss.1
  have hsq := z90g (M := n.mch)
  have hsz : n.mch.size = n.accept.length := rfl
  have hrow := hsq.row (s := n.start) hss.1 hss.2
  have hrl := hsq.1
  rw [hsz] at hrow hrl
  have hs1 := eq_true (show n.start < ((conT n.mch).length : Int) by omega)
  have hir : ix (List.range n.accept.length) n.start = s0 := by rw [zFr8 hss.1 hss.2, hs0]; rfl
  have h0s := hss.1
  have hsin : inS n.mch n.start := hss
  generalize hrw : ix (conT n.mch) n.start = row at *
  refine zv8C (fun p : Nat × Bool × Option (List Int) => [(2, .int p.1), (3, .bool (psb row n.accept p.1))]) (fun p => [⟨some 2, [.bool p.2.2.isSome, xw p.2.1 p.2.2], .live⟩]) (fun p => p.1 ≤ n.accept.length ∧ Bf n p.1 p.2.2) (fun p => n.accept.length - p.1) (0, true, none) (by simp [sets, psb, xw]) ⟨by simp, fun w h => by simp at h, fun u h => by dsimp only at h; omega⟩ ?_
  rintro ⟨t, f, o⟩ ⟨t1, t2⟩
  dsimp only at t1 t2 ⊢
  by_cases ht : t < n.accept.length
  · have hta := eq_true (show (t : Int) < (n.accept.length : Int) by omega)
    have htr := eq_true (show (t : Int) < (row.length : Int) by omega)
    have htl := eq_true (show t < (ix (conT n.mch) n.start).length by rw [hrw]; omega)
    have hit : ix (List.range n.accept.length) (t : Int) = t := by rw [zFr8 (by omega) (by omega)]; simp
    have e := zv2S (row := row) (gs := n.accept) (t := t)
    cases ha : ix n.accept (t : Int) with
    | false =>
      rw [ha] at e
      simp at e
      simp [-zJRc, ht, ha]
      exact ⟨by omega, zGkM (t + 1, f, o) (by simp [e]) rfl ⟨by dsimp only; omega, t2.so, fun u hu hau v hv => by
        by_cases e2 : u = t
        · subst e2; rw [ha] at hau; simp at hau
        · exact t2.le u (by dsimp only at hu; omega) hau v hv⟩ (by dsimp only; omega)⟩
    | true =>
      have hti : inS n.mch (t : Int) := ⟨by omega, by show (t : Int) < (n.accept.length : Int); omega⟩
      cases hx : n.mch.lk n.start (t : Int) with
      | none =>
        have hx' : n.mch.lk (s0 : Int) (t : Int) = none := by rw [← hs0]; exact hx
        have goal : t + 1 ≤ n.accept.length ∧ Bf n (t + 1) o := ⟨by omega, t2.so, fun u hu hau v hv => by
          by_cases e2 : u = t
          · subst e2; rw [hx] at hv; simp at hv
          · exact t2.le u (by omega) hau v hv⟩
        rw [ha] at e
        cases h1 : psb row n.accept t <;> cases h2 : ix row (t : Int) <;> rw [h1, h2] at e <;> simp at e <;> simp [-zJRc, ht, ha, hs1, h0s, hir, hit, hx', bw, htr, htl, hrw, h1, h2, hss.2] <;> exact ⟨by omega, zGkM (t + 1, f, o) (by simp [e, bw]) rfl goal (by dsimp only; omega)⟩
      | some y =>
        have hx' : n.mch.lk (s0 : Int) (t : Int) = some y := by rw [← hs0]; exact hx
        have hsm := zcLc hn
        have ysy := ((zvJ0 hsm).1 hx).1.1.sy hsm
        have yl := z2ul hsm hx
        have ol : ∀ x, o = some x → sy x ∧ x.length ≤ 1024 := fun x h => by
          obtain ⟨u, _, _, u3⟩ := t2.so x h
          exact ⟨((zvJ0 hsm).1 u3).1.1.sy hsm, z2ul hsm u3⟩
        have hb := zbGx o y (fun x h => by have := (ol x h).2; omega) (by omega)
        have hb : PC zZwr [.agg [.bool o.isSome, .imm false ((o.getD []).map .int)], .imm false (y.map .int)] = some (.agg [.bool (btr o y).isSome, xw false (btr o y)]) := by
          rw [xw_f]; exact hb
        have goal : t + 1 ≤ n.accept.length ∧ Bf n (t + 1) (btr o y) := ⟨by omega, fun w hw => by
          rcases zmbV hw with hw | ⟨rfl, _⟩
          · exact t2.so w hw
          · exact ⟨(t : Int), hti, ha, hx⟩, fun u hu hau v hv => by
          by_cases e2 : u = t
          · subst e2
            rw [hx] at hv; injection hv with hv
            subst hv
            exact zo6B (fun x h => (ol x h).1) ysy yl
          · obtain ⟨w, hw, hr⟩ := t2.le u (by omega) hau v hv
            obtain ⟨z, hz, hr2⟩ := zvKs (ol w hw).1 ysy hw
            exact ⟨z, hz, by omega⟩⟩
        rw [ha] at e
        cases h1 : psb row n.accept t <;> cases h2 : ix row (t : Int) <;> rw [h1, h2] at e <;> simp at e <;> simp [-zJRc, ht, ha, hs1, h0s, hir, hit, hx', bw, htr, htl, hrw, h1, h2, hss.2, zNSv, zxGU, z4wh, zS24, zquH, hb] <;> exact ⟨by omega, zGkM (t + 1, false, btr o y) (by simp [e, bw]) rfl goal (by dsimp only; omega)⟩
  · have : t = n.accept.length := by omega
    subst this
    have hsm := zcLc hn
    have hps : psb row n.accept n.accept.length = true ↔ ∃ t, inS n.mch t ∧ ix n.accept t = true ∧ Conn n.mch n.start t := by
      rw [psb_t]
      constructor
      · rintro ⟨t, h1, h2, h3⟩
        exact ⟨t, h1, h3, (z4iI hss.1 hss.2 h1.1 h1.2).1 (by rw [hrw]; exact h2)⟩
      · rintro ⟨t, h1, h3, h2⟩
        exact ⟨t, h1, by rw [← hrw]; exact (z4iI hss.1 hss.2 h1.1 h1.2).2 h2, h3⟩
    have lee : ∀ u, inS n.mch u → ix n.accept u = true → ∀ v, n.mch.lk n.start u = some v → ∃ w, o = some w ∧ rkW w ≤ rkW v := fun u hu hau v hv => by
      obtain ⟨u, rfl⟩ := Int.eq_ofNat_of_zero_le hu.1
      have h2 := hu.2
      simp only [Nst.mch] at h2
      exact t2.le u (by omega) hau v hv
    cases o with
    | none =>
      have hf : n.mch.f1 n.start (ix n.accept) = none := zHpH hsm fun t ht hgt => by
        cases e : n.mch.lk n.start t with
        | none => rfl
        | some w =>
          obtain ⟨w', h1, _⟩ := lee t ht hgt w e
          simp at h1
      cases hp : psb row n.accept n.accept.length with
      | true =>
        have hE : n.mch.f1E n.start (ix n.accept) = 3 := by unfold Mch.f1E; rw [if_pos ⟨hps.1 hp, hf⟩]
        rw [hf, hE]
        simp [-zJRc, hp, fAns]
      | false =>
        have hE : n.mch.f1E n.start (ix n.accept) = 0 := by unfold Mch.f1E; rw [if_neg fun h => by rw [hps.2 h.1] at hp; simp at hp]
        have hj : PC z4HM [.imm false [xw f none]] = some (.imm false []) := by
          have := zhCc [(f, [])] (by simp) (by simp)
          have e2 : xw f none = wB (f, []) := by cases f <;> rfl
          rw [e2]; exact this
        rw [hf, hE]
        simp [-zJRc, hp, fAns, zNSv, zxGU, z4wh, zS24, hj]
    | some w =>
      obtain ⟨u, u1, u2, u3⟩ := t2.so w rfl
      have hf := zhOI hsm u1 u2 u3 fun a v ha hga hv => by
        obtain ⟨w', h1, h2⟩ := lee a ha hga v hv
        injection h1 with h1
        rw [h1]; exact h2
      have hwl := z2ul hsm u3
      have hj : PC z4HM [.imm false [xw f (some w)]] = some (.imm false (w.map .int)) := by
        have := zhCc [(f, w)] (by simp) (by simp; omega)
        have e2 : ([(f, w)].map (·.2)).flatten = w := by simp
        rw [e2] at this
        exact this
      rw [hf]
      cases hp : psb row n.accept n.accept.length <;> simp [-zJRc, hp, fAns, zNSv, zxGU, z4wh, zS24, hj]
end Ab
namespace Ab
theorem zNCz (n : Nst) (h : n.fits) : PC z19o [n.av] = some n.shA := by
  refine zx72 (zwv3 rfl ?_)
  have e1 := zwfm n h
  unfold Nst.shA
  by_cases hv : n.validE = 0
  · have hf := zClM (zdZr hv)
    rw [if_pos hv]
    cases hm : n.mch.f1 n.start (ix n.accept) with
    | none => rw [hm] at hf; simp [-zJRc, e1, hv, hf, fAns]
    | some w => rw [hm] at hf; simp [-zJRc, e1, hv, hf, fAns]
  · rw [if_neg hv]
    simp [-zJRc, e1, hv]
theorem ziL1 (aw : PC zfV6 [] = some (.bool true)) (n : Nst) (h : n.fits) : PC za6K [n.av] = some (.bool true) := by
  refine zx72 (zZdv rfl ?_)
  cases hs : n.small with
  | false => simp [zL6e n h, hs, aw]
  | true =>
    have hS := zLZI n h
    have hR := zNCz n h
    have key : ∃ (l : List Int) (b : Bool) (e : Int), n.shA = .tup [iL l, .bool b, .int e] ∧ l.length ≤ 1024 := by
      rcases zoQ6 n with ⟨e, he, hA⟩ | ⟨hv, hf, hE, hA⟩ | ⟨hv, u, hf, hA⟩
      · exact ⟨[], false, e, hA, by simp⟩
      · exact ⟨[], false, 0, hA, by simp⟩
      · exact ⟨u, true, 0, hA, (zDGF hf).1.2⟩
    obtain ⟨l, b, e, hA, hl⟩ := key
    rw [hA] at hS hR
    have hI := z0mX l l (by omega) (by omega)
    simp [zL6e n h, hs, hS, hR, hI, aw]
end Ab
