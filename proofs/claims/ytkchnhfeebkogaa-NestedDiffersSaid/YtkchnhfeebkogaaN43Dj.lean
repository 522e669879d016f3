/- The document's first word. The document's product: what is popped. The document's product. The document's Differ, and that it is the program's. Condition: none. -/
import Derived.Test.YtkchnhfeebkogaaN43Dd
import Derived.Test.YtkchnhfeebkogaaN43Na
set_option linter.all false
set_option maxRecDepth 100000
set_option maxHeartbeats 4000000
namespace Ab
theorem znW3 {α : Type} {f g : α → AV} {rest : List AV} : ∀ {l : List α}, chunk (some 2) l.length ((l.flatMap fun x => [f x, g x]) ++ rest) = l.map fun x => .agg [f x, g x]
  | [] => rfl
  | x :: l => by
    have := znW3 (f := f) (g := g) (rest := rest) (l := l)
    simp only [List.length_cons, List.flatMap_cons, List.map_cons, List.cons_append, List.nil_append, chunk, List.take_succ_cons, List.take_zero, List.drop_succ_cons, List.drop_zero, this]
theorem z7sj {σ : List Blk} {k : Nat} {f : Bool} {o : Option (List Int)} : view σ false (k + 1) (xw f o) = some (iL (o.getD [])) := by
  rcases zjp9 f o with ⟨h, e⟩ | h
  · rw [h, e]; rfl
  · rw [h]; rfl
theorem z8ob {σ : List Blk} {N k s b : Nat} {T : TO} (h : blk σ b = some ⟨some 2, trow N T s, .live⟩) : view σ false (k + 3) (.sl b (2 * N) 0 N) = some (.imm false ((List.range N).map fun (t : Nat) => bw (T (s : Int) (t : Int)))) := by
  have hl := zmBL (N := N) (T := T) (s := s)
  have hu : upto σ b (2 * N) = some ⟨some 2, trow N T s, .live⟩ := by
    unfold upto
    rw [h]
    simp [hl]
  unfold view
  simp only [hu, kst, List.drop_zero, Nat.zero_add]
  rw [if_pos (by rw [hl]; omega)]
  have hc := znW3 (f := fun (t : Nat) => AV.bool (T (s : Int) (t : Int)).isSome) (g := fun (t : Nat) => xw true (T (s : Int) (t : Int))) (rest := []) (l := List.range N)
  rw [List.append_nil, List.length_range] at hc
  have e : chunk (some 2) N (trow N T s) = (List.range N).map fun (t : Nat) => AV.agg [.bool (T (s : Int) (t : Int)).isSome, xw true (T (s : Int) (t : Int))] := hc
  rw [e, zwdp (g := fun (t : Nat) => bw (T (s : Int) (t : Int))) fun t _ => ?_]
  unfold view
  simp only [mapO, z7sj]
  rfl
noncomputable def tabV (n : Nst) : AV := .imm false ((List.range n.accept.length).map fun (s : Nat) => .imm false ((List.range n.accept.length).map fun (t : Nat) => bw (n.mch.lk (s : Int) (t : Int))))
theorem zvgk {n : Nst} (hn : n.Ok) : PC ztWO [n.av] = some (tabV n) := by
  refine zx72 ?_
  obtain ⟨v', σ', h1, junk, rfl, rfl⟩ := LX_s (z3rD hn)
  refine LX_of h1 ?_
  have hst := hn.states
  have hN : stK n.accept.length = .live := by unfold stK; rw [if_neg (by omega)]
  have hv : viewT (lm n n.mch.lk n.accept.length junk) false (.sl 1 n.accept.length 0 n.accept.length) = some (tabV n) := by
    have e : ∀ (σ : List Blk) (b u a l : Nat), viewT σ false (.sl b u a l) = view σ false (11 + 1) (.sl b u a l) := fun _ _ _ _ _ => rfl
    rw [e]
    refine zNcL (f := fun (s : Nat) => AV.sl (2 + s) (2 * n.accept.length) 0 n.accept.length) (g := fun (s : Nat) => .imm false ((List.range n.accept.length).map fun (t : Nat) => bw (n.mch.lk (s : Int) (t : Int)))) (xs := List.range n.accept.length) (st := .live) (by rw [lm_1, hN]; rfl) (by simp) (by simp) fun s hs => ?_
    exact z8ob (k := 8) (lm_r (List.mem_range.1 hs))
  rw [hv]
  rfl
structure Bf (n : Nst) (t : Nat) (o : Option (List Int)) : Prop where
  so : ∀ w, o = some w → ∃ u, inS n.mch u ∧ ix n.accept u = true ∧ n.mch.lk n.start u = some w
  le : ∀ u : Nat, u < t → ix n.accept (u : Int) = true → ∀ v, n.mch.lk n.start (u : Int) = some v → ∃ w, o = some w ∧ rkW w ≤ rkW v
theorem zClM {n : Nst} (hn : n.Ok) : PC z1qE [n.av] = some (fAns (n.mch.f1 n.start (ix n.accept)) (n.mch.f1E n.start (ix n.accept))) := by
  refine zx72 (zpC7 rfl ?_)
  have hl := zvgk hn
  have hc := z8lI n hn
  have hst := hn.states
  have hss := hn.start
  unfold tabV at hl
  simp [-zJRc, hl, hc]
  obtain ⟨s0, hs0⟩ := Int.eq_ofNat_of_zero_le hss.1
  have hsq := z90g (M := n.mch)
  have hsz : n.mch.size = n.accept.length := rfl
  have hrow := hsq.row (s := n.start) hss.1 hss.2
  have hrl := hsq.1
  rw [hsz] at hrow hrl
  have hs1 := eq_true (show n.start < ((conT n.mch).length : Int) by omega)
  have hir : ix (List.range n.accept.length) n.start = s0 := by rw [zFr8 hss.1 hss.2, hs0]; rfl
  have h0s := hss.1
  have hsin : inS n.mch n.start := hss
  generalize hrw : ix (conT n.mch) n.start = row at *
  refine zv8C (fun p : Nat × Bool × Option (List Int) => [(2, .int p.1), (3, .bool (psb row n.accept p.1))]) (fun p => [⟨some 2, [.bool p.2.2.isSome, xw p.2.1 p.2.2], .live⟩]) (fun p => p.1 ≤ n.accept.length ∧ Bf n p.1 p.2.2) (fun p => n.accept.length - p.1) (0, true, none) (by simp [sets, psb, xw]) ⟨by simp, fun w h => by simp at h, fun u h => by dsimp only at h; omega⟩ ?_
  rintro ⟨t, f, o⟩ ⟨t1, t2⟩
  dsimp only at t1 t2 ⊢
  by_cases ht : t < n.accept.length
  · have hta := eq_true (show (t : Int) < (n.accept.length : Int) by omega)
    have htr := eq_true (show (t : Int) < (row.length : Int) by omega)
    have htl := eq_true (show t < (ix (conT n.mch) n.start).length by rw [hrw]; omega)
    have hit : ix (List.range n.accept.length) (t : Int) = t := by rw [zFr8 (by omega) (by omega)]; simp
    have e := zv2S (row := row) (gs := n.accept) (t := t)
    cases ha : ix n.accept (t : Int) with
    | false =>
      rw [ha] at e
      simp at e
      simp [-zJRc, ht, ha]
      exact ⟨by omega, zGkM (t + 1, f, o) (by simp [e]) rfl ⟨by dsimp only; omega, t2.so, fun u hu hau v hv => by
        by_cases e2 : u = t
        · subst e2; rw [ha] at hau; simp at hau
        · exact t2.le u (by dsimp only at hu; omega) hau v hv⟩ (by dsimp only; omega)⟩
    | true =>
      have hti : inS n.mch (t : Int) := ⟨by omega, by show (t : Int) < (n.accept.length : Int); omega⟩
      cases hx : n.mch.lk n.start (t : Int) with
      | none =>
        have hx' : n.mch.lk (s0 : Int) (t : Int) = none := by rw [← hs0]; exact hx
        have goal : t + 1 ≤ n.accept.length ∧ Bf n (t + 1) o := ⟨by omega, t2.so, fun u hu hau v hv => by
          by_cases e2 : u = t
          · subst e2; rw [hx] at hv; simp at hv
          · exact t2.le u (by omega) hau v hv⟩
        rw [ha] at e
        cases h1 : psb row n.accept t <;> cases h2 : ix row (t : Int) <;> rw [h1, h2] at e <;> simp at e <;> simp [-zJRc, ht, ha, hs1, h0s, hir, hit, hx', bw, htr, htl, hrw, h1, h2, hss.2] <;> exact ⟨by omega, zGkM (t + 1, f, o) (by simp [e, bw]) rfl goal (by dsimp only; omega)⟩
      | some y =>
        have hx' : n.mch.lk (s0 : Int) (t : Int) = some y := by rw [← hs0]; exact hx
        have hsm := zcLc hn
        have ysy := ((zvJ0 hsm).1 hx).1.1.sy hsm
        have yl := z2ul hsm hx
        have ol : ∀ x, o = some x → sy x ∧ x.length ≤ 1024 := fun x h => by
          obtain ⟨u, _, _, u3⟩ := t2.so x h
          exact ⟨((zvJ0 hsm).1 u3).1.1.sy hsm, z2ul hsm u3⟩
        have hb := zbGx o y (fun x h => by have := (ol x h).2; omega) (by omega)
        have hb : PC zZwr [.agg [.bool o.isSome, .imm false ((o.getD []).map .int)], .imm false (y.map .int)] = some (.agg [.bool (btr o y).isSome, xw false (btr o y)]) := by
          rw [xw_f]; exact hb
        have goal : t + 1 ≤ n.accept.length ∧ Bf n (t + 1) (btr o y) := ⟨by omega, fun w hw => by
          rcases zmbV hw with hw | ⟨rfl, _⟩
          · exact t2.so w hw
          · exact ⟨(t : Int), hti, ha, hx⟩, fun u hu hau v hv => by
          by_cases e2 : u = t
          · subst e2
            rw [hx] at hv; injection hv with hv
            subst hv
            exact zo6B (fun x h => (ol x h).1) ysy yl
          · obtain ⟨w, hw, hr⟩ := t2.le u (by omega) hau v hv
            obtain ⟨z, hz, hr2⟩ := zvKs (ol w hw).1 ysy hw
            exact ⟨z, hz, by omega⟩⟩
        rw [ha] at e
        cases h1 : psb row n.accept t <;> cases h2 : ix row (t : Int) <;> rw [h1, h2] at e <;> simp at e <;> simp [-zJRc, ht, ha, hs1, h0s, hir, hit, hx', bw, htr, htl, hrw, h1, h2, hss.2, zNSv, zxGU, z4wh, zS24, zquH, hb] <;> exact ⟨by omega, zGkM (t + 1, false, btr o y) (by simp [e, bw]) rfl goal (by dsimp only; omega)⟩
  · have : t = n.accept.length := by omega
    subst this
    have hsm := zcLc hn
    have hps : psb row n.accept n.accept.length = true ↔ ∃ t, inS n.mch t ∧ ix n.accept t = true ∧ Conn n.mch n.start t := by
      rw [psb_t]
      constructor
      · rintro ⟨t, h1, h2, h3⟩
        exact ⟨t, h1, h3, (z4iI hss.1 hss.2 h1.1 h1.2).1 (by rw [hrw]; exact h2)⟩
      · rintro ⟨t, h1, h3, h2⟩
        exact ⟨t, h1, by rw [← hrw]; exact (z4iI hss.1 hss.2 h1.1 h1.2).2 h2, h3⟩
    have lee : ∀ u, inS n.mch u → ix n.accept u = true → ∀ v, n.mch.lk n.start u = some v → ∃ w, o = some w ∧ rkW w ≤ rkW v := fun u hu hau v hv => by
      obtain ⟨u, rfl⟩ := Int.eq_ofNat_of_zero_le hu.1
      have h2 := hu.2
      simp only [Nst.mch] at h2
      exact t2.le u (by omega) hau v hv
    cases o with
    | none =>
      have hf : n.mch.f1 n.start (ix n.accept) = none := zHpH hsm fun t ht hgt => by
        cases e : n.mch.lk n.start t with
        | none => rfl
        | some w =>
          obtain ⟨w', h1, _⟩ := lee t ht hgt w e
          simp at h1
      cases hp : psb row n.accept n.accept.length with
      | true =>
        have hE : n.mch.f1E n.start (ix n.accept) = 3 := by unfold Mch.f1E; rw [if_pos ⟨hps.1 hp, hf⟩]
        rw [hf, hE]
        simp [-zJRc, hp, fAns]
      | false =>
        have hE : n.mch.f1E n.start (ix n.accept) = 0 := by unfold Mch.f1E; rw [if_neg fun h => by rw [hps.2 h.1] at hp; simp at hp]
        have hj : PC z4HM [.imm false [xw f none]] = some (.imm false []) := by
          have := zhCc [(f, [])] (by simp) (by simp)
          have e2 : xw f none = wB (f, []) := by cases f <;> rfl
          rw [e2]; exact this
        rw [hf, hE]
        simp [-zJRc, hp, fAns, zNSv, zxGU, z4wh, zS24, hj]
    | some w =>
      obtain ⟨u, u1, u2, u3⟩ := t2.so w rfl
      have hf := zhOI hsm u1 u2 u3 fun a v ha hga hv => by
        obtain ⟨w', h1, h2⟩ := lee a ha hga v hv
        injection h1 with h1
        rw [h1]; exact h2
      have hwl := z2ul hsm u3
      have hj : PC z4HM [.imm false [xw f (some w)]] = some (.imm false (w.map .int)) := by
        have := zhCc [(f, w)] (by simp) (by simp; omega)
        have e2 : ([(f, w)].map (·.2)).flatten = w := by simp
        rw [e2] at this
        exact this
      rw [hf]
      cases hp : psb row n.accept n.accept.length <;> simp [-zJRc, hp, fAns, zNSv, zxGU, z4wh, zS24, hj]
end Ab
namespace Ab
def pmS (K : Nat) (R : List (List Int)) : List Blk := ⟨none, (List.range R.length).map fun i => .sl (1 + i) K 0 K, stK R.length⟩ :: R.map louI
def pRows (a b : Nst) (s m : Nat) : List (List Int) := (List.range m).map (prPopR a b s)
theorem zcO2 {a b : Nst} {s m : Nat} : pRows a b s (m + 1) = pRows a b s m ++ [prPopR a b s m] := by simp [pRows, List.range_succ]
theorem zLGF {a b : Nst} {s m : Nat} : (pRows a b s m).length = m := by simp [pRows]
section
variable {K : Nat} {R : List (List Int)}
theorem zQE7 : (pmS K R).length = 1 + R.length := by simp [pmS]; omega
theorem pmS_0 {l : List Blk} : blk (pmS K R ++ l) 0 = some ⟨none, (List.range R.length).map fun i => .sl (1 + i) K 0 K, stK R.length⟩ := rfl
theorem zjOO {r : List Int} : setB (pmS K R ++ [louI r]) 0 ⟨none, ((List.range R.length).map fun i => AV.sl (1 + i) K 0 K) ++ [.sl (1 + R.length) K 0 K], .live⟩ = pmS K (R ++ [r]) := by
  unfold pmS stK
  simp [setB, List.range_succ]
theorem zfLJ (hR : ∀ r ∈ R, r.length = K) : view (pmS K R) false vd (.sl 0 R.length 0 R.length) = some (iLL R) := by
  have hs : (stK R.length).isArr = true := by unfold stK; split <;> rfl
  have e : R.map iL = (List.range R.length).map fun (i : Nat) => iL (ix R (i : Int)) := by
    apply List.ext_getElem
    · simp
    · intro i h1 h2
      simp at h1
      simp [zrZW h1]
  show view _ false (11 + 1) _ = some (.imm false (R.map iL))
  rw [e]
  refine zNcL (f := fun i => AV.sl (1 + i) K 0 K) (xs := List.range R.length) (st := stK R.length) rfl hs (by simp) fun i hi => ?_
  have hi := List.mem_range.1 hi
  have hb : blk (pmS K R) (1 + i) = some (louI (ix R (i : Int))) := by
    rw [zzWB, show 1 + i = i + 1 by omega]
    unfold pmS
    rw [List.getElem?_cons_succ]
    simp [hi, zrZW hi]
  have hl := hR (ix R (i : Int)) (zmAQ (by omega) (by omega))
  exact zxF7 (k := 10) (f := AV.int) (g := AV.int) (xs := ix R (i : Int)) hb (by split <;> rfl) hl.symm fun _ _ => rfl
end
theorem z9wB {a b : Nst} (h : PrOk a b) {x y s : Nat} (hs : s < prN a b) (hx : x = s / prK b) (hy : y = s % prK b) : PC zR5N [a.av, b.av, .int x, .int y] = some (iLL (prPop a b s)) := by
  refine zx72 (zO3d rfl ?_)
  obtain ⟨hxl, hyl⟩ := h.xy (s := (s : Int)) (by omega) (by omega)
  rw [Int.toNat_natCast, ← hx] at hxl
  rw [Int.toNat_natCast, ← hy] at hyl
  have hga := h.oa.stack
  have hgb := h.ob.stack
  have hra := h.oa.rets
  obtain ⟨ga, hGa⟩ := Int.eq_ofNat_of_zero_le (show 0 ≤ a.stack by omega)
  obtain ⟨gb, hGb⟩ := Int.eq_ofNat_of_zero_le (show 0 ≤ b.stack by omega)
  obtain ⟨K, hK⟩ := Int.eq_ofNat_of_zero_le hra.1
  simp [-zJRc]
  refine zv8C (fun g : Nat => [(4, .int g), (10, .sl 0 (g * gb) 0 (g * gb))]) (fun g => pmS K (pRows a b s (g * gb))) (fun g => g ≤ ga) (fun g => ga - g) 0 (by simp [sets, pRows, pmS, stK]) (by simp) ?_
  intro g g1
  by_cases hg : g < ga
  · have hgl := eq_true (show (g : Int) < a.stack by omega)
    simp [-zJRc, hgl]
    refine zv8C (fun k : Nat => [(6, .int k), (10, .sl 0 (g * gb + k) 0 (g * gb + k))]) (fun k => pmS K (pRows a b s (g * gb + k))) (fun k => k ≤ gb) (fun k => gb - k) 0 (by simp [sets]) (by simp) ?_
    intro k k1
    by_cases hk : k < gb
    · have hkl := eq_true (show (k : Int) < b.stack by omega)
      have hlen := zQE7 (K := K) (R := pRows a b s (g * gb + k))
      rw [zLGF] at hlen
      simp [-zJRc, hkl, hlen]
      have hmd : (g * gb + k) / gb = g := by rw [Nat.mul_comm, Nat.mul_add_div (by omega), Nat.div_eq_of_lt hk, Nat.add_zero]
      have hmm : (g * gb + k) % gb = k := by rw [Nat.mul_comm, Nat.mul_add_mod, Nat.mod_eq_of_lt hk]
      have hgt : b.stack.toNat = gb := by omega
      have hmB : g * gb + k + 1 ≤ 128 * 128 := by
        have : g * gb ≤ 127 * 128 := Nat.mul_le_mul (by omega) (by omega)
        omega
      have rowE : prPopR a b s (g * gb + k) = (List.range K).map fun (r : Nat) => ix (ix (ix a.pop (x : Int)) (g : Int)) (r : Int) * (prK b : Int) + ix (ix (ix b.pop (y : Int)) (k : Int)) (r : Int) := by
        unfold prPopR
        rw [hgt, hmd, hmm, ← hx, ← hy, show a.rets.toNat = K by omega]
      have hRs := zcO2 (a := a) (b := b) (s := s) (m := g * gb + k)
      have hRl := zLGF (a := a) (b := b) (s := s) (m := g * gb + k)
      generalize prPopR a b s (g * gb + k) = row at *
      generalize pRows a b s (g * gb + k) = R at *
      have hrl : row.length = K := by rw [rowE]; simp
      generalize hm : g * gb + k = m at *
      have b0 := fun l : List Int => pmS_0 (K := K) (R := R) (l := [louI l])
      have bA := fun l : List Int => znKw (σ := pmS K R) (B := louI l) (n := 1 + m) hlen.symm
      have bS := fun (l : List Int) (B : Blk) => zVhL (σ := pmS K R) (τ := [louI l]) (k := 0) (B := B)
      simp only [Nat.add_zero, hlen, List.set_cons_zero] at bS
      refine zv8C (fun r : Nat => [(8, .int r), (9, .sl (1 + m) r 0 r)]) (fun r => pmS K R ++ [louI (row.take r)]) (fun r => r ≤ K) (fun r => K - r) 0 (by simp [sets]) (by simp) ?_
      intro r r1
      by_cases hr : r < K
      · have hrr := eq_true (show (r : Int) < a.rets by omega)
        have la := h.oa.lens
        have lb := h.ob.lens
        have ra := h.oa.row (x : Int) (by omega) hxl
        have rb := h.ob.row (y : Int) (by omega) hyl
        have pa := h.oa.popl (x : Int) (g : Int) (by omega) hxl (by omega) (by omega)
        have pb := h.ob.popl (y : Int) (k : Int) (by omega) hyl (by omega) (by omega)
        have hcr := h.r
        have va := h.oa.pop (x : Int) (g : Int) (r : Int) (by omega) hxl (by omega) (by omega) (by omega) (by omega)
        have vb := h.ob.pop (y : Int) (k : Int) (r : Int) (by omega) hyl (by omega) (by omega) (by omega) (by omega)
        have a1 := eq_true (show (x : Int) < (a.pop.length : Int) by omega)
        have a2 := eq_true (show (g : Int) < ((ix a.pop (x : Int)).length : Int) by omega)
        have a3 := eq_true (show (r : Int) < ((ix (ix a.pop (x : Int)) (g : Int)).length : Int) by omega)
        have b1 := eq_true (show (y : Int) < (b.pop.length : Int) by omega)
        have b2 := eq_true (show (k : Int) < ((ix b.pop (y : Int)).length : Int) by omega)
        have b3 := eq_true (show (r : Int) < ((ix (ix b.pop (y : Int)) (k : Int)).length : Int) by omega)
        have hpl := zAqx va vb
        have hnn := Int.mul_nonneg va.1 (show 0 ≤ (b.accept.length : Int) by omega)
        have hn128 := h.n
        have hmI : ((a.accept.length : Int) * (b.accept.length : Int)) = ((a.accept.length * b.accept.length : Nat) : Int) := by rw [Int.natCast_mul]
        rw [hmI] at hpl
        have hix : ix row (r : Int) = ix (ix (ix a.pop (x : Int)) (g : Int)) (r : Int) * (b.accept.length : Int) + ix (ix (ix b.pop (y : Int)) (k : Int)) (r : Int) := by
          rw [rowE, zrZW (by simp; exact hr)]; simp [prK]
        have tk : row.take (r + 1) = row.take r ++ [ix row (r : Int)] := by
          rw [List.take_add_one, List.getElem?_eq_getElem (by omega), zrZW (by omega)]; rfl
        have tl : (row.take r).length = r := by simp; omega
        have hgo : pmS K R ++ [⟨none, ((row.take r).map AV.int) ++ [.int (ix row (r : Int))], .live⟩] = pmS K R ++ [louI (row.take (r + 1))] := by
          rw [tk]; simp
        rw [hix] at hgo
        have bd1 : -9223372036854775808 ≤ ix (ix (ix a.pop (x : Int)) (g : Int)) (r : Int) * (b.accept.length : Int) ∧ ix (ix (ix a.pop (x : Int)) (g : Int)) (r : Int) * (b.accept.length : Int) ≤ 9223372036854775807 := by omega
        have bd2 : -9223372036854775808 ≤ ix (ix (ix a.pop (x : Int)) (g : Int)) (r : Int) * (b.accept.length : Int) + ix (ix (ix b.pop (y : Int)) (k : Int)) (r : Int) ∧ ix (ix (ix a.pop (x : Int)) (g : Int)) (r : Int) * (b.accept.length : Int) + ix (ix (ix b.pop (y : Int)) (k : Int)) (r : Int) ≤ 9223372036854775807 := by omega
        generalize hT : row.take r = T at *
        have bA := bA T
        have bS := bS T
        simp [-zJRc, hrr, a1, a2, a3, b1, b2, b3, bA, bS, tl, bd1, bd2, hgo]
        exact ⟨by split <;> rfl, by omega, by omega, zGkM (r + 1) (by simp) rfl (by omega) (by omega)⟩
      · have : r = K := by omega
        subst this
        have hrr := eq_false (show ¬ (r : Int) < a.rets by omega)
        have etk : row.take r = row := List.take_of_length_le (by omega)
        rw [etk]
        have b0 := b0 row
        have hpush := zjOO (K := r) (R := R) (r := row)
        rw [hRl] at hpush b0
        simp [-zJRc, hrr, b0, hpush, hRl]
        have e1 : g * gb + (k + 1) = m + 1 := by omega
        exact ⟨by unfold stK; split <;> rfl, by omega, by omega, zGkM (k + 1) (by simp [e1]) (by rw [e1, hRs]) (by omega) (by omega)⟩
    · have : k = gb := by omega
      subst this
      have hkl := eq_false (show ¬ (k : Int) < b.stack by omega)
      simp [-zJRc, hkl]
      have e1 : (g + 1) * k = g * k + k := Nat.succ_mul g k
      exact ⟨by omega, zGkM (g + 1) (by simp [e1]) (by rw [e1]) (by omega) (by omega)⟩
  · have : g = ga := by omega
    subst this
    have hgl := eq_false (show ¬ (g : Int) < a.stack by omega)
    have hv := zfLJ (K := K) (R := pRows a b s (g * gb)) (fun r hr => by
      simp only [pRows, List.mem_map] at hr
      obtain ⟨m, _, rfl⟩ := hr
      simp [prPopR]; omega)
    rw [zLGF] at hv
    simp [-zJRc, hgl, hv]
    have e1 : pRows a b s (g * gb) = prPop a b s := by
      unfold pRows prPop
      rw [show a.stack.toNat = g by omega, show b.stack.toNat = gb by omega]
    rw [e1]
end Ab
namespace Ab
def pcA (j : Nat) : Nat := if j = 0 then 2 else 7 + 3 * j
def pcB (j : Nat) : Nat := if j = 0 then 3 else 8 + 3 * j
def pcC (j : Nat) : Nat := if j = 0 then 4 else 9 + 3 * j
def rfp (p : Nat → Nat) (i K : Nat) : List AV := (List.range i).map fun j => .sl (p j) K 0 K
def pdm (a b : Nst) (i : Nat) : List Blk :=
  if i = 0 then [⟨some 10, [.int 0, .int 0, .int 0, .int 0, .int 0, .snil, .snil, .snil, .snil, .snil], .live⟩, ⟨some 10, [.int a.calls, .int a.inns, .int a.rets, .int (a.stack * b.stack), .int (a.start * (b.accept.length : Int) + b.start), .snil, .snil, .snil, .snil, .snil], .live⟩]
  else ⟨some 10, [.int 0, .int 0, .int 0, .int 0, .int 0, .snil, .snil, .snil, .snil, .snil], .live⟩ :: ⟨some 10, [.int a.calls, .int a.inns, .int a.rets, .int (a.stack * b.stack), .int (a.start * (b.accept.length : Int) + b.start), .sl 5 i 0 i, .sl 6 i 0 i, .sl 7 i 0 i, .sl 8 i 0 i, .sl 9 i 0 i], .live⟩ :: louI (prCall a b 0) :: louI (prPush a b 0) :: louI (prInn a b 0) :: ⟨none, ((List.range i).map (prAcc a b)).map .bool, .live⟩ :: ⟨none, rfp pcA i a.calls.toNat, .live⟩ :: ⟨none, rfp pcB i a.calls.toNat, .live⟩ :: ⟨none, rfp pcC i a.inns.toNat, .live⟩ :: ⟨none, (List.range i).map (fun j => iLL (prPop a b j)), .live⟩ :: (List.range (i - 1)).flatMap fun j => [louI (prCall a b (j + 1)), louI (prPush a b (j + 1)), louI (prInn a b (j + 1))]
def pdL (i : Nat) : Nat := if i = 0 then 2 else 7 + 3 * i
theorem zSnH {α : Type} {f g h : α → Blk} : ∀ {l : List α}, (l.flatMap fun x => [f x, g x, h x]).length = 3 * l.length
  | [] => rfl
  | p :: l => by
    have := zSnH (f := f) (g := g) (h := h) (l := l)
    simp only [List.flatMap_cons, List.length_append, List.length_cons, List.length_nil] at this ⊢; omega
theorem ztdR {a b : Nst} {i : Nat} : (pdm a b i).length = pdL i := by
  unfold pdm pdL
  split
  · rfl
  · simp only [List.length_cons, zSnH, List.length_range]; omega
theorem blk_k {σ τ : List Blk} {k : Nat} : blk (σ ++ τ) (σ.length + k) = τ[k]? := by
  rw [zzWB, List.getElem?_append_right (by omega), show σ.length + k - σ.length = k by omega]
section
variable {σ : List Blk} {p q r X : Blk} {n : Nat}
theorem b3_0 (h : σ.length = n) : blk (σ ++ [p, q, r]) n = some p := by subst h; exact blk_k (k := 0)
theorem b3_1 (h : σ.length = n) : blk (σ ++ [p, q, r]) (n + 1) = some q := by subst h; exact blk_k (k := 1)
theorem b3_2 (h : σ.length = n) : blk (σ ++ [p, q, r]) (n + 2) = some r := by subst h; exact blk_k (k := 2)
theorem s3_0 (h : σ.length = n) : setB (σ ++ [p, q, r]) n X = σ ++ [X, q, r] := by subst h; exact zVhL (k := 0)
theorem s3_1 (h : σ.length = n) : setB (σ ++ [p, q, r]) (n + 1) X = σ ++ [p, X, r] := by subst h; exact zVhL (k := 1)
theorem s3_2 (h : σ.length = n) : setB (σ ++ [p, q, r]) (n + 2) X = σ ++ [p, q, X] := by subst h; exact zVhL (k := 2)
end
theorem zlGk {p : Nat → Nat} {i K : Nat} : (rfp p i K).length = i := by simp [rfp]
theorem zMZo {p : Nat → Nat} {i K : Nat} : rfp p (i + 1) K = rfp p i K ++ [.sl (p i) K 0 K] := by simp [rfp, List.range_succ]
theorem zQhM {p : Nat → Nat} {K : Nat} : rfp p 1 K = [.sl (p 0) K 0 K] := by simp [rfp]
theorem pfl {a b : Nst} {s : Nat} (h : s ≠ 0) {rest : List Blk} (hr : (List.range (s - 1)).flatMap (fun j => [louI (prCall a b (j + 1)), louI (prPush a b (j + 1)), louI (prInn a b (j + 1))]) = rest) : (List.range s).flatMap (fun j => [louI (prCall a b (j + 1)), louI (prPush a b (j + 1)), louI (prInn a b (j + 1))]) = rest ++ [louI (prCall a b s), louI (prPush a b s), louI (prInn a b s)] := by
  obtain ⟨t, rfl⟩ := Nat.exists_eq_succ_of_ne_zero h
  rw [← hr, Nat.succ_eq_add_one, Nat.add_sub_cancel, List.range_succ, List.flatMap_append]
  simp
theorem fm3_0 {α : Type} {f g h : α → Blk} : ∀ {l : List α} {k : Nat}, (l.flatMap fun x => [f x, g x, h x])[3 * k]? = (l[k]?).map f
  | [], k => by simp
  | x :: l, 0 => rfl
  | x :: l, k + 1 => by
    have := fm3_0 (f := f) (g := g) (h := h) (l := l) (k := k)
    rw [show 3 * (k + 1) = 3 * k + 3 by omega]
    simpa using this
theorem fm3_1 {α : Type} {f g h : α → Blk} : ∀ {l : List α} {k : Nat}, (l.flatMap fun x => [f x, g x, h x])[3 * k + 1]? = (l[k]?).map g
  | [], k => by simp
  | x :: l, 0 => rfl
  | x :: l, k + 1 => by
    have := fm3_1 (f := f) (g := g) (h := h) (l := l) (k := k)
    rw [show 3 * (k + 1) + 1 = (3 * k + 1) + 3 by omega]
    simpa using this
theorem fm3_2 {α : Type} {f g h : α → Blk} : ∀ {l : List α} {k : Nat}, (l.flatMap fun x => [f x, g x, h x])[3 * k + 2]? = (l[k]?).map h
  | [], k => by simp
  | x :: l, 0 => rfl
  | x :: l, k + 1 => by
    have := fm3_2 (f := f) (g := g) (h := h) (l := l) (k := k)
    rw [show 3 * (k + 1) + 2 = (3 * k + 2) + 3 by omega]
    simpa using this
section
variable {a b : Nst} {i j : Nat}
theorem pdm_A (h : j < i) : blk (pdm a b i) (pcA j) = some (louI (prCall a b j)) := by
  unfold pdm; rw [if_neg (show ¬ i = 0 by omega)]; unfold pcA
  by_cases h0 : j = 0
  · subst h0; rfl
  · obtain ⟨t, rfl⟩ := Nat.exists_eq_succ_of_ne_zero h0
    rw [if_neg h0, show 7 + 3 * (t.succ) = 3 * t + 10 by omega, zzWB]
    simp only [List.getElem?_cons_succ]
    rw [fm3_0, List.getElem?_range (by omega)]; rfl
theorem pdm_B (h : j < i) : blk (pdm a b i) (pcB j) = some (louI (prPush a b j)) := by
  unfold pdm; rw [if_neg (show ¬ i = 0 by omega)]; unfold pcB
  by_cases h0 : j = 0
  · subst h0; rfl
  · obtain ⟨t, rfl⟩ := Nat.exists_eq_succ_of_ne_zero h0
    rw [if_neg h0, show 8 + 3 * (t.succ) = 3 * t + 1 + 10 by omega, zzWB]
    simp only [List.getElem?_cons_succ]
    rw [fm3_1, List.getElem?_range (by omega)]; rfl
theorem pdm_C (h : j < i) : blk (pdm a b i) (pcC j) = some (louI (prInn a b j)) := by
  unfold pdm; rw [if_neg (show ¬ i = 0 by omega)]; unfold pcC
  by_cases h0 : j = 0
  · subst h0; rfl
  · obtain ⟨t, rfl⟩ := Nat.exists_eq_succ_of_ne_zero h0
    rw [if_neg h0, show 9 + 3 * (t.succ) = 3 * t + 2 + 10 by omega, zzWB]
    simp only [List.getElem?_cons_succ]
    rw [fm3_2, List.getElem?_range (by omega)]; rfl
theorem zCZX {σ : List Blk} {p : Nat → Nat} {F : Nat → List Int} {k K : Nat} (hk : blk σ k = some ⟨none, rfp p i K, .live⟩) (hp : ∀ j, j < i → blk σ (p j) = some (louI (F j))) (hF : ∀ j, (F j).length = K) : view σ false 11 (.sl k i 0 i) = some (iLL ((List.range i).map F)) := by
  have e : iLL ((List.range i).map F) = .imm false ((List.range i).map fun j => iL (F j)) := by simp [iLL]
  rw [e]
  refine zNcL (k := 10) (f := fun j => AV.sl (p j) K 0 K) (g := fun j => iL (F j)) (xs := List.range i) (st := .live) hk rfl (by simp) fun j hj => ?_
  exact zxF7 (k := 9) (f := AV.int) (g := AV.int) (xs := F j) (hp j (List.mem_range.1 hj)) (by split <;> rfl) (hF j).symm fun _ _ => rfl
theorem zXhQ {σ : List Blk} (h : i ≠ 0) (hi : i = prN a b) (hσ : ∀ k, 1 ≤ k → blk σ k = blk (pdm a b i) k) : view σ false 11 (.sl 5 i 0 i) = some (bL (prd a b).accept) ∧ view σ false 11 (.sl 6 i 0 i) = some (iLL (prd a b).call) ∧ view σ false 11 (.sl 7 i 0 i) = some (iLL (prd a b).push) ∧ view σ false 11 (.sl 8 i 0 i) = some (iLL (prd a b).inner) ∧ view σ false 11 (.sl 9 i 0 i) = some (iLLL (prd a b).pop) := by
  have e5 : blk σ 5 = some ⟨none, ((List.range i).map (prAcc a b)).map .bool, .live⟩ := by rw [hσ 5 (by omega)]; unfold pdm; rw [if_neg h]
  have e6 : blk σ 6 = some ⟨none, rfp pcA i a.calls.toNat, .live⟩ := by rw [hσ 6 (by omega)]; unfold pdm; rw [if_neg h]
  have e7 : blk σ 7 = some ⟨none, rfp pcB i a.calls.toNat, .live⟩ := by rw [hσ 7 (by omega)]; unfold pdm; rw [if_neg h]
  have e8 : blk σ 8 = some ⟨none, rfp pcC i a.inns.toNat, .live⟩ := by rw [hσ 8 (by omega)]; unfold pdm; rw [if_neg h]
  have e9 : blk σ 9 = some ⟨none, (List.range i).map (fun j => iLL (prPop a b j)), .live⟩ := by rw [hσ 9 (by omega)]; unfold pdm; rw [if_neg h]
  have v5 : view σ false 11 (.sl 5 i 0 i) = some (bL ((List.range i).map (prAcc a b))) := zxF7 (k := 10) (f := AV.bool) (g := AV.bool) e5 rfl (by simp) fun _ _ => rfl
  have v6 := zCZX (F := prCall a b) e6 (fun j hj => by rw [hσ _ (by unfold pcA; split <;> omega)]; exact pdm_A hj) (fun j => by simp [prCall])
  have v7 := zCZX (F := prPush a b) e7 (fun j hj => by rw [hσ _ (by unfold pcB; split <;> omega)]; exact pdm_B hj) (fun j => by simp [prPush])
  have v8 := zCZX (F := prInn a b) e8 (fun j hj => by rw [hσ _ (by unfold pcC; split <;> omega)]; exact pdm_C hj) (fun j => by simp [prInn])
  have v9 : view σ false 11 (.sl 9 i 0 i) = some (iLLL ((List.range i).map (prPop a b))) := by
    have e : iLLL ((List.range i).map (prPop a b)) = .imm false ((List.range i).map fun j => iLL (prPop a b j)) := by simp [iLLL]
    rw [e]
    exact zxF7 (k := 10) (f := fun j => iLL (prPop a b j)) (g := fun j => iLL (prPop a b j)) e9 rfl (by simp) fun _ _ => rfl
  rw [v5, v6, v7, v8, v9, hi]
  exact ⟨rfl, rfl, rfl, rfl, rfl⟩
theorem zpqe {ce : CE} {c0 c1 c2 c3 c4 c5 c6 c7 c8 c9 : AV} {r : List Blk} : ev ce (⟨some 10, [c0, c1, c2, c3, c4, c5, c6, c7, c8, c9], .live⟩ :: r) 0 [] (fun _ => .ptr 0 (kst (some 10)) 0) (.ld (.v 0) (some 10)) = some (.agg [c0, c1, c2, c3, c4, c5, c6, c7, c8, c9], none) := (rfl)
end
theorem zyXT {l : List Int} {i : Nat} (h : i < l.length) : l.take (i + 1) = l.take i ++ [ix l (i : Int)] := by
  rw [List.take_add_one, List.getElem?_eq_getElem h, zrZW h]; rfl
theorem zYx3 {a b : Nst} (h : PrOk a b) : PC zNb4 [a.av, b.av] = some (prd a b).av := by
  refine zx72 (z17d rfl ?_)
  have hga := h.oa.stack
  have hgb := h.ob.stack
  have hsa := h.oa.start
  have hsb := h.ob.start
  have g1 := h.g
  have n1 := h.n
  have gp := Int.mul_nonneg (show 0 ≤ a.stack by omega) (show 0 ≤ b.stack by omega)
  have sp := Int.mul_nonneg hsa.1 (show 0 ≤ (b.accept.length : Int) by omega)
  have pl := zAqx hsa hsb
  have hmI : ((a.accept.length : Int) * (b.accept.length : Int)) = ((a.accept.length * b.accept.length : Nat) : Int) := by rw [Int.natCast_mul]
  rw [hmI] at pl
  have bd1 : -9223372036854775808 ≤ a.stack * b.stack ∧ a.stack * b.stack ≤ 9223372036854775807 := by omega
  have bd2 : -9223372036854775808 ≤ a.start * (b.accept.length : Int) ∧ a.start * (b.accept.length : Int) ≤ 9223372036854775807 := by omega
  have bd3 : -9223372036854775808 ≤ a.start * (b.accept.length : Int) + b.start ∧ a.start * (b.accept.length : Int) + b.start ≤ 9223372036854775807 := by omega
  simp [-zJRc, bd1, bd2, bd3]
  have e0 : pdm a b 0 = [⟨some 10, [.int 0, .int 0, .int 0, .int 0, .int 0, .snil, .snil, .snil, .snil, .snil], .live⟩, ⟨some 10, [.int a.calls, .int a.inns, .int a.rets, .int (a.stack * b.stack), .int (a.start * (b.accept.length : Int) + b.start), .snil, .snil, .snil, .snil, .snil], .live⟩] := if_pos rfl
  have hca := h.oa.calls
  have hia := h.oa.inns
  obtain ⟨nc, hnc⟩ := Int.eq_ofNat_of_zero_le hca.1
  obtain ⟨ni, hni⟩ := Int.eq_ofNat_of_zero_le hia.1
  have hkk := h.k
  have hsta := h.oa.states
  have hstb := h.ob.states
  refine zv8C (fun x : Nat => [(5, .int x)]) (fun x => pdm a b (x * b.accept.length)) (fun x => x ≤ a.accept.length) (fun x => a.accept.length - x) 0 (by rw [Nat.zero_mul, e0]; rfl) (by simp) ?_
  intro x x1
  by_cases hx : x < a.accept.length
  · simp [-zJRc, hx]
    refine zv8C (fun y : Nat => [(6, .int y)]) (fun y => pdm a b (x * b.accept.length + y)) (fun y => y ≤ b.accept.length) (fun y => b.accept.length - y) 0 (by simp [sets]) (by simp) ?_
    intro y y1
    by_cases hy : y < b.accept.length
    · have hlen := ztdR (a := a) (b := b) (i := x * b.accept.length + y)
      have hsN : x * b.accept.length + y < prN a b := by
        unfold prN
        have : x * b.accept.length + b.accept.length ≤ a.accept.length * b.accept.length := by rw [← Nat.succ_mul]; exact Nat.mul_le_mul_right _ hx
        omega
      have hsd : (x * b.accept.length + y) / prK b = x := by unfold prK; rw [Nat.mul_comm, Nat.mul_add_div (by omega), Nat.div_eq_of_lt hy, Nat.add_zero]
      have hsm : (x * b.accept.length + y) % prK b = y := by unfold prK; rw [Nat.mul_comm, Nat.mul_add_mod, Nat.mod_eq_of_lt hy]
      generalize hs : x * b.accept.length + y = s at *
      simp [-zJRc, hy, hlen]
      have hxl : (x : Int) < (a.accept.length : Int) := by omega
      have hyl : (y : Int) < (b.accept.length : Int) := by omega
      have hKK : (prK b : Int) = (b.accept.length : Int) := rfl
      have Al : (prCall a b s).length = nc := by simp [prCall]; omega
      have Bl : (prPush a b s).length = nc := by simp [prPush]; omega
      have Cl : (prInn a b s).length = ni := by simp [prInn]; omega
      have Ai : ∀ c : Nat, c < nc → ix (prCall a b s) (c : Int) = ix (ix a.call (x : Int)) (c : Int) * (b.accept.length : Int) + ix (ix b.call (y : Int)) (c : Int) := fun c hc => by
        rw [zrZW (by omega)]; simp [prCall, hsd, hsm, hKK]
      have Bi : ∀ c : Nat, c < nc → ix (prPush a b s) (c : Int) = ix (ix a.push (x : Int)) (c : Int) * b.stack + ix (ix b.push (y : Int)) (c : Int) := fun c hc => by
        rw [zrZW (by omega)]; simp [prPush, hsd, hsm]
      have Ci : ∀ c : Nat, c < ni → ix (prInn a b s) (c : Int) = ix (ix a.inner (x : Int)) (c : Int) * (b.accept.length : Int) + ix (ix b.inner (y : Int)) (c : Int) := fun c hc => by
        rw [zrZW (by omega)]; simp [prInn, hsd, hsm, hKK]
      generalize hA : prCall a b s = A at *
      generalize hB : prPush a b s = B at *
      generalize hC : prInn a b s = C at *
      have m0 := fun p q r => b3_0 (p := p) (q := q) (r := r) hlen
      have m1 := fun p q r => b3_1 (p := p) (q := q) (r := r) hlen
      have m2 := fun p q r => b3_2 (p := p) (q := q) (r := r) hlen
      have w0 := fun p q r X => s3_0 (p := p) (q := q) (r := r) (X := X) hlen
      have w1 := fun p q r X => s3_1 (p := p) (q := q) (r := r) (X := X) hlen
      have w2 := fun p q r X => s3_2 (p := p) (q := q) (r := r) (X := X) hlen
      have la := h.oa.lens
      have lb := h.ob.lens
      have ra := h.oa.row (x : Int) (by omega) hxl
      have rb := h.ob.row (y : Int) (by omega) hyl
      have hcc := h.c
      have hii := h.i
      refine zv8C (fun c : Nat => [(7, .int c), (8, .sl (pdL s) c 0 c), (9, .sl (pdL s + 1) c 0 c)]) (fun c => pdm a b s ++ [louI (A.take c), louI (B.take c), louI []]) (fun c => c ≤ nc) (fun c => nc - c) 0 (by simp [sets]) (by simp) ?_
      intro c c1
      by_cases hc : c < nc
      · have hcl := eq_true (show (c : Int) < a.calls by omega)
        have x1' := eq_true (show (x : Int) < (a.call.length : Int) by omega)
        have x2' := eq_true (show (x : Int) < (a.push.length : Int) by omega)
        have x3' := eq_true (show (c : Int) < ((ix a.call (x : Int)).length : Int) by omega)
        have x4' := eq_true (show (c : Int) < ((ix a.push (x : Int)).length : Int) by omega)
        have y1' := eq_true (show (y : Int) < (b.call.length : Int) by omega)
        have y2' := eq_true (show (y : Int) < (b.push.length : Int) by omega)
        have y3' := eq_true (show (c : Int) < ((ix b.call (y : Int)).length : Int) by omega)
        have y4' := eq_true (show (c : Int) < ((ix b.push (y : Int)).length : Int) by omega)
        have va := h.oa.call (x : Int) (c : Int) (by omega) hxl (by omega) (by omega)
        have vb := h.ob.call (y : Int) (c : Int) (by omega) hyl (by omega) (by omega)
        have pa := h.oa.push (x : Int) (c : Int) (by omega) hxl (by omega) (by omega)
        have pb := h.ob.push (y : Int) (c : Int) (by omega) hyl (by omega) (by omega)
        have l1 := zAqx va vb
        have l2 := zAqx pa pb
        rw [hmI] at l1
        have n1' := Int.mul_nonneg va.1 (show 0 ≤ (b.accept.length : Int) by omega)
        have n2' := Int.mul_nonneg pa.1 (show 0 ≤ b.stack by omega)
        have Ai := Ai c hc
        have Bi := Bi c hc
        have tA := zyXT (l := A) (i := c) (by omega)
        have tB := zyXT (l := B) (i := c) (by omega)
        rw [Ai] at tA
        rw [Bi] at tB
        have lA : (A.take c).length = c := by simp; omega
        have lB : (B.take c).length = c := by simp; omega
        generalize hTA : A.take c = TA at *
        generalize hTB : B.take c = TB at *
        have k1 : -9223372036854775808 ≤ ix (ix a.call (x : Int)) (c : Int) * (b.accept.length : Int) ∧ ix (ix a.call (x : Int)) (c : Int) * (b.accept.length : Int) ≤ 9223372036854775807 := by omega
        have k2 : -9223372036854775808 ≤ ix (ix a.call (x : Int)) (c : Int) * (b.accept.length : Int) + ix (ix b.call (y : Int)) (c : Int) ∧ ix (ix a.call (x : Int)) (c : Int) * (b.accept.length : Int) + ix (ix b.call (y : Int)) (c : Int) ≤ 9223372036854775807 := by omega
        have k3 : -9223372036854775808 ≤ ix (ix a.push (x : Int)) (c : Int) * b.stack ∧ ix (ix a.push (x : Int)) (c : Int) * b.stack ≤ 9223372036854775807 := by omega
        have k4 : -9223372036854775808 ≤ ix (ix a.push (x : Int)) (c : Int) * b.stack + ix (ix b.push (y : Int)) (c : Int) ∧ ix (ix a.push (x : Int)) (c : Int) * b.stack + ix (ix b.push (y : Int)) (c : Int) ≤ 9223372036854775807 := by omega
        simp [-zJRc, hcl, x1', x2', x3', x4', y1', y2', y3', y4', m0, m1, m2, w0, w1, w2, lA, lB, k1, k2, k3, k4]
        exact ⟨by split <;> rfl, by omega, by split <;> rfl, by omega, by omega, zGkM (c + 1) (by simp) (by rw [tA, tB]; simp) (by omega) (by omega)⟩
      · have : c = nc := by omega
        subst this
        have hcl := eq_false (show ¬ (c : Int) < a.calls by omega)
        simp [-zJRc, hcl]
        have etA : A.take c = A := List.take_of_length_le (by omega)
        have etB : B.take c = B := List.take_of_length_le (by omega)
        rw [etA, etB]
        refine zv8C (fun i : Nat => [(10, .int i), (11, .sl (pdL s + 2) i 0 i)]) (fun i => pdm a b s ++ [louI A, louI B, louI (C.take i)]) (fun i => i ≤ ni) (fun i => ni - i) 0 (by simp [sets]) (by simp) ?_
        intro i i1
        by_cases hi : i < ni
        · have hil := eq_true (show (i : Int) < a.inns by omega)
          have x1' := eq_true (show (x : Int) < (a.inner.length : Int) by omega)
          have x3' := eq_true (show (i : Int) < ((ix a.inner (x : Int)).length : Int) by omega)
          have y1' := eq_true (show (y : Int) < (b.inner.length : Int) by omega)
          have y3' := eq_true (show (i : Int) < ((ix b.inner (y : Int)).length : Int) by omega)
          have va := h.oa.inner (x : Int) (i : Int) (by omega) hxl (by omega) (by omega)
          have vb := h.ob.inner (y : Int) (i : Int) (by omega) hyl (by omega) (by omega)
          have l1 := zAqx va vb
          rw [hmI] at l1
          have n1' := Int.mul_nonneg va.1 (show 0 ≤ (b.accept.length : Int) by omega)
          have Ci := Ci i hi
          have tC := zyXT (l := C) (i := i) (by omega)
          rw [Ci] at tC
          have lC : (C.take i).length = i := by simp; omega
          generalize hTC : C.take i = TC at *
          have k1 : -9223372036854775808 ≤ ix (ix a.inner (x : Int)) (i : Int) * (b.accept.length : Int) ∧ ix (ix a.inner (x : Int)) (i : Int) * (b.accept.length : Int) ≤ 9223372036854775807 := by omega
          have k2 : -9223372036854775808 ≤ ix (ix a.inner (x : Int)) (i : Int) * (b.accept.length : Int) + ix (ix b.inner (y : Int)) (i : Int) ∧ ix (ix a.inner (x : Int)) (i : Int) * (b.accept.length : Int) + ix (ix b.inner (y : Int)) (i : Int) ≤ 9223372036854775807 := by omega
          simp [-zJRc, hil, x1', x3', y1', y3', m0, m1, m2, w0, w1, w2, lC, k1, k2]
          exact ⟨by split <;> rfl, by omega, by omega, zGkM (i + 1) (by simp) (by rw [tC]; simp) (by omega) (by omega)⟩
        · have : i = ni := by omega
          subst this
          have hil := eq_false (show ¬ (i : Int) < a.inns by omega)
          simp [-zJRc, hil]
          have etC : C.take i = C := List.take_of_length_le (by omega)
          rw [etC]
          have hpp := z9wB h hsN hsd.symm hsm.symm
          have xa := eq_true hxl
          have ya := eq_true hyl
          have hac : prAcc a b s = (!(ix a.accept (x : Int) == ix b.accept (y : Int))) := by unfold prAcc; rw [hsd, hsm]; rfl
          by_cases h0 : s = 0
          · subst h0
            have eL : pdL 0 = 2 := rfl
            rw [e0, eL]
            simp [-zJRc, xa, ya, hpp]
            have ec : a.calls.toNat = c := by omega
            have ei : a.inns.toNat = i := by omega
            refine ⟨by omega, zGkM (y + 1) (by simp) ?_ (by omega) (by omega)⟩
            rw [show x * b.accept.length + (y + 1) = 1 by omega]
            unfold pdm
            rw [if_neg (show ¬ (1 = 0) by omega)]
            simp [zQhM, pcA, pcB, pcC, hA, hB, hC, ec, ei, hac]
          · have eL : pdL s = 7 + 3 * s := if_neg h0
            have eP : pdm a b s = _ := if_neg h0
            generalize hrest : (List.range (s - 1)).flatMap (fun j => [louI (prCall a b (j + 1)), louI (prPush a b (j + 1)), louI (prInn a b (j + 1))]) = rest at eP
            rw [eP, eL]
            simp [-zJRc, xa, ya, hpp, zlGk]
            have ec : a.calls.toNat = c := by omega
            have ei : a.inns.toNat = i := by omega
            have hsm' : s ≤ 16384 := by
              have : prN a b ≤ 128 := h.n
              omega
            have hfl := pfl h0 hrest
            rw [hA, hB, hC] at hfl
            refine ⟨by omega, by omega, zGkM (y + 1) (by simp) ?_ (by omega) (by omega)⟩
            rw [show x * b.accept.length + (y + 1) = s + 1 by omega]
            unfold pdm
            rw [if_neg (show ¬ (s + 1 = 0) by omega), Nat.add_sub_cancel, hfl]
            simp [zMZo, List.range_succ, pcA, pcB, pcC, h0, ec, ei, hac]
            omega
    · have : y = b.accept.length := by omega
      subst this
      simp [-zJRc]
      have e1 : (x + 1) * b.accept.length = x * b.accept.length + b.accept.length := Nat.succ_mul x _
      exact ⟨by omega, zGkM (x + 1) (by simp) (by rw [e1]) (by omega) (by omega)⟩
  · have : x = a.accept.length := by omega
    subst this
    have hN0 : a.accept.length * b.accept.length ≠ 0 := by
      have : 1 * 1 ≤ a.accept.length * b.accept.length := Nat.mul_le_mul (by omega) (by omega)
      omega
    have hr : ∃ rest, pdm a b (a.accept.length * b.accept.length) = ⟨some 10, [.int 0, .int 0, .int 0, .int 0, .int 0, .snil, .snil, .snil, .snil, .snil], .live⟩ :: ⟨some 10, [.int a.calls, .int a.inns, .int a.rets, .int (a.stack * b.stack), .int (a.start * (b.accept.length : Int) + b.start), .sl 5 (a.accept.length * b.accept.length) 0 (a.accept.length * b.accept.length), .sl 6 (a.accept.length * b.accept.length) 0 (a.accept.length * b.accept.length), .sl 7 (a.accept.length * b.accept.length) 0 (a.accept.length * b.accept.length), .sl 8 (a.accept.length * b.accept.length) 0 (a.accept.length * b.accept.length), .sl 9 (a.accept.length * b.accept.length) 0 (a.accept.length * b.accept.length)], .live⟩ :: rest := by
      unfold pdm; rw [if_neg hN0]; exact ⟨_, rfl⟩
    obtain ⟨rest, hr⟩ := hr
    have hv := fun (σ : List Blk) => zXhQ (a := a) (b := b) (σ := σ) hN0 rfl
    rw [hr] at hv ⊢
    generalize a.accept.length * b.accept.length = N at *
    simp [-zJRc, zpqe]
    obtain ⟨v5, v6, v7, v8, v9⟩ := hv (⟨some 10, [.int a.calls, .int a.inns, .int a.rets, .int (a.stack * b.stack), .int (a.start * (b.accept.length : Int) + b.start), .sl 5 N 0 N, .sl 6 N 0 N, .sl 7 N 0 N, .sl 8 N 0 N, .sl 9 N 0 N], .live⟩ :: ⟨some 10, [.int a.calls, .int a.inns, .int a.rets, .int (a.stack * b.stack), .int (a.start * (b.accept.length : Int) + b.start), .sl 5 N 0 N, .sl 6 N 0 N, .sl 7 N 0 N, .sl 8 N 0 N, .sl 9 N 0 N], .live⟩ :: rest) (fun k hk => by
      obtain ⟨j, rfl⟩ := Nat.exists_eq_add_of_le hk
      rw [Nat.add_comm 1 j])
    rw [v5, v6, v7, v8, v9]
    rfl
end Ab
namespace Ab
theorem zkDf (a b : Nst) (h : a.fits) (h' : b.fits) (sa : a.small = true) (sb : b.small = true) : PC zRFR [a.av, b.av] = some (dfA a b) := by
  refine zx72 (zxtW rfl ?_)
  have e1 := zwfm a h
  have e2 := zwfm b h'
  unfold dfA
  by_cases hv : a.validE = 0
  case neg => simp [-zJRc, e1, hv, errA]
  by_cases hw : b.validE = 0
  case neg => simp [-zJRc, e1, e2, hv, hw, errA]
  by_cases hx : a.calls ≠ b.calls ∨ a.inns ≠ b.inns ∨ a.rets ≠ b.rets
  · rw [if_neg (by simpa using hv), if_neg (by simpa using hw), if_pos hx]
    have key : ∀ p q r : Prop, (p → q → r → False) → (p = True ∧ q = True ∧ r = False) ∨ (p = True ∧ q = False) ∨ p = False := fun p q r h => by
      by_cases hp : p <;> by_cases hq : q <;> by_cases hr : r <;> simp [hp, hq, hr]
      exact absurd (h hp hq hr) id
    rcases key (a.calls = b.calls) (a.inns = b.inns) (a.rets = b.rets) (fun c1 c2 c3 => by rcases hx with hx | hx | hx; exact hx c1; exact hx c2; exact hx c3) with ⟨c1, c2, c3⟩ | ⟨c1, c2⟩ | c1
    · simp [-zJRc, e1, e2, hv, hw, c1, c2, c3, errA]
    · simp [-zJRc, e1, e2, hv, hw, c1, c2, errA]
    · simp [-zJRc, e1, e2, hv, hw, c1, errA]
  rw [if_neg (by simpa using hv), if_neg (by simpa using hw), if_neg hx]
  have c1 : a.calls = b.calls := Classical.byContradiction fun h => hx (.inl h)
  have c2 : a.inns = b.inns := Classical.byContradiction fun h => hx (.inr (.inl h))
  have c3 : a.rets = b.rets := Classical.byContradiction fun h => hx (.inr (.inr h))
  have oa := zdZr hv
  have ob := zdZr hw
  have hp := zpY5 oa ob sa sb c1 c2 c3
  have hn := hp.n
  have hg := hp.g
  have hm : ((a.accept.length : Int) * (b.accept.length : Int)) = ((a.accept.length * b.accept.length : Nat) : Int) := by rw [Int.natCast_mul]
  have l1 : ¬ (144 : Int) < (a.accept.length : Int) * (b.accept.length : Int) := by omega
  have l2 : ¬ (1024 : Int) < a.stack * b.stack := by omega
  have l3 : -9223372036854775808 ≤ (a.accept.length : Int) * (b.accept.length : Int) ∧ (a.accept.length : Int) * (b.accept.length : Int) ≤ 9223372036854775807 := by omega
  have gp := Int.mul_nonneg (show 0 ≤ a.stack by have := oa.stack; omega) (show 0 ≤ b.stack by have := ob.stack; omega)
  have l4 : -9223372036854775808 ≤ a.stack * b.stack ∧ a.stack * b.stack ≤ 9223372036854775807 := by omega
  have d1 := eq_true c1
  have d2 := eq_true c2
  have d3 := eq_true c3
  have hpr := zYx3 hp
  have hf := zClM (zBaE hp)
  have hpav : (prd a b).av = .agg [.int (prd a b).calls, .int (prd a b).inns, .int (prd a b).rets, .int (prd a b).stack, .int (prd a b).start, bL (prd a b).accept, iLL (prd a b).call, iLL (prd a b).push, iLL (prd a b).inner, iLLL (prd a b).pop] := rfl
  clear hx
  generalize (prd a b).mch.f1 (prd a b).start (ix (prd a b).accept) = m at *
  generalize (prd a b).mch.f1E (prd a b).start (ix (prd a b).accept) = k at *
  generalize prd a b = P at *
  cases m with
  | none => simp [-zJRc, e1, e2, hv, hw, d1, d2, d3, l1, l2, l3, l4, hpr, hf, fAns]
  | some w => simp [-zJRc, e1, e2, hv, hw, d1, d2, d3, l1, l2, l3, l4, hpr, hf, fAns]
theorem zGGQ (aw : PC zfV6 [] = some (.bool true)) (a b : Nst) (h : a.fits) (h' : b.fits) : PC zjvU [a.av, b.av] = some (.bool true) := by
  refine zx72 (zd22 rfl ?_)
  cases sa : a.small with
  | false => simp [zL6e a h, sa, aw]
  | true =>
    cases sb : b.small with
    | false => simp [zL6e a h, zL6e b h', sa, sb, aw]
    | true =>
      have hS := zgGa a b h h' sa sb
      have hR := zkDf a b h h' sa sb
      have key : ∃ (l : List Int) (x : Bool) (e : Int), dfA a b = .tup [iL l, .bool x, .int e] ∧ l.length ≤ 1024 := by
        rcases zTP5 a b sa sb with ⟨e, he, hA⟩ | ⟨hp, va, vb, ⟨hf, hE, hA⟩ | ⟨u, hf, hA⟩⟩
        · exact ⟨[], false, e, hA, by simp⟩
        · exact ⟨[], false, 0, hA, by simp⟩
        · exact ⟨u, true, 0, hA, (zDGF hf).1.2⟩
      obtain ⟨l, x, e, hA, hl⟩ := key
      rw [hA] at hS hR
      have hI := z0mX l l (by omega) (by omega)
      simp [zL6e a h, zL6e b h', sa, sb, hS, hR, hI, aw]
end Ab
