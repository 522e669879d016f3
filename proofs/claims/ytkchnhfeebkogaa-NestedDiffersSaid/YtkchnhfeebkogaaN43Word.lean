/- The walk of widen. Which states are connected: the program's table. The document's table of connected states, and which states are connected. Well-matched words, taken apart. Condition: none. -/
import Derived.Test.YtkchnhfeebkogaaN43Widen
set_option linter.all false
set_option maxRecDepth 100000
set_option maxHeartbeats 4000000
namespace Ab
theorem zSvQ (M : Mch) (hM : M.Ok) (t : Nat) (v : AV) (hv : MOk t v M) (n : Nst) (hc : n.calls = M.calls) (hr : n.rets = M.rets) (box : Blk) (m R : List (List Bool)) (rest : List Blk) (br : Nat)
    (hm : Sq M.size m) (hR : Sq M.size R) (hb : ∀ m', m'.length = m.length → blk (mat box M.size m' rest) br = some ⟨none, R.map bL, .live⟩) :
    LX L z7G9 [.iface t v, n.av, .sl 1 M.size 0 M.size, .sl br M.size 0 M.size] (mat box M.size m rest) (WPost M box m R rest) := by
  obtain ⟨fc, tc, pc⟩ := hv.call
  obtain ⟨fp, tp, pp⟩ := hv.pop
  have hsz := hM.size
  have hMc := hM.calls
  have hMr := hM.rets
  have hloc := hv.loc
  have hwk := hv.wk
  refine z5KG rfl ?_
  simp
  refine zv8C (fun p : Int × List (List Bool) × Bool => [(4, .int p.1), (19, .bool p.2.2)]) (fun p => mat box M.size p.2.1 rest)
    (fun p => (0 ≤ p.1 ∧ p.1 ≤ M.size) ∧ Grew M R m p.2.1 p.2.2 ∧ ∀ s, 0 ≤ s → s < p.1 → ∀ u, Wide M R s u → rel p.2.1 s u)
    (fun p => (M.size - p.1).toNat) (0, m, false) (by simp [sets]) ⟨by simp, ⟨hm, fun _ _ h => h, fun _ _ h => .inl h, fun _ => rfl, by simp, Nat.le_refl _⟩, zguy⟩ ?_
  rintro ⟨i, m1, ch⟩ ⟨⟨i0, i1⟩, h1, h2⟩
  dsimp only at i0 i1 h1 h2 ⊢
  by_cases hi : i < (M.size : Int)
  · simp [-zJRc, hi, hc]
    refine zv8C (fun p : Int × List (List Bool) × Bool => [(7, .int p.1), (19, .bool p.2.2)]) (fun p => mat box M.size p.2.1 rest)
      (fun p => (0 ≤ p.1 ∧ p.1 ≤ M.calls) ∧ Grew M R m p.2.1 p.2.2 ∧ (∀ s, 0 ≤ s → s < i → ∀ u, Wide M R s u → rel p.2.1 s u) ∧ ∀ c, 0 ≤ c → c < p.1 → ∀ q r, 0 ≤ r → r < M.rets → rel R (M.call i c).1 q → rel p.2.1 i (M.pop q (M.call i c).2 r))
      (fun p => (M.calls - p.1).toNat) (0, m1, ch) (by simp [sets]) ⟨by simp; omega, h1, h2, zguy⟩ ?_
    rintro ⟨c, m2, ch2⟩ ⟨⟨c0, c1⟩, g1, g2, g3⟩
    dsimp only at c0 c1 g1 g2 g3 ⊢
    by_cases hcc : c < M.calls
    · have hq := hM.call i c i0 hi c0 hcc
      have e1 := pc i c i0 hi c0 hcc
      have hRr := hR.row hq.1 hq.2
      have hb2 := hb m2 (by rw [g1.sq.1, hm.1])
      have hRl := hR.1
      simp [-zJRc, hcc, tc, hloc, hwk, e1, hq.1, hq.2, hb2, show (M.call i c).1.toNat < R.length by omega]
      refine ⟨hRl, ?_⟩
      refine zv8C (fun p : Int × List (List Bool) × Bool => [(12, .int p.1), (19, .bool p.2.2)]) (fun p => mat box M.size p.2.1 rest)
        (fun p => (0 ≤ p.1 ∧ p.1 ≤ (M.size : Int)) ∧ Grew M R m p.2.1 p.2.2 ∧ (∀ a b, rel m2 a b → rel p.2.1 a b) ∧ ∀ q, 0 ≤ q → q < p.1 → ∀ r, 0 ≤ r → r < M.rets → rel R (M.call i c).1 q → rel p.2.1 i (M.pop q (M.call i c).2 r))
        (fun p => (M.size - p.1).toNat) (0, m2, ch2) (by simp [sets]) ⟨by simp, g1, fun _ _ h => h, zguy⟩ ?_
      rintro ⟨q, m3, ch3⟩ ⟨⟨q0, q1⟩, k1, k2, k3⟩
      dsimp only at q0 q1 k1 k2 k3 ⊢
      by_cases hqq : q < (M.size : Int)
      · have hqr : q < ((ix R (M.call i c).1).length : Int) := by omega
        simp [-zJRc, hqr, q0]
        refine zv8C (fun p : Int × List (List Bool) × Bool => [(15, .int p.1), (19, .bool p.2.2)]) (fun p => mat box M.size p.2.1 rest)
          (fun p => (0 ≤ p.1 ∧ p.1 ≤ M.rets) ∧ Grew M R m p.2.1 p.2.2 ∧ (∀ a b, rel m3 a b → rel p.2.1 a b) ∧ ∀ r, 0 ≤ r → r < p.1 → rel R (M.call i c).1 q → rel p.2.1 i (M.pop q (M.call i c).2 r))
          (fun p => (M.rets - p.1).toNat) (0, m3, ch3) (by simp [sets]) ⟨by simp; omega, k1, fun _ _ h => h, zguy⟩ ?_
        rintro ⟨r, m4, ch4⟩ ⟨⟨r0, r1⟩, l1, l2, l3⟩
        dsimp only at r0 r1 l1 l2 l3 ⊢
        by_cases hgo : r < M.rets ∧ ix (ix R (M.call i c).1) q = true
        · obtain ⟨hrr, hok⟩ := hgo
          have hrel : rel R (M.call i c).1 q := ⟨hq.1, by rw [hR.1]; exact hq.2, q0, by rw [hR.1]; exact hqq, hok⟩
          have hu := hM.pop i c q r i0 hi c0 hcc q0 hqq r0 hrr
          have e2 := pp i c q r i0 hi c0 hcc q0 hqq r0 hrr
          have hw : Wide M R i (M.pop q (M.call i c).2 r) := ⟨c, q, r, ⟨c0, hcc⟩, ⟨r0, hrr⟩, hrel, rfl⟩
          obtain ⟨n1, n2, n3⟩ := l1.more i0 hi hu.1 hu.2 hw
          have hl4 := l1.sq.1
          have hrow4 := l1.sq.row i0 hi
          have b1 := z922 (box := box) (rest := rest) hl4
          have b2 := zd9S (box := box) (N := M.size) (rest := rest) (m := m4) i0 (by omega)
          have b3 := zFr8 (N := M.size) i0 hi
          have b4 := fun r => zUeD (box := box) (N := M.size) (rest := rest) (m := m4) (r := r) i0 (by omega)
          have fin : ∀ ch5 : Bool, ch5 = (ch4 || !ix (ix m4 i) (M.pop q (M.call i c).2 r)) → (0 ≤ r + 1 ∧ r + 1 ≤ M.rets) ∧ Grew M R m (upd m4 i (M.pop q (M.call i c).2 r)) ch5 ∧ (∀ a b, rel m3 a b → rel (upd m4 i (M.pop q (M.call i c).2 r)) a b) ∧ ∀ r', 0 ≤ r' → r' < r + 1 → rel R (M.call i c).1 q → rel (upd m4 i (M.pop q (M.call i c).2 r)) i (M.pop q (M.call i c).2 r') := by
            rintro ch5 rfl
            exact ⟨by omega, n1, fun a b h => n3 a b (l2 a b h), zvtS (fun _ => n2) fun r' a b h => n3 _ _ (l3 r' a b h)⟩
          have hrow4i : (M.pop q (M.call i c).2 r) < ((ix m4 i).length : Int) := by omega
          cases ch4 with
          | true =>
            simp [-zJRc, -List.map_set, hr, hrr, hok, tp, hloc, hwk, e2, i0, hi, hu.1, hu.2, b1, b2, b3, b4, hrow4, show (M.pop q (M.call i c).2 r).toNat < M.size by omega]
            (repeat' apply And.intro) <;> try omega
            exact zGkM (r + 1, upd m4 i (M.pop q (M.call i c).2 r), true) (by simp) (by simp [upd]) (fin true (by simp)) (by dsimp only; omega)
          | false =>
            cases hx : ix (ix m4 i) (M.pop q (M.call i c).2 r) with
            | true =>
              simp [-zJRc, -List.map_set, hr, hrr, hok, tp, hloc, hwk, e2, i0, hi, hu.1, hu.2, b1, b2, b3, b4, hrow4, hx, show (M.pop q (M.call i c).2 r).toNat < M.size by omega]
              (repeat' apply And.intro) <;> try omega
              exact zGkM (r + 1, upd m4 i (M.pop q (M.call i c).2 r), false) (by simp) (by simp [upd]) (fin false (by simp [hx])) (by dsimp only; omega)
            | false =>
              simp [-zJRc, -List.map_set, hr, hrr, hok, tp, hloc, hwk, e2, i0, hi, hu.1, hu.2, b1, b2, b3, b4, hrow4, hx, show (M.pop q (M.call i c).2 r).toNat < M.size by omega]
              (repeat' apply And.intro) <;> try omega
              exact zGkM (r + 1, upd m4 i (M.pop q (M.call i c).2 r), true) (by simp) (by simp [upd]) (fin true (by simp [hx])) (by dsimp only; omega)
        · have out : (0 ≤ q + 1 ∧ q + 1 ≤ (M.size : Int)) ∧ Grew M R m m4 ch4 ∧ (∀ a b, rel m2 a b → rel m4 a b) ∧ ∀ q', 0 ≤ q' → q' < q + 1 → ∀ r', 0 ≤ r' → r' < M.rets → rel R (M.call i c).1 q' → rel m4 i (M.pop q' (M.call i c).2 r') := by
            refine ⟨by omega, l1, fun a b h => l2 a b (k2 a b h), zvtS ?_ fun q' a b r' r0' r1' h => l2 _ _ (k3 q' a b r' r0' r1' h)⟩
            intro r' r0' r1' hrel
            refine l3 r' r0' ?_ hrel
            have : ¬ r < M.rets := fun hh => hgo ⟨hh, hrel.2.2.2.2⟩
            omega
          by_cases hrr : r < M.rets
          · have hok : ix (ix R (M.call i c).1) q = false := by
              cases hx : ix (ix R (M.call i c).1) q with
              | false => rfl
              | true => exact absurd ⟨hrr, hx⟩ hgo
            simp [-zJRc, hr, hrr, hok]
            (repeat' apply And.intro) <;> try omega
            exact zGkM (q + 1, m4, ch4) (by simp) rfl out (by dsimp only; omega)
          · simp [-zJRc, hr, hrr]
            (repeat' apply And.intro) <;> try omega
            exact zGkM (q + 1, m4, ch4) (by simp) rfl out (by dsimp only; omega)
      · simp [-zJRc, show ¬ q < ((ix R (M.call i c).1).length : Int) by omega]
        (repeat' apply And.intro) <;> try omega
        refine zGkM (c + 1, m3, ch3) (by simp) rfl ⟨⟨by dsimp only; omega, by dsimp only; omega⟩, k1, fun s s0 s1 u hu => k2 _ _ (g2 s s0 s1 u hu), ?_⟩ (by dsimp only; omega)
        exact zvtS (fun q r r0 r1 hrel => k3 q hrel.2.2.1 (by have := hrel.2.2.2.1; omega) r r0 r1 hrel) fun c' c0' c1' q r r0 r1 hrel => k2 _ _ (g3 c' c0' c1' q r r0 r1 hrel)
    · simp [-zJRc, hcc]
      refine ⟨by omega, ?_⟩
      refine zGkM (i + 1, m2, ch2) (by simp) rfl ⟨⟨by dsimp only; omega, by dsimp only; omega⟩, g1, ?_⟩ (by dsimp only; omega)
      refine zvtS ?_ g2
      rintro u ⟨c', p, r, hc', hr', hp, rfl⟩
      exact g3 c' hc'.1 (by omega) p r hr'.1 hr'.2 hp
  · simp [hi]
    exact ⟨ch, m1, rfl, rfl, h1, fun s u s0 s1 hw => h2 s s0 (by omega) u hw⟩
end Ab
namespace Ab
theorem zwej {box : Blk} {N : Nat} {m : List (List Bool)} {rest : List Blk} : (mat box N m rest).length = 2 + m.length + rest.length := by simp [mat]; omega
theorem z3bP {box : Blk} {N : Nat} {m : List (List Bool)} {rest : List Blk} {B : Blk} : mat box N m rest ++ [B] = mat box N m (rest ++ [B]) := by simp [mat]
theorem z1lZ {α : Type} {f g : α → AV} {v : AV → Option AV} : ∀ {xs : List α}, (∀ x ∈ xs, v (f x) = some (g x)) → mapO v (xs.map f) = some (xs.map g)
  | [], _ => rfl
  | x :: xs, h => by
    have e := z1lZ (f := f) (g := g) (v := v) (xs := xs) fun y hy => h y (by simp [hy])
    simp only [List.map_cons, mapO, h x (by simp), e]
theorem zNcL {α : Type} {f g : α → AV} {σ : List Blk} {fr : Bool} {b k n : Nat} {xs : List α} {st : BSt} (h : blk σ b = some ⟨none, xs.map f, st⟩) (hs : st.isArr = true) (hn : n = xs.length) (hf : ∀ x ∈ xs, view σ fr k (f x) = some (g x)) :
    view σ fr (k + 1) (.sl b n 0 n) = some (.imm false (xs.map g)) := by
  subst hn
  have hu : upto σ b xs.length = some ⟨none, xs.map f, st⟩ := by
    unfold upto
    rw [h]
    cases st <;> simp at hs ⊢
  unfold view
  simp only [hu, kst, List.length_map, List.drop_zero, Nat.zero_add, Nat.mul_one, Nat.le_refl, if_true]
  rw [z9LC (by simp), z1lZ hf]
theorem zcyZ {m : List (List Bool)} : (List.range m.length).map (fun i => bL (ix m (i : Nat))) = m.map bL := by
  apply List.ext_getElem (by simp)
  intro i h1 h2
  simp at h1
  simp only [List.getElem_map, List.getElem_range, zrZW h1]
theorem zaLK {box : Blk} {N : Nat} {m : List (List Bool)} {rest : List Blk} {fr : Bool} (h : Sq N m) : view (mat box N m rest) fr vd (.sl 1 N 0 N) = some (.imm false (m.map bL)) := by
  obtain ⟨h1, h2⟩ := h
  subst h1
  rw [← zcyZ]
  refine zNcL (k := 11) (f := fun i => AV.sl (2 + i) m.length 0 m.length) (g := fun i => bL (ix m (i : Nat))) (xs := List.range m.length) (st := .live) (z922 rfl) (by simp) (by simp) fun i hi => ?_
  simp at hi
  have e := zd9S (box := box) (N := m.length) (rest := rest) (m := m) (s := (i : Int)) (by omega) (by omega)
  rw [Int.toNat_natCast] at e
  exact zIRd (k := 10) (f := AV.bool) e (by simp) (h2 _ (zmAQ (by omega) (by omega))).symm fun _ => rfl
theorem z7rO {box : Blk} {N : Nat} {m : List (List Bool)} {r : List Bool} (h : m.length < N) : setB (mat box N m [rowB r]) 1 ⟨none, (refs m.length N ++ List.replicate (N - m.length) AV.snil).set m.length (.sl (2 + m.length) N 0 N), .live⟩ = mat box N (m ++ [r]) [] := by
  rw [z4Wl]
  unfold mat
  simp only [List.set_cons_succ, List.set_cons_zero, List.map_append, List.map_cons, List.map_nil, List.append_nil, List.length_append, List.length_cons, List.length_nil, Nat.zero_add]
  congr 2
  rw [List.set_append, if_neg (by simp), show N - m.length = (N - (m.length + 1)) + 1 by omega, List.replicate_succ]
  rw [show refs (m.length + 1) N = refs m.length N ++ [AV.sl (2 + m.length) N 0 N] by simp only [refs, List.range_succ, List.map_append, List.map_cons, List.map_nil], List.append_assoc]
  simp
theorem zv5K {box : Blk} {N : Nat} {m : List (List Bool)} {r : List Bool} (h : m.length < N) : setB (mat box N m [rowB r]) 1 ⟨none, refs m.length N ++ (List.replicate (N - m.length) AV.snil).set 0 (.sl (2 + m.length) N 0 N), .live⟩ = mat box N (m ++ [r]) [] := by
  have := z7rO (box := box) (r := r) h
  rwa [List.set_append, if_neg (by simp), show m.length - (refs m.length N).length = 0 by simp] at this
theorem zsev {N k j : Nat} {s : Int} {K : AV → Prop} {t : Tk K} (h0 : 0 ≤ s) (h1 : s < k) : pT (refs k N ++ List.replicate j AV.snil) (0 + s.toNat * 1) none K t = K (.sl (2 + s.toNat) N 0 N) := by
  unfold pT part
  rw [show 0 + s.toNat * 1 = s.toNat by omega, znyW, List.getElem?_append_left (by simp; omega), List.getElem?_map, List.getElem?_range (by omega)]
  rfl
theorem zQOC {cs : List AV} {o : Nat} {x : AV} {K : List AV → Prop} {t : Tk K} : pU cs o [x] K t = (o < cs.length ∧ K (cs.set o x)) := by
  have e := zgTl (f := id) (xs := cs) (o := o) (y := x) (K := K) (t := t)
  simpa using e
theorem zAeq {box : Blk} {N : Nat} {m : List (List Bool)} {gar : List Blk} {B : Blk} : blk (mat box N m (gar ++ [B])) (2 + m.length + gar.length) = some B := by
  rw [zzWB, mat, show 2 + m.length + gar.length = (m.length + gar.length) + 1 + 1 by omega, List.getElem?_cons_succ, List.getElem?_cons_succ, ← List.append_assoc, List.getElem?_append_right (by simp)]
  simp
theorem zZaU {box : Blk} {N : Nat} {m : List (List Bool)} {gar : List Blk} {B B' : Blk} : setB (mat box N m (gar ++ [B])) (2 + m.length + gar.length) B' = mat box N m (gar ++ [B']) := by
  rw [z4Wl, mat, mat, show 2 + m.length + gar.length = (m.length + gar.length) + 1 + 1 by omega, List.set_cons_succ, List.set_cons_succ, ← List.append_assoc, ← List.append_assoc, List.set_append, if_neg (by simp)]
  simp
theorem zckU {R : List (List Bool)} {N : Nat} {r : List Bool} (h : R.length < N) : (R.map bL ++ List.replicate (N - R.length) AV.snil).set R.length (bL r) = (R ++ [r]).map bL ++ List.replicate (N - (R.length + 1)) AV.snil := by
  rw [List.set_append, if_neg (by simp), show N - R.length = (N - (R.length + 1)) + 1 by omega, List.replicate_succ]
  simp
theorem z3pC {R : List (List Bool)} {N : Nat} {r : List Bool} (h : R.length < N) : R.map bL ++ (List.replicate (N - R.length) AV.snil).set 0 (bL r) = (R ++ [r]).map bL ++ List.replicate (N - (R.length + (0 + 1))) AV.snil := by
  rw [← zckU h, List.set_append, if_neg (by simp)]; simp
theorem zpjr (M : Mch) (hM : M.Ok) (t : Nat) (v : AV) (hv : MOk t v M) (n : Nst) (hc : n.calls = M.calls) (hi : n.inns = M.inns) (hr : n.rets = M.rets) :
    LX L zWyS [.iface t v, n.av] [] (fun v τ => ∃ R : List (List Bool), viewT τ false v = some (.imm false (R.map bL)) ∧ Sq M.size R ∧ ∀ s u, 0 ≤ s → s < (M.size : Int) → 0 ≤ u → u < (M.size : Int) → (ix (ix R s) u = true ↔ Conn M s u)) := by
  obtain ⟨fz, tz, pz⟩ := hv.size
  obtain ⟨fi, ti, pi⟩ := hv.inner
  have hsz := hM.size
  have hMi := hM.inns
  have hloc := hv.loc
  have hwk := hv.wk
  refine zOoS rfl ?_
  simp [-List.map_replicate, tz, hloc, hwk, pz]
  refine ⟨by omega, ?_⟩
  refine zv8C (fun p : Int × List (List Bool) => [(3, .int p.1)]) (fun p => mat ⟨some 10, [.int n.calls, .int n.inns, .int n.rets, .int n.stack, .int n.start, bL n.accept, iLL n.call, iLL n.push, iLL n.inner, iLLL n.pop], .live⟩ M.size p.2 [])
    (fun p => (0 ≤ p.1 ∧ p.1 ≤ (M.size : Int)) ∧ (p.2.length : Int) = p.1 ∧ (∀ r ∈ p.2, r.length = M.size) ∧ ∀ s u, 0 ≤ s → s < p.1 → 0 ≤ u → u < (M.size : Int) → (ix (ix p.2 s) u = true ↔ ∃ i, 0 ≤ i ∧ i < M.inns ∧ u = M.inner s i))
    (fun p => (M.size - p.1).toNat) (0, []) (by simp [sets, mat]) ⟨by simp, by simp, by simp, fun s u s0 s1 => by simp at s1; omega⟩ ?_
  rintro ⟨s, m⟩ ⟨⟨s0, s1⟩, h1, h2, h3⟩
  dsimp only at s0 s1 h1 h2 h3 ⊢
  by_cases hs : s < (M.size : Int)
  · have hst : s.toNat = m.length := by omega
    have hlt : m.length < M.size := by omega
    have b1 := zv5K (box := ⟨some 10, [.int n.calls, .int n.inns, .int n.rets, .int n.stack, .int n.start, bL n.accept, iLL n.call, iLL n.push, iLL n.inner, iLLL n.pop], .live⟩) (N := M.size) (m := m) (r := List.replicate M.size false) hlt
    have b0 : ∀ m' rest, blk (mat ⟨some 10, [.int n.calls, .int n.inns, .int n.rets, .int n.stack, .int n.start, bL n.accept, iLL n.call, iLL n.push, iLL n.inner, iLLL n.pop], .live⟩ M.size m' rest) 0 = some ⟨some 10, [.int n.calls, .int n.inns, .int n.rets, .int n.stack, .int n.start, bL n.accept, iLL n.call, iLL n.push, iLL n.inner, iLLL n.pop], .live⟩ := fun m' rest => zSw6
    simp [-zJRc, -List.map_replicate, -List.map_set, -List.map_append, hs, s0, tz, hloc, hwk, pz, z3bP, zwej, zK1G, -zD0v, ↓zQOC, hst, b1, b0]
    (repeat' apply And.intro) <;> try omega
    refine zv8C (fun p : Int × List Bool => [(7, .int p.1)]) (fun p => mat ⟨some 10, [.int n.calls, .int n.inns, .int n.rets, .int n.stack, .int n.start, bL n.accept, iLL n.call, iLL n.push, iLL n.inner, iLLL n.pop], .live⟩ M.size (m ++ [p.2]) [])
      (fun p => (0 ≤ p.1 ∧ p.1 ≤ M.inns) ∧ p.2.length = M.size ∧ ∀ u, 0 ≤ u → u < (M.size : Int) → (ix p.2 u = true ↔ ∃ i, 0 ≤ i ∧ i < p.1 ∧ u = M.inner s i))
      (fun p => (M.inns - p.1).toNat) (0, List.replicate M.size false) (by simp [sets]) ⟨by simp; omega, by simp, fun u u0 u1 => by rw [z2Ia u0 (by omega)]; simp; intros; omega⟩ ?_
    rintro ⟨i, row⟩ ⟨⟨i0, i1⟩, g1, g2⟩
    dsimp only at i0 i1 g1 g2 ⊢
    by_cases hii : i < M.inns
    · have hu := hM.inner s i s0 hs i0 hii
      have e1 := pi s i s0 hs i0 hii
      have p1 := fun (K : AV → Prop) (t : Tk K) => zsev (N := M.size) (k := m.length + 1) (j := M.size - (m.length + 1)) (s := s) (K := K) (t := t) s0 (by omega)
      have b2 := zd9S (box := ⟨some 10, [.int n.calls, .int n.inns, .int n.rets, .int n.stack, .int n.start, bL n.accept, iLL n.call, iLL n.push, iLL n.inner, iLLL n.pop], .live⟩) (N := M.size) (rest := []) (m := m ++ [row]) s0 (by simp; omega)
      have b4 := fun r => zUeD (box := ⟨some 10, [.int n.calls, .int n.inns, .int n.rets, .int n.stack, .int n.start, bL n.accept, iLL n.call, iLL n.push, iLL n.inner, iLLL n.pop], .live⟩) (N := M.size) (rest := []) (m := m ++ [row]) (r := r) s0 (by simp; omega)
      have hix : ix (m ++ [row]) s = row := by
        unfold ix
        rw [hst, List.getD_eq_getElem?_getD, List.getElem?_append_right (Nat.le_refl _)]; simp
      have hset : ∀ r, (m ++ [row]).set s.toNat r = m ++ [r] := fun r => by rw [hst, List.set_append, if_neg (by omega)]; simp
      rw [hix] at b2
      simp [-zJRc, -List.map_replicate, -List.map_set, -List.map_append, show i < n.inns by omega, ti, hloc, hwk, e1, b0, b2, b4, zK1G, -zPTU, ↓p1, s0, hs, hu.1, hu.2, hset, g1]
      (repeat' apply And.intro) <;> try omega
      refine zGkM (i + 1, row.set (M.inner s i).toNat true) (by simp) rfl ⟨⟨by dsimp only; omega, by dsimp only; omega⟩, by simp [g1], fun u u0 u1 => ?_⟩ (by dsimp only; omega)
      dsimp only
      rw [zris u0 (by omega)]
      by_cases e : u = (M.inner s i).toNat
      · rw [if_pos e]
        simp only [true_iff]
        exact ⟨i, i0, by omega, by omega⟩
      · rw [if_neg e, g2 u u0 u1]
        constructor
        · rintro ⟨j, j0, j1, rfl⟩; exact ⟨j, j0, by omega, rfl⟩
        · rintro ⟨j, j0, j1, rfl⟩
          refine ⟨j, j0, ?_, rfl⟩
          by_cases ej : j = i
          · subst ej; omega
          · omega
    · simp [-zJRc, show ¬ i < n.inns by omega]
      refine ⟨by omega, ?_⟩
      refine zGkM (s + 1, m ++ [row]) (by simp) rfl ⟨⟨by dsimp only; omega, by dsimp only; omega⟩, by dsimp only; simp; omega, ?_, ?_⟩ (by dsimp only; omega)
      · intro r hr
        rcases List.mem_append.1 hr with hr | hr
        · exact h2 r hr
        · simp at hr; subst hr; exact g1
      · dsimp only
        intro s' u s0' s1' u0 u1
        by_cases e : s' = s
        · subst e
          have hix : ix (m ++ [row]) s' = row := by
            unfold ix
            rw [hst, List.getD_eq_getElem?_getD, List.getElem?_append_right (Nat.le_refl _)]; simp
          rw [hix, g2 u u0 u1, show i = M.inns by omega]
        · rw [zktv s0' (by omega)]
          exact h3 s' u s0' (by omega) u0 u1
  · have hl : m.length = M.size := by omega
    have hsq : Sq M.size m := ⟨hl, h2⟩
    have hsm : s = (M.size : Int) := by omega
    simp [-zJRc, hs]
    have hin : ∀ s u, rel m s u → ∃ i, 0 ≤ i ∧ i < M.inns ∧ u = M.inner s i := fun s' u hr => (h3 s' u hr.1 (by have := hr.2.1; omega) hr.2.2.1 (by have := hr.2.2.2.1; omega)).1 hr.2.2.2.2
    refine zv8C (fun p : List (List Bool) × List Blk × AV × AV × AV => [(3, p.2.2.1), (4, p.2.2.2.1), (10, p.2.2.2.2)]) (fun p => mat ⟨some 10, [.int n.calls, .int n.inns, .int n.rets, .int n.stack, .int n.start, bL n.accept, iLL n.call, iLL n.push, iLL n.inner, iLLL n.pop], .live⟩ M.size p.1 p.2.1)
      (fun p => Sq M.size p.1 ∧ (∀ a b, rel m a b → rel p.1 a b) ∧ ∀ a b, 0 ≤ a → a < (M.size : Int) → rel p.1 a b → Conn M a b)
      (fun p => cf p.1) (m, [], .int s, .int M.size, .und) (by simp [sets]) ⟨hsq, fun _ _ h => h, fun a b a0 a1 hr => ?_⟩ ?_
    · obtain ⟨i, i0, i1, rfl⟩ := hin a b hr
      exact .inn a i _ i0 i1 (.refl _)
    rintro ⟨m1, gar, x3, x4, x10⟩ ⟨k1, k2, k3⟩
    dsimp only at k1 k2 k3 ⊢
    simp [-zJRc, -List.map_replicate, tz, hloc, hwk, pz, z3bP, zwej, k1.1]
    refine ⟨by omega, ?_⟩
    have conn1 : ∀ a b, 0 ≤ a → a < (M.size : Int) → Star (rel m1) a b → Conn M a b ∧ (0 ≤ b ∧ b < (M.size : Int)) := by
      intro a b a0 a1 h
      induction h with
      | refl => exact ⟨.refl a, a0, a1⟩
      | tail t u _ h2 ih =>
        have := k3 t u ih.2.1 ih.2.2 h2
        exact ⟨ih.1.trans this, this.range hM ih.2⟩
    refine zv8C (fun p : Int × List (List Bool) => [(11, .int p.1)]) (fun p => mat ⟨some 10, [.int n.calls, .int n.inns, .int n.rets, .int n.stack, .int n.start, bL n.accept, iLL n.call, iLL n.push, iLL n.inner, iLLL n.pop], .live⟩ M.size m1 (gar ++ [⟨none, p.2.map bL ++ List.replicate (M.size - p.2.length) .snil, .live⟩]))
      (fun p => (0 ≤ p.1 ∧ p.1 ≤ (M.size : Int)) ∧ (p.2.length : Int) = p.1 ∧ (∀ r ∈ p.2, r.length = M.size) ∧ ∀ s u, 0 ≤ s → s < p.1 → 0 ≤ u → u < (M.size : Int) → (ix (ix p.2 s) u = true ↔ Star (rel m1) s u))
      (fun p => (M.size - p.1).toNat) (0, []) (by simp [sets]) ⟨by simp, by simp, by simp, fun s u s0 s1 => by simp at s1; omega⟩ ?_
    rintro ⟨i, R⟩ ⟨⟨i0, i1⟩, g1, g2, g3⟩
    dsimp only at i0 i1 g1 g2 g3 ⊢
    have hbl : ∀ m' B, m'.length = M.size → blk (mat ⟨some 10, [.int n.calls, .int n.inns, .int n.rets, .int n.stack, .int n.start, bL n.accept, iLL n.call, iLL n.push, iLL n.inner, iLLL n.pop], .live⟩ M.size m' (gar ++ [B])) (2 + M.size + gar.length) = some B := fun m' B h => by
      rw [← h]; exact zAeq
    by_cases hii : i < (M.size : Int)
    · obtain ⟨vv, σ', e1, row, e2, e3, e4⟩ := LX_s (zdHh m1 i (by rw [k1.1]; omega) (by rw [k1.1]; exact k1.2) ⟨i0, by rw [k1.1]; exact hii⟩)
      have hvm := zaLK (fr := false) (box := ⟨some 10, [.int n.calls, .int n.inns, .int n.rets, .int n.stack, .int n.start, bL n.accept, iLL n.call, iLL n.push, iLL n.inner, iLLL n.pop], .live⟩) (rest := gar ++ [⟨none, R.map bL ++ List.replicate (M.size - R.length) .snil, .live⟩]) k1
      have hst : i.toNat = R.length := by omega
      have hlt : R.length < M.size := by omega
      have hfn := z3pC (r := row) hlt
      have hsb := fun B => zZaU (box := ⟨some 10, [.int n.calls, .int n.inns, .int n.rets, .int n.stack, .int n.start, bL n.accept, iLL n.call, iLL n.push, iLL n.inner, iLLL n.pop], .live⟩) (N := M.size) (m := m1) (gar := gar) (B := ⟨none, R.map bL ++ List.replicate (M.size - R.length) .snil, .live⟩) (B' := B)
      rw [k1.1] at hsb
      simp [-zJRc, -List.map_replicate, -List.map_set, -List.map_append, hii, i0, hvm, e1, e2, hbl, k1.1, -zD0v, ↓zQOC, hst, hsb]
      (repeat' apply And.intro) <;> try omega
      refine zGkM (i + 1, R ++ [row]) (by simp) (by simp only [hfn, List.length_append, List.length_cons, List.length_nil]) ⟨⟨by dsimp only; omega, by dsimp only; omega⟩, by dsimp only; simp; omega, ?_, ?_⟩ (by dsimp only; omega)
      · intro r hr
        rcases List.mem_append.1 hr with hr | hr
        · exact g2 r hr
        · simp at hr; subst hr; rw [e3, k1.1]
      · dsimp only
        intro s' u s0' s1' u0 u1
        by_cases e : s' = i
        · subst e
          have hix : ix (R ++ [row]) s' = row := by
            unfold ix
            rw [hst, List.getD_eq_getElem?_getD, List.getElem?_append_right (Nat.le_refl _)]; simp
          rw [hix, e4 u u0 (by rw [k1.1]; exact u1)]
        · rw [zktv s0' (by omega)]
          exact g3 s' u s0' (by omega) u0 u1
    · have hRl : R.length = M.size := by omega
      have hRs : Sq M.size R := ⟨hRl, g2⟩
      have hRr : ∀ a b, rel R a b ↔ (0 ≤ a ∧ a < (M.size : Int)) ∧ Star (rel m1) a b := fun a b => by
        constructor
        · rintro ⟨a0, a1, b0, b1, hx⟩
          exact ⟨⟨a0, by omega⟩, (g3 a b a0 (by omega) b0 (by omega)).1 hx⟩
        · rintro ⟨⟨a0, a1⟩, hx⟩
          have := (conn1 a b a0 a1 hx).2
          exact ⟨a0, by omega, this.1, by omega, (g3 a b a0 (by omega) this.1 this.2).2 hx⟩
      have hcell : R.map bL ++ List.replicate (M.size - R.length) AV.snil = R.map bL := by rw [hRl]; simp
      rw [hcell]
      obtain ⟨vv, τ, e1, ch, m', rfl, rfl, hg, hw⟩ := LX_s (zSvQ M hM t v hv n hc hr ⟨some 10, [.int n.calls, .int n.inns, .int n.rets, .int n.stack, .int n.start, bL n.accept, iLL n.call, iLL n.push, iLL n.inner, iLLL n.pop], .live⟩ m1 R (gar ++ [⟨none, R.map bL, .live⟩]) (2 + M.size + gar.length) k1 hRs fun m' h => hbl m' _ (by rw [h, k1.1]))
      have b0 : ∀ m' rest, blk (mat ⟨some 10, [.int n.calls, .int n.inns, .int n.rets, .int n.stack, .int n.start, bL n.accept, iLL n.call, iLL n.push, iLL n.inner, iLLL n.pop], .live⟩ M.size m' rest) 0 = some ⟨some 10, [.int n.calls, .int n.inns, .int n.rets, .int n.stack, .int n.start, bL n.accept, iLL n.call, iLL n.push, iLL n.inner, iLLL n.pop], .live⟩ := fun m' rest => zSw6
      simp [-zJRc, hii, b0, e1]
      refine ⟨fun hch => ?_, fun hch => ?_⟩
      · subst hch
        refine zGkM (m', gar ++ [⟨none, R.map bL, .live⟩], _, _, _) rfl rfl ⟨hg.sq, fun a b h => hg.mono _ _ (k2 a b h), fun a b a0 a1 h => ?_⟩ (hg.yes rfl)
        rcases hg.sound a b h with h | ⟨c, p, r, hc', hr', hp, rfl⟩
        · exact k3 a b a0 a1 h
        · have q := hM.call a c a0 a1 hc'.1 hc'.2
          exact .call a c p r _ hc'.1 hc'.2 hr'.1 hr'.2 (conn1 _ _ q.1 q.2 ((hRr _ _).1 hp).2).1 (.refl _)
      · subst hch
        have hm' := hg.no rfl
        subst hm'
        have hvw : view (mat ⟨some 10, [.int n.calls, .int n.inns, .int n.rets, .int n.stack, .int n.start, bL n.accept, iLL n.call, iLL n.push, iLL n.inner, iLLL n.pop], .live⟩ M.size m' (gar ++ [⟨none, R.map bL, .live⟩])) false vd (.sl (2 + M.size + gar.length) M.size 0 M.size) = some (.imm false (R.map bL)) := zIRd (k := 11) (f := bL) (g := bL) (xs := R) (st := .live) (hbl m' _ k1.1) (by simp) hRl.symm fun _ => rfl
        refine ⟨R, hvw, hRs, fun s u s0 s1 u0 u1 => ?_⟩
        rw [g3 s u s0 (by omega) u0 u1]
        refine zC4t hM k3 (fun s i s0 s1 i0 i1 => ?_) (fun s c p r s0 s1 c0 c1 r0 r1 hst => ?_) ⟨s0, s1⟩
        · have q := hM.inner s i s0 s1 i0 i1
          exact k2 _ _ ⟨s0, by omega, q.1, by omega, (h3 s _ s0 (by omega) q.1 q.2).2 ⟨i, i0, i1, rfl⟩⟩
        · have q := hM.call s c s0 s1 c0 c1
          exact hw s _ s0 s1 ⟨c, p, r, ⟨c0, c1⟩, ⟨r0, r1⟩, (hRr _ _).2 ⟨q, hst⟩, rfl⟩
end Ab
namespace Ab
def Joined (M : Mch) (T : List (List Bool)) (s t : Int) : Prop :=
  (∃ i, 0 ≤ i ∧ i < M.inns ∧ ix (ix T (M.inner s i)) t = true) ∨
  ∃ c p r, (0 ≤ c ∧ c < M.calls) ∧ (0 ≤ p ∧ p < (M.size : Int)) ∧ (0 ≤ r ∧ r < M.rets) ∧ ix (ix T (M.call s c).1) p = true ∧ ix (ix T (M.pop p (M.call s c).2 r)) t = true
theorem zWAI (n : Nst) (hn : n.Ok) (T : List (List Bool)) (hT : Sq n.accept.length T) (s t : Int) (s0 : 0 ≤ s) (s1 : s < n.accept.length) (t0 : 0 ≤ t) (t1 : t < n.accept.length) :
    LX L zCCG [n.av, .imm false (T.map bL), .int s, .int t] [] (fun v _ => ∃ b, v = .bool b ∧ (b = true ↔ Joined n.mch T s t)) := by
  refine z3HA rfl ?_
  have ln := hn.lens
  have rw' := hn.row s s0 s1
  have hT1 := hT.1
  have hcal := hn.calls
  have hinn := hn.inns
  have hret := hn.rets
  have hst := hn.states
  have ds1 : s < (n.inner.length : Int) := by omega
  have ds2 : s < (n.call.length : Int) := by omega
  have ds3 : s < (n.push.length : Int) := by omega
  simp
  refine zv8C (fun i : Int => [(4, .int i)]) (fun _ => []) (fun i => (0 ≤ i ∧ i ≤ n.inns) ∧ ∀ j, 0 ≤ j → j < i → ix (ix T (ix (ix n.inner s) j)) t = false) (fun i => (n.inns - i).toNat) 0 rfl ⟨⟨by omega, by omega⟩, zguy⟩ fun i ⟨⟨i0, i1⟩, hI⟩ => ?_
  by_cases hi : i < n.inns
  · have q := hn.inner s i s0 s1 i0 hi
    have rl := hT.row q.1 q.2
    simp [-zJRc, hi, i0, s0, ds1, q.1, show i < ((ix n.inner s).length : Int) by omega, show ix (ix n.inner s) i < (T.length : Int) by omega, t0, show t < ((ix T (ix (ix n.inner s) i)).length : Int) by omega]
    refine ⟨fun hx => .inl ⟨i, i0, hi, hx⟩, fun hx => ?_⟩
    · refine ⟨by omega, zGkM (i + 1) rfl rfl ⟨⟨by omega, by omega⟩, zvtS hx hI⟩ (by omega)⟩
  simp [-zJRc, hi]
  refine zv8C (fun i : Int => [(6, .int i)]) (fun _ => []) (fun c => (0 ≤ c ∧ c ≤ n.calls) ∧ ∀ c', 0 ≤ c' → c' < c → ∀ p, 0 ≤ p → p < (n.accept.length : Int) → ix (ix T (ix (ix n.call s) c')) p = true → ∀ r, 0 ≤ r → r < n.rets → ix (ix T (ix (ix (ix n.pop p) (ix (ix n.push s) c')) r)) t = false) (fun i => (n.calls - i).toNat) 0 rfl ⟨⟨by omega, by omega⟩, zguy⟩ fun c ⟨⟨c0, c1⟩, hC⟩ => ?_
  by_cases hc : c < n.calls
  · have q := hn.call s c s0 s1 c0 hc
    have qp := hn.push s c s0 s1 c0 hc
    have rl := hT.row q.1 q.2
    have dc1 : c < ((ix n.call s).length : Int) := by omega
    have dc2 : c < ((ix n.push s).length : Int) := by omega
    simp [-zJRc, hc]
    refine zv8C (fun i : Int => [(7, .int i)]) (fun _ => []) (fun p => (0 ≤ p ∧ p ≤ (n.accept.length : Int)) ∧ ∀ p', 0 ≤ p' → p' < p → ix (ix T (ix (ix n.call s) c)) p' = true → ∀ r, 0 ≤ r → r < n.rets → ix (ix T (ix (ix (ix n.pop p') (ix (ix n.push s) c)) r)) t = false) (fun i => (n.accept.length - i).toNat) 0 rfl ⟨⟨by omega, by omega⟩, zguy⟩ fun p ⟨⟨p0, p1⟩, hP⟩ => ?_
    by_cases hp : p < (n.accept.length : Int)
    · have dp : p < ((ix T (ix (ix n.call s) c)).length : Int) := by omega
      have rwp := hn.row p p0 hp
      by_cases hx : ix (ix T (ix (ix n.call s) c)) p = true
      · simp [-zJRc, hp, s0, ds2, c0, dc1, q.1, show ix (ix n.call s) c < (T.length : Int) by omega, p0, dp, hx]
        refine zv8C (fun i : Int => [(8, .int i)]) (fun _ => []) (fun r => (0 ≤ r ∧ r ≤ n.rets) ∧ ∀ r', 0 ≤ r' → r' < r → ix (ix T (ix (ix (ix n.pop p) (ix (ix n.push s) c)) r')) t = false) (fun i => (n.rets - i).toNat) 0 rfl ⟨⟨by omega, by omega⟩, zguy⟩ fun r ⟨⟨r0, r1⟩, hR⟩ => ?_
        by_cases hr : r < n.rets
        · have qo := hn.pop p _ r p0 hp qp.1 qp.2 r0 hr
          have lo := hn.popl p _ p0 hp qp.1 qp.2
          have rl2 := hT.row qo.1 qo.2
          simp [-zJRc, hr, s0, ds3, c0, dc2, p0, r0, qp.1, t0, qo.1, show p < (n.pop.length : Int) by omega, show ix (ix n.push s) c < ((ix n.pop p).length : Int) by omega, show r < ((ix (ix n.pop p) (ix (ix n.push s) c)).length : Int) by omega, show ix (ix (ix n.pop p) (ix (ix n.push s) c)) r < (T.length : Int) by omega, show t < ((ix T (ix (ix (ix n.pop p) (ix (ix n.push s) c)) r)).length : Int) by omega]
          refine ⟨fun hy => .inr ⟨c, p, r, ⟨c0, hc⟩, ⟨p0, hp⟩, ⟨r0, hr⟩, hx, hy⟩, fun hy => ?_⟩
          · exact ⟨by omega, zGkM (r + 1) rfl rfl ⟨⟨by omega, by omega⟩, zvtS hy hR⟩ (by omega)⟩
        · simp [-zJRc, hr]
          exact ⟨by omega, zGkM (p + 1) rfl rfl ⟨⟨by omega, by omega⟩, zvtS (fun _ r' a b => hR r' a (by omega)) hP⟩ (by omega)⟩
      · have hx' : ix (ix T (ix (ix n.call s) c)) p = false := by simpa using hx
        simp [-zJRc, hp, s0, ds2, c0, dc1, q.1, show ix (ix n.call s) c < (T.length : Int) by omega, p0, dp, hx']
        exact ⟨by omega, zGkM (p + 1) rfl rfl ⟨⟨by omega, by omega⟩, zvtS (fun h => absurd h hx) hP⟩ (by omega)⟩
    · simp [-zJRc, hp]
      exact ⟨by omega, zGkM (c + 1) rfl rfl ⟨⟨by omega, by omega⟩, zvtS (fun p' a b => hP p' a (by omega)) hC⟩ (by omega)⟩
  · simp [-zJRc, hc]
    rintro (⟨i', a, b, hx⟩ | ⟨c', p, r, hc', hp', hr', hx, hy⟩)
    · have := hI i' a (by simp only [Nst.mch] at b; omega)
      simp only [Nst.mch] at hx
      rw [this] at hx; simp at hx
    · have := hC c' hc'.1 (by have := hc'.2; simp only [Nst.mch] at this; omega) p hp'.1 hp'.2 hx r hr'.1 hr'.2
      simp only [Nst.mch] at hy
      rw [this] at hy; simp at hy
def refs0 (k N : Nat) : List AV := (List.range k).map fun i => AV.sl (1 + i) N 0 N
theorem zRNk {k N : Nat} : (refs0 k N).length = k := by simp [refs0]
theorem zhf1 {k N : Nat} : refs0 (k + 1) N = refs0 k N ++ [.sl (1 + k) N 0 N] := by simp [refs0, List.range_succ]
theorem zJ5G {k N : Nat} {K : List AV → Prop} {t : Tk K} : nC (refs0 k N ++ [.sl (1 + k) N 0 N]) K t = K (refs0 (k + 1) N) := by rw [zhf1]; rfl
theorem z537 {N k : Nat} {s : Int} (h0 : 0 ≤ s) (h1 : s < k) : elm (refs0 k N) s.toNat = some (.sl (1 + s.toNat) N 0 N) := by
  rw [znyW, refs0, List.getElem?_map, List.getElem?_range (by omega)]
  rfl
def mat0 (N : Nat) (m : List (List Bool)) : List Blk := ⟨none, refs0 m.length N, stOf m⟩ :: m.map rowB
theorem z0OA {N : Nat} {m : List (List Bool)} : (mat0 N m).length = 1 + m.length := by simp [mat0]; omega
theorem zS2x {N : Nat} {m : List (List Bool)} : blk (mat0 N m) 0 = some ⟨none, refs0 m.length N, stOf m⟩ := rfl
theorem z1PF {N : Nat} {m : List (List Bool)} {B : Blk} : blk (mat0 N m ++ [B]) 0 = some ⟨none, refs0 m.length N, stOf m⟩ := rfl
theorem zbJs {N : Nat} {m : List (List Bool)} {s : Int} (h0 : 0 ≤ s) (h1 : s < m.length) : blk (mat0 N m) (1 + s.toNat) = some ⟨none, (ix m s).map .bool, .live⟩ := by
  rw [zzWB, mat0, show 1 + s.toNat = s.toNat + 1 by omega, List.getElem?_cons_succ, List.getElem?_map, ix_eq h0 h1]
  rfl
theorem zs8o {N : Nat} {m : List (List Bool)} {s : Int} {r : List Bool} (h0 : 0 ≤ s) (h1 : s < m.length) : setB (mat0 N m) (1 + s.toNat) ⟨none, r.map .bool, .live⟩ = mat0 N (m.set s.toNat r) := by
  rw [z4Wl, mat0, mat0, show 1 + s.toNat = s.toNat + 1 by omega, List.set_cons_succ]
  simp [List.map_set]
theorem z4ac {N : Nat} {m : List (List Bool)} {r : List Bool} : setB (mat0 N m ++ [⟨none, r.map .bool, .live⟩]) 0 ⟨none, refs0 (m.length + 1) N, .live⟩ = mat0 N (m ++ [r]) := by
  rw [z4Wl, mat0, mat0]
  simp
theorem zLSd {N : Nat} {m : List (List Bool)} {fr : Bool} (h : Sq N m) (hN : 0 < N) : view (mat0 N m) fr vd (.sl 0 N 0 N) = some (.imm false (m.map bL)) := by
  obtain ⟨h1, h2⟩ := h
  subst h1
  rw [← zcyZ]
  have hst : stOf m = .live := by cases m with
    | nil => simp at hN
    | cons => rfl
  refine zNcL (k := 11) (f := fun i => AV.sl (1 + i) m.length 0 m.length) (g := fun i => bL (ix m (i : Nat))) (xs := List.range m.length) (st := .live) (by rw [zS2x, hst]; rfl) (by simp) (by simp) fun i hi => ?_
  simp at hi
  have e := zbJs (N := m.length) (m := m) (s := (i : Int)) (by omega) (by omega)
  rw [Int.toNat_natCast] at e
  exact zIRd (k := 10) (f := AV.bool) e (by simp) (h2 _ (zmAQ (by omega) (by omega))).symm fun _ => rfl
structure Gw (M : Mch) (m m' : List (List Bool)) (ch : Bool) : Prop where
  sq : Sq M.size m'
  mono : ∀ s t, rel m s t → rel m' s t
  sound : ∀ s t, rel m' s t → Conn M s t
  no : ch = false → m' = m
  yes : ch = true → cf m' < cf m
theorem zaY7 {M : Mch} (hM : M.Ok) {T : List (List Bool)} (hT : Sq M.size T) (sound : ∀ s t, rel T s t → Conn M s t) {s t : Int} (s0 : 0 ≤ s) (s1 : s < (M.size : Int)) (t0 : 0 ≤ t) (t1 : t < (M.size : Int)) (h : Joined M T s t) : Conn M s t := by
  have hl := hT.1
  rcases h with ⟨i, i0, i1, h⟩ | ⟨c, p, r, hc, hp, hr, hx, hy⟩
  · have q := hM.inner s i s0 s1 i0 i1
    exact .inn s i t i0 i1 (sound _ _ ⟨q.1, by omega, t0, by omega, h⟩)
  · have q := hM.call s c s0 s1 hc.1 hc.2
    have q2 := hM.pop s c p r s0 s1 hc.1 hc.2 hp.1 hp.2 hr.1 hr.2
    exact .call s c p r t hc.1 hc.2 hr.1 hr.2 (sound _ _ ⟨q.1, by omega, hp.1, by omega, hx⟩) (sound _ _ ⟨q2.1, by omega, t0, by omega, hy⟩)
theorem zJ28 (n : Nst) (hn : n.Ok) : LX L zU2R [n.av] [] (fun v τ => ∃ R : List (List Bool), viewT τ false v = some (.imm false (R.map bL)) ∧ Sq n.accept.length R ∧ ∀ s u, 0 ≤ s → s < (n.accept.length : Int) → 0 ≤ u → u < (n.accept.length : Int) → (ix (ix R s) u = true ↔ Conn n.mch s u)) := by
  have hM := ztQm hn
  have hst := hn.states
  refine zhzU rfl ?_
  simp
  refine zv8C (fun p : Int × List (List Bool) => [(1, .int p.1), (3, .sl 0 p.2.length 0 p.2.length)]) (fun p => mat0 n.accept.length p.2)
    (fun p => (0 ≤ p.1 ∧ p.1 ≤ (n.accept.length : Int)) ∧ (p.2.length : Int) = p.1 ∧ (∀ r ∈ p.2, r.length = n.accept.length) ∧ ∀ s u, 0 ≤ s → s < p.1 → 0 ≤ u → u < (n.accept.length : Int) → (ix (ix p.2 s) u = true ↔ s = u))
    (fun p => (n.accept.length - p.1).toNat) (0, []) rfl ⟨by simp, by simp, by simp, fun s u s0 s1 => by simp at s1; omega⟩ ?_
  rintro ⟨s, m⟩ ⟨⟨s0, s1⟩, h1, h2, h3⟩
  dsimp only at s0 s1 h1 h2 h3 ⊢
  by_cases hs : s < (n.accept.length : Int)
  · have hpt := z537 (N := n.accept.length) (k := m.length + 1) (s := s) s0 (by omega)
    have hrw := zbJs (N := n.accept.length) (m := m ++ [List.replicate n.accept.length false]) s0 (by simp; omega)
    have hse := fun r => zs8o (N := n.accept.length) (m := m ++ [List.replicate n.accept.length false]) (r := r) s0 (by simp; omega)
    have hix : ix (m ++ [List.replicate n.accept.length false]) s = List.replicate n.accept.length false := by
      unfold ix
      rw [show s.toNat = m.length by omega, List.getD_eq_getElem?_getD, List.getElem?_append_right (Nat.le_refl _)]; simp
    have hset : ∀ r, (m ++ [List.replicate n.accept.length false]).set s.toNat r = m ++ [r] := fun r => by rw [show s.toNat = m.length by omega, List.set_append, if_neg (by omega)]; simp
    rw [hix] at hrw
    simp [-zJRc, -List.map_replicate, -List.map_set, -List.map_append, hs, s0, z0OA, z1PF, zS2x, zRNk, zJ5G, z4ac, hpt, hrw, hse, hset]
    (repeat' apply And.intro) <;> try omega
    refine zGkM (s + 1, m ++ [(List.replicate n.accept.length false).set s.toNat true]) (by simp) rfl ⟨⟨by dsimp only; omega, by dsimp only; omega⟩, by dsimp only; simp; omega, ?_, ?_⟩ (by dsimp only; omega)
    · intro r hr
      rcases List.mem_append.1 hr with hr | hr
      · exact h2 r hr
      · simp at hr; subst hr; simp
    · dsimp only
      intro s' u s0' s1' u0 u1
      by_cases e : s' = s
      · subst e
        rw [show ix (m ++ [(List.replicate n.accept.length false).set s'.toNat true]) s' = (List.replicate n.accept.length false).set s'.toNat true by
          unfold ix
          rw [show s'.toNat = m.length by omega, List.getD_eq_getElem?_getD, List.getElem?_append_right (Nat.le_refl _)]; simp]
        rw [zris u0 (by simp; omega), z2Ia u0 (by omega)]
        by_cases e2 : u = s'.toNat
        · rw [if_pos e2]; simp; omega
        · rw [if_neg e2]; simp; omega
      · rw [zktv s0' (by omega)]
        exact h3 s' u s0' (by omega) u0 u1
  · have hml : m.length = n.accept.length := by omega
    have hsq : Sq n.accept.length m := ⟨hml, h2⟩
    simp [-zJRc, hs]
    refine zv8C (fun p : Bool × List (List Bool) × AV × AV => [(4, .bool p.1), (5, p.2.2.1), (6, p.2.2.2)]) (fun p => mat0 n.accept.length p.2.1)
      (fun p => Sq n.accept.length p.2.1 ∧ (∀ a b, rel m a b → rel p.2.1 a b) ∧ (∀ a b, rel p.2.1 a b → Conn n.mch a b) ∧ (p.1 = false → ∀ s t, 0 ≤ s → s < (n.accept.length : Int) → 0 ≤ t → t < (n.accept.length : Int) → Joined n.mch p.2.1 s t → rel p.2.1 s t))
      (fun p => 2 * cf p.2.1 + if p.1 = true then 1 else 0) (true, m, .und, .und) (by simp [sets]) ⟨hsq, fun _ _ h => h, fun a b hr => ?_, by simp⟩ ?_
    · dsimp only at hr
      have := (h3 a b hr.1 (by have := hr.2.1; omega) hr.2.2.1 (by have := hr.2.2.2.1; omega)).1 hr.2.2.2.2
      subst this; exact .refl _
    rintro ⟨ch, m1, x5, x6⟩ ⟨k1, k2, k3, k4⟩
    dsimp only at k1 k2 k3 k4 ⊢
    cases ch with
    | false =>
      simp [-zJRc]
      refine ⟨m1, ?_, k1, fun s u s0 s1 u0 u1 => ?_⟩
      · rw [hml]; exact zLSd k1 (by omega)
      · have hl := k1.1
        have key := z2ph (M := n.mch) hM (T := rel m1) k3 (fun s s0 s1 => k2 _ _ ⟨s0, by simp only [Nst.mch] at s1; omega, s0, by simp only [Nst.mch] at s1; omega, (h3 s s s0 (by simp only [Nst.mch] at s1; omega) s0 (by simp only [Nst.mch] at s1; omega)).2 rfl⟩)
          (fun s i t s0 s1 i0 i1 t0 t1 h => k4 rfl s t s0 s1 t0 t1 (.inl ⟨i, i0, i1, h.2.2.2.2⟩))
          (fun s c p r t s0 s1 c0 c1 p0 p1 r0 r1 t0 t1 h h' => k4 rfl s t s0 s1 t0 t1 (.inr ⟨c, p, r, ⟨c0, c1⟩, ⟨p0, p1⟩, ⟨r0, r1⟩, h.2.2.2.2, h'.2.2.2.2⟩)) (a := s) (b := u) ⟨s0, s1⟩
        rw [← key]
        exact ⟨fun h => ⟨s0, by omega, u0, by omega, h⟩, fun h => h.2.2.2.2⟩
    | true =>
      simp [-zJRc]
      refine zv8C (fun p : Int × List (List Bool) × Bool × AV => [(5, .int p.1), (4, .bool p.2.2.1), (6, p.2.2.2)]) (fun p => mat0 n.accept.length p.2.1)
        (fun p => (0 ≤ p.1 ∧ p.1 ≤ (n.accept.length : Int)) ∧ Gw n.mch m1 p.2.1 p.2.2.1 ∧ (p.2.2.1 = false → ∀ s, 0 ≤ s → s < p.1 → ∀ t, 0 ≤ t → t < (n.accept.length : Int) → Joined n.mch p.2.1 s t → rel p.2.1 s t))
        (fun p => (n.accept.length - p.1).toNat) (0, m1, false, x6) (by simp [sets]) ⟨⟨by simp, by simp⟩, ⟨k1, fun _ _ h => h, k3, fun _ => rfl, by simp⟩, fun _ => zguy⟩ ?_
      rintro ⟨i, m2, ch2, y6⟩ ⟨⟨i0, i1⟩, g1, g2⟩
      dsimp only at i0 i1 g1 g2 ⊢
      by_cases hi : i < (n.accept.length : Int)
      · simp [-zJRc, hi]
        refine zv8C (fun p : Int × List (List Bool) × Bool => [(6, .int p.1), (4, .bool p.2.2)]) (fun p => mat0 n.accept.length p.2.1)
          (fun p => (0 ≤ p.1 ∧ p.1 ≤ (n.accept.length : Int)) ∧ Gw n.mch m1 p.2.1 p.2.2 ∧ (p.2.2 = false → ch2 = false ∧ ∀ t, 0 ≤ t → t < p.1 → Joined n.mch p.2.1 i t → rel p.2.1 i t))
          (fun p => (n.accept.length - p.1).toNat) (0, m2, ch2) (by simp [sets]) ⟨⟨by simp, by simp⟩, g1, fun h => ⟨h, zguy⟩⟩ ?_
        rintro ⟨j, m3, ch3⟩ ⟨⟨j0, j1⟩, l1, l2⟩
        dsimp only at j0 j1 l1 l2 ⊢
        by_cases hj : j < (n.accept.length : Int)
        · have hl3 := l1.sq.1
          have hr3 := l1.sq.row i0 hi
          simp only [Nst.mch] at hl3 hr3
          have hne : m3 ≠ [] := fun h => by rw [h] at hl3; simp at hl3; omega
          have hpt := z537 (N := n.accept.length) (k := n.accept.length) (s := i) i0 (by omega)
          have hrw := zbJs (N := n.accept.length) (m := m3) i0 (by omega)
          have hse := fun r => zs8o (N := n.accept.length) (m := m3) (r := r) i0 (by omega)
          have hout : ∀ m', m'.length = n.accept.length → blk (mat0 n.accept.length m') 0 = some ⟨none, refs0 n.accept.length n.accept.length, .live⟩ := fun m' h => by
            rw [zS2x, h]
            cases m' with
            | nil => simp at h; omega
            | cons => rfl
          have ho3 := hout m3 hl3
          have hrelx : rel m3 i j ↔ ix (ix m3 i) j = true := ⟨fun h => h.2.2.2.2, fun h => ⟨i0, by omega, j0, by omega, h⟩⟩
          cases hx : ix (ix m3 i) j with
          | true =>
            simp [-zJRc, -List.map_set, hi, hj, i0, j0, ho3, zRNk, hpt, hrw, hx, hml, hr3]
            (repeat' apply And.intro) <;> try omega
            exact zGkM (j + 1, m3, ch3) (by simp) rfl ⟨⟨by dsimp only; omega, by dsimp only; omega⟩, l1, fun h => ⟨(l2 h).1, zvtS (fun _ => hrelx.2 hx) (l2 h).2⟩⟩ (by dsimp only; omega)
          | false =>
            obtain ⟨vv, σ', e1, b, rfl, e2⟩ := LX_s (zWAI n hn m3 l1.sq i j i0 hi j0 hj)
            have hvm := zLSd (fr := false) (show Sq n.accept.length m3 from l1.sq) (by omega)
            cases b with
            | false =>
              simp [-zJRc, -List.map_set, hi, hj, i0, j0, ho3, zRNk, hpt, hrw, hx, hml, hr3, hvm, e1]
              (repeat' apply And.intro) <;> try omega
              exact zGkM (j + 1, m3, ch3) (by simp) rfl ⟨⟨by dsimp only; omega, by dsimp only; omega⟩, l1, fun h => ⟨(l2 h).1, zvtS (fun hh => by simpa using e2.2 hh) (l2 h).2⟩⟩ (by dsimp only; omega)
            | true =>
              have hJ := e2.1 rfl
              simp [-zJRc, -List.map_set, hi, hj, i0, j0, ho3, zRNk, hpt, hrw, hx, hml, hr3, hvm, e1, hse, show j.toNat < n.accept.length by omega]
              (repeat' apply And.intro) <;> try omega
              have hsqu := zdcL (u := j) l1.sq i0 hi
              have hur := fun a b => zfpX (a := a) (b := b) l1.sq i0 hi j0 hj
              have hcf := zjOK l1.sq i0 hi j0 hj hx
              refine zGkM (j + 1, upd m3 i j, true) (by simp) (by simp [upd]) ⟨⟨by dsimp only; omega, by dsimp only; omega⟩, ⟨hsqu, fun a b h => (hur a b).2 (.inl (l1.mono a b h)), fun a b h => ?_, by simp, fun _ => ?_⟩, by simp⟩ (by dsimp only; omega)
              · rcases (hur a b).1 h with h | ⟨rfl, rfl⟩
                · exact l1.sound a b h
                · exact zaY7 hM l1.sq l1.sound i0 hi j0 hj hJ
              · dsimp only
                cases ch3 with
                | true => have := l1.yes rfl; omega
                | false => have := l1.no rfl; subst this; omega
        · simp [-zJRc, hj]
          refine ⟨by omega, ?_⟩
          refine zGkM (i + 1, m3, ch3, .und) (by simp) rfl ⟨⟨by dsimp only; omega, by dsimp only; omega⟩, l1, fun h => ?_⟩ (by dsimp only; omega)
          dsimp only at h ⊢
          obtain ⟨h1, h2⟩ := l2 h
          have e3 := l1.no h
          have e2 := g1.no h1
          subst e3; subst e2
          exact zvtS (fun t t0 t1 hJ => h2 t t0 (by omega) hJ) (g2 h1)
      · simp [-zJRc, hi]
        refine zGkM (ch2, m2, _, _) rfl rfl ⟨g1.sq, fun a b h => g1.mono a b (k2 a b h), g1.sound, fun h s t s0 s1 t0 t1 hJ => g2 h s s0 (by omega) t t0 t1 hJ⟩ ?_
        dsimp only
        cases ch2 with
        | true => have := g1.yes rfl; simp; omega
        | false => have := g1.no rfl; subst this; simp
noncomputable def conT (M : Mch) : List (List Bool) := by
  classical
  exact (List.range M.size).map fun s => (List.range M.size).map fun t => decide (Conn M (s : Nat) (t : Nat))
theorem z90g {M : Mch} : Sq M.size (conT M) := by
  constructor
  · simp [conT]
  · intro r hr
    simp only [conT, List.mem_map] at hr
    obtain ⟨s, _, rfl⟩ := hr
    simp
theorem z4iI {M : Mch} {s t : Int} (s0 : 0 ≤ s) (s1 : s < (M.size : Int)) (t0 : 0 ≤ t) (t1 : t < (M.size : Int)) : ix (ix (conT M) s) t = true ↔ Conn M s t := by
  have e1 : ix (conT M) s = (List.range M.size).map fun u => by classical exact decide (Conn M (s.toNat : Nat) (u : Nat)) := by
    unfold ix conT
    rw [List.getD_eq_getElem?_getD, List.getElem?_map, List.getElem?_range (by omega)]
    rfl
  rw [e1]
  unfold ix
  rw [List.getD_eq_getElem?_getD, List.getElem?_map, List.getElem?_range (by omega)]
  simp [show ((s.toNat : Nat) : Int) = s by omega, show ((t.toNat : Nat) : Int) = t by omega]
theorem zSql {α : Type} [Inhabited α] {l m : List α} (h : l.length = m.length) (h2 : ∀ i : Int, 0 ≤ i → i < l.length → ix l i = ix m i) : l = m := by
  apply List.ext_getElem h
  intro i h3 h4
  have := h2 i (by omega) (by omega)
  rwa [zrZW h3, zrZW h4] at this
theorem zc1c {N : Nat} {m m' : List (List Bool)} (h : Sq N m) (h' : Sq N m') (e : ∀ s t, 0 ≤ s → s < (N : Int) → 0 ≤ t → t < (N : Int) → (ix (ix m s) t = true ↔ ix (ix m' s) t = true)) : m = m' := by
  refine zSql (by rw [h.1, h'.1]) fun i i0 i1 => ?_
  have l1 := h.1
  have := h.row i0 (by omega)
  have := h'.row i0 (by omega)
  refine zSql (by omega) fun j j0 j1 => ?_
  rw [Bool.eq_iff_iff]
  exact e i j i0 (by omega) j0 (by omega)
theorem zpsH {M : Mch} {R : List (List Bool)} (h : Sq M.size R) (h2 : ∀ s u, 0 ≤ s → s < (M.size : Int) → 0 ≤ u → u < (M.size : Int) → (ix (ix R s) u = true ↔ Conn M s u)) : R = conT M :=
  zc1c h z90g fun s t s0 s1 t0 t1 => by rw [h2 s t s0 s1 t0 t1, z4iI s0 s1 t0 t1]
theorem zInf (M : Mch) (hM : M.Ok) (t : Nat) (v : AV) (hv : MOk t v M) (n : Nst) (hc : n.calls = M.calls) (hi : n.inns = M.inns) (hr : n.rets = M.rets) : PC zWyS [.iface t v, n.av] = some (.imm false ((conT M).map bL)) := by
  refine zx72 ?_
  obtain ⟨v', σ', h1, R, h2, h3, h4⟩ := LX_s (zpjr M hM t v hv n hc hi hr)
  refine LX_of h1 ?_
  rw [h2, zpsH h3 h4]
  simp
theorem z8lI (n : Nst) (hn : n.Ok) : PC zU2R [n.av] = some (.imm false ((conT n.mch).map bL)) := by
  refine zx72 ?_
  obtain ⟨v', σ', h1, R, h2, h3, h4⟩ := LX_s (zJ28 n hn)
  refine LX_of h1 ?_
  rw [h2, zpsH (M := n.mch) h3 h4]
  simp
end Ab
namespace Ab
inductive Wd (M : Mch) : Int → Int → List Int → Prop
  | nil (s : Int) : Wd M s s []
  | inn (s i t : Int) (w : List Int) : 0 ≤ i → i < M.inns → Wd M (M.inner s i) t w → Wd M s t ((M.calls + i) :: w)
  | call (s c p r t : Int) (u v : List Int) : 0 ≤ c → c < M.calls → 0 ≤ r → r < M.rets → Wd M (M.call s c).1 p u → Wd M (M.pop p (M.call s c).2 r) t v → Wd M s t (c :: (u ++ (M.calls + M.inns + r) :: v))
theorem Wd.app {M : Mch} {a b c : Int} {u v : List Int} (h : Wd M a b u) (k : Wd M b c v) : Wd M a c (u ++ v) := by
  induction h with
  | nil s => exact k
  | inn s i t w h0 h1 _ ih => exact .inn s i c _ h0 h1 (ih k)
  | call s x p r t u v h0 h1 h2 h3 h4 _ _ ih =>
    have := Wd.call s x p r c u _ h0 h1 h2 h3 h4 (ih k)
    simpa using this
theorem Wd.conn {M : Mch} {a b : Int} {u : List Int} (h : Wd M a b u) : Conn M a b := by
  induction h with
  | nil s => exact .refl s
  | inn s i t w h0 h1 _ ih => exact .inn s i t h0 h1 ih
  | call s x p r t u v h0 h1 h2 h3 _ _ ih1 ih2 => exact .call s x p r t h0 h1 h2 h3 ih1 ih2
theorem Conn.wd {M : Mch} {a b : Int} (h : Conn M a b) : ∃ u, Wd M a b u := by
  induction h with
  | refl s => exact ⟨[], .nil s⟩
  | inn s i t h0 h1 _ ih => obtain ⟨u, hu⟩ := ih; exact ⟨_, .inn s i t u h0 h1 hu⟩
  | call s x p r t h0 h1 h2 h3 _ _ ih1 ih2 =>
    obtain ⟨u, hu⟩ := ih1
    obtain ⟨v, hv⟩ := ih2
    exact ⟨_, .call s x p r t u v h0 h1 h2 h3 hu hv⟩
def Mch.step (M : Mch) (p : Int × List Int) (x : Int) : Int × List Int :=
  if x < M.calls then ((M.call p.1 x).1, (M.call p.1 x).2 :: p.2)
  else if x < M.calls + M.inns then (M.inner p.1 (x - M.calls), p.2)
  else (M.pop p.1 (hd p.2) (x - M.calls - M.inns), p.2.tail)
def mt (a b : Int) : Nat → List Int → Bool
  | d, [] => d == 0
  | d, x :: w => if x < a then mt a b (d + 1) w else if x < a + b then mt a b d w else match d with
    | 0 => false
    | d + 1 => mt a b d w
inductive Fr (M : Mch) (s : Int) : List Int → List Int → Int → Prop
  | base (w : List Int) (q : Int) : Wd M s q w → Fr M s w [] q
  | open_ (w : List Int) (st : List Int) (p c q : Int) (v : List Int) : Fr M s w st p → 0 ≤ c → c < M.calls → Wd M (M.call p c).1 q v → Fr M s (w ++ c :: v) ((M.call p c).2 :: st) q
theorem Fr.ext {M : Mch} {s q q' : Int} {w st v : List Int} (h : Fr M s w st q) (k : Wd M q q' v) : Fr M s (w ++ v) st q' := by
  cases h with
  | base _ _ h => exact .base _ _ (h.app k)
  | open_ w st p c _ u h c0 c1 hu =>
    have := Fr.open_ w st p c q' _ h c0 c1 (hu.app k)
    simpa using this
theorem Fr.run {M : Mch} {s : Int} {n : Int} (hn : n = M.calls + M.inns + M.rets) : ∀ {u w st : List Int} {q : Int}, Fr M s w st q → (∀ x ∈ u, 0 ≤ x ∧ x < n) → mt M.calls M.inns st.length u = true → Wd M s (u.foldl M.step (q, st)).1 (w ++ u) ∧ (u.foldl M.step (q, st)).2 = []
  | [], w, st, q, h, _, hm => by
    have hst : st = [] := by simpa [mt] using hm
    subst hst
    cases h with
    | base _ _ h => exact ⟨by simpa using h, rfl⟩
  | x :: u, w, st, q, h, hx, hm => by
    have x0 := hx x (by simp)
    have hx' : ∀ y ∈ u, 0 ≤ y ∧ y < n := fun y hy => hx y (by simp [hy])
    simp only [mt] at hm
    simp only [List.foldl_cons, Mch.step]
    by_cases c1 : x < M.calls
    · rw [if_pos c1] at hm ⊢
      have := Fr.run hn (Fr.open_ w st q x _ [] h x0.1 c1 (.nil _)) hx' hm
      simpa using this
    · rw [if_neg c1] at hm ⊢
      by_cases c2 : x < M.calls + M.inns
      · rw [if_pos c2] at hm ⊢
        have k := Wd.inn (M := M) q (x - M.calls) _ [] (by omega) (by omega) (.nil _)
        rw [show M.calls + (x - M.calls) = x by omega] at k
        have := Fr.run hn (h.ext k) hx' hm
        simpa using this
      · rw [if_neg c2] at hm ⊢
        cases h with
        | base _ _ h => simp at hm
        | open_ w st p c _ v h c0 c1 hv =>
          simp only [List.length_cons] at hm
          have k := Wd.call (M := M) p c q (x - M.calls - M.inns) _ v [] c0 c1 (by omega) (by omega) hv (.nil _)
          rw [show M.calls + M.inns + (x - M.calls - M.inns) = x by omega] at k
          have := Fr.run hn (h.ext k) hx' hm
          simpa [hd] using this
theorem Wd.run {M : Mch} (hM : 0 ≤ M.calls ∧ 0 ≤ M.inns ∧ 0 ≤ M.rets) {s t : Int} {w : List Int} (h : Wd M s t w) : (∀ x ∈ w, 0 ≤ x ∧ x < M.calls + M.inns + M.rets) ∧ (∀ d rest, mt M.calls M.inns d (w ++ rest) = mt M.calls M.inns d rest) ∧ ∀ st rest, (w ++ rest).foldl M.step (s, st) = rest.foldl M.step (t, st) := by
  induction h with
  | nil s => exact ⟨by simp, fun _ _ => rfl, fun _ _ => rfl⟩
  | inn s i t w h0 h1 _ ih =>
    obtain ⟨a, b, c⟩ := ih
    refine ⟨fun x hx => ?_, fun d rest => ?_, fun st rest => ?_⟩
    · rcases List.mem_cons.1 hx with rfl | hx
      · omega
      · exact a x hx
    · simp only [List.cons_append, mt]
      rw [if_neg (by omega), if_pos (by omega), b]
    · simp only [List.cons_append, List.foldl_cons, Mch.step]
      rw [if_neg (by omega), if_pos (by omega), show M.calls + i - M.calls = i by omega, c]
  | call s x p r t u v h0 h1 h2 h3 _ _ ih1 ih2 =>
    obtain ⟨a, b, c⟩ := ih1
    obtain ⟨a', b', c'⟩ := ih2
    refine ⟨fun y hy => ?_, fun d rest => ?_, fun st rest => ?_⟩
    · simp only [List.mem_cons, List.mem_append] at hy
      rcases hy with rfl | hy | rfl | hy
      · omega
      · exact a y hy
      · omega
      · exact a' y hy
    · simp only [List.cons_append, List.append_assoc, mt]
      rw [if_pos h1, b]
      simp only [mt]
      rw [if_neg (by omega), if_neg (by omega), b']
    · simp only [List.cons_append, List.append_assoc, List.foldl_cons, Mch.step]
      rw [if_pos h1, c]
      simp only [List.foldl_cons, Mch.step]
      rw [if_neg (by omega), if_neg (by omega), show M.calls + M.inns + r - M.calls - M.inns = r by omega]
      exact c' st rest
end Ab
