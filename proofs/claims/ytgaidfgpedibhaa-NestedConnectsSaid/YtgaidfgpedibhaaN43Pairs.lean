/- The document's table of connected states, and which states are connected. Condition: none. -/
import Derived.Test.YtgaidfgpedibhaaN43Con
set_option linter.all false
set_option maxRecDepth 100000
set_option maxHeartbeats 4000000
namespace Ab
/-- A word that begins with an internal symbol or a call, and goes on as the table says. -/
def Joined (M : Mch) (T : List (List Bool)) (s t : Int) : Prop :=
  (∃ i, 0 ≤ i ∧ i < M.inns ∧ ix (ix T (M.inner s i)) t = true) ∨
  ∃ c p r, (0 ≤ c ∧ c < M.calls) ∧ (0 ≤ p ∧ p < (M.size : Int)) ∧ (0 ≤ r ∧ r < M.rets) ∧ ix (ix T (M.call s c).1) p = true ∧ ix (ix T (M.pop p (M.call s c).2 r)) t = true
theorem joined_s (n : Nst) (hn : n.Ok) (T : List (List Bool)) (hT : Sq n.accept.length T) (s t : Int) (s0 : 0 ≤ s) (s1 : s < n.accept.length) (t0 : 0 ≤ t) (t1 : t < n.accept.length) :
    LX L F_ref43_joined [n.av, .imm false (T.map bL), .int s, .int t] [] (fun v _ => ∃ b, v = .bool b ∧ (b = true ↔ Joined n.mch T s t)) := by
  refine go_ref43_joined rfl ?_
  have ln := hn.lens
  have rw' := hn.row s s0 s1
  have hT1 := hT.1
  have hcal := hn.calls
  have hinn := hn.inns
  have hret := hn.rets
  have hst := hn.states
  have ds1 : s < (n.inner.length : Int) := by omega
  have ds2 : s < (n.call.length : Int) := by omega
  have ds3 : s < (n.push.length : Int) := by omega
  simp
  refine W_iter (fun i : Int => [(4, .int i)]) (fun _ => []) (fun i => (0 ≤ i ∧ i ≤ n.inns) ∧ ∀ j, 0 ≤ j → j < i → ix (ix T (ix (ix n.inner s) j)) t = false) (fun i => (n.inns - i).toNat) 0 rfl ⟨⟨by omega, by omega⟩, upto_zero⟩ fun i ⟨⟨i0, i1⟩, hI⟩ => ?_
  by_cases hi : i < n.inns
  · have q := hn.inner s i s0 s1 i0 hi
    have rl := hT.row q.1 q.2
    simp [-More_nor, hi, i0, s0, ds1, q.1, show i < ((ix n.inner s).length : Int) by omega, show ix (ix n.inner s) i < (T.length : Int) by omega, t0, show t < ((ix T (ix (ix n.inner s) i)).length : Int) by omega]
    refine ⟨fun hx => .inl ⟨i, i0, hi, hx⟩, fun hx => ?_⟩
    · refine ⟨by omega, More_of (i + 1) rfl rfl ⟨⟨by omega, by omega⟩, upto_succ hx hI⟩ (by omega)⟩
  simp [-More_nor, hi]
  refine W_iter (fun i : Int => [(6, .int i)]) (fun _ => []) (fun c => (0 ≤ c ∧ c ≤ n.calls) ∧ ∀ c', 0 ≤ c' → c' < c → ∀ p, 0 ≤ p → p < (n.accept.length : Int) → ix (ix T (ix (ix n.call s) c')) p = true → ∀ r, 0 ≤ r → r < n.rets → ix (ix T (ix (ix (ix n.pop p) (ix (ix n.push s) c')) r)) t = false) (fun i => (n.calls - i).toNat) 0 rfl ⟨⟨by omega, by omega⟩, upto_zero⟩ fun c ⟨⟨c0, c1⟩, hC⟩ => ?_
  by_cases hc : c < n.calls
  · have q := hn.call s c s0 s1 c0 hc
    have qp := hn.push s c s0 s1 c0 hc
    have rl := hT.row q.1 q.2
    have dc1 : c < ((ix n.call s).length : Int) := by omega
    have dc2 : c < ((ix n.push s).length : Int) := by omega
    simp [-More_nor, hc]
    refine W_iter (fun i : Int => [(7, .int i)]) (fun _ => []) (fun p => (0 ≤ p ∧ p ≤ (n.accept.length : Int)) ∧ ∀ p', 0 ≤ p' → p' < p → ix (ix T (ix (ix n.call s) c)) p' = true → ∀ r, 0 ≤ r → r < n.rets → ix (ix T (ix (ix (ix n.pop p') (ix (ix n.push s) c)) r)) t = false) (fun i => (n.accept.length - i).toNat) 0 rfl ⟨⟨by omega, by omega⟩, upto_zero⟩ fun p ⟨⟨p0, p1⟩, hP⟩ => ?_
    by_cases hp : p < (n.accept.length : Int)
    · have dp : p < ((ix T (ix (ix n.call s) c)).length : Int) := by omega
      have rwp := hn.row p p0 hp
      by_cases hx : ix (ix T (ix (ix n.call s) c)) p = true
      · simp [-More_nor, hp, s0, ds2, c0, dc1, q.1, show ix (ix n.call s) c < (T.length : Int) by omega, p0, dp, hx]
        refine W_iter (fun i : Int => [(8, .int i)]) (fun _ => []) (fun r => (0 ≤ r ∧ r ≤ n.rets) ∧ ∀ r', 0 ≤ r' → r' < r → ix (ix T (ix (ix (ix n.pop p) (ix (ix n.push s) c)) r')) t = false) (fun i => (n.rets - i).toNat) 0 rfl ⟨⟨by omega, by omega⟩, upto_zero⟩ fun r ⟨⟨r0, r1⟩, hR⟩ => ?_
        by_cases hr : r < n.rets
        · have qo := hn.pop p _ r p0 hp qp.1 qp.2 r0 hr
          have lo := hn.popl p _ p0 hp qp.1 qp.2
          have rl2 := hT.row qo.1 qo.2
          simp [-More_nor, hr, s0, ds3, c0, dc2, p0, r0, qp.1, t0, qo.1, show p < (n.pop.length : Int) by omega, show ix (ix n.push s) c < ((ix n.pop p).length : Int) by omega, show r < ((ix (ix n.pop p) (ix (ix n.push s) c)).length : Int) by omega, show ix (ix (ix n.pop p) (ix (ix n.push s) c)) r < (T.length : Int) by omega, show t < ((ix T (ix (ix (ix n.pop p) (ix (ix n.push s) c)) r)).length : Int) by omega]
          refine ⟨fun hy => .inr ⟨c, p, r, ⟨c0, hc⟩, ⟨p0, hp⟩, ⟨r0, hr⟩, hx, hy⟩, fun hy => ?_⟩
          · exact ⟨by omega, More_of (r + 1) rfl rfl ⟨⟨by omega, by omega⟩, upto_succ hy hR⟩ (by omega)⟩
        · simp [-More_nor, hr]
          exact ⟨by omega, More_of (p + 1) rfl rfl ⟨⟨by omega, by omega⟩, upto_succ (fun _ r' a b => hR r' a (by omega)) hP⟩ (by omega)⟩
      · have hx' : ix (ix T (ix (ix n.call s) c)) p = false := by simpa using hx
        simp [-More_nor, hp, s0, ds2, c0, dc1, q.1, show ix (ix n.call s) c < (T.length : Int) by omega, p0, dp, hx']
        exact ⟨by omega, More_of (p + 1) rfl rfl ⟨⟨by omega, by omega⟩, upto_succ (fun h => absurd h hx) hP⟩ (by omega)⟩
    · simp [-More_nor, hp]
      exact ⟨by omega, More_of (c + 1) rfl rfl ⟨⟨by omega, by omega⟩, upto_succ (fun p' a b => hP p' a (by omega)) hC⟩ (by omega)⟩
  · simp [-More_nor, hc]
    rintro (⟨i', a, b, hx⟩ | ⟨c', p, r, hc', hp', hr', hx, hy⟩)
    · have := hI i' a (by simp only [Nst.mch] at b; omega)
      simp only [Nst.mch] at hx
      rw [this] at hx; simp at hx
    · have := hC c' hc'.1 (by have := hc'.2; simp only [Nst.mch] at this; omega) p hp'.1 hp'.2 hx r hr'.1 hr'.2
      simp only [Nst.mch] at hy
      rw [this] at hy; simp at hy
/-! ### A table in memory, its rows behind it -/
def refs0 (k N : Nat) : List AV := (List.range k).map fun i => AV.sl (1 + i) N 0 N
theorem refs0_len {k N : Nat} : (refs0 k N).length = k := by simp [refs0]
theorem refs0_succ {k N : Nat} : refs0 (k + 1) N = refs0 k N ++ [.sl (1 + k) N 0 N] := by simp [refs0, List.range_succ]
theorem nC_refs0 {k N : Nat} {K : List AV → Prop} {t : Tk K} : nC (refs0 k N ++ [.sl (1 + k) N 0 N]) K t = K (refs0 (k + 1) N) := by rw [refs0_succ]; rfl
theorem pT_refs0 {N k : Nat} {s : Int} {K : AV → Prop} {t : Tk K} (h0 : 0 ≤ s) (h1 : s < k) : pT (refs0 k N) (0 + s.toNat * 1) none K t = K (.sl (1 + s.toNat) N 0 N) := by
  unfold pT part
  rw [show 0 + s.toNat * 1 = s.toNat by omega, elm_eq, refs0, List.getElem?_map, List.getElem?_range (by omega)]
  rfl
theorem elm_refs0 {N k : Nat} {s : Int} (h0 : 0 ≤ s) (h1 : s < k) : elm (refs0 k N) s.toNat = some (.sl (1 + s.toNat) N 0 N) := by
  rw [elm_eq, refs0, List.getElem?_map, List.getElem?_range (by omega)]
  rfl
def mat0 (N : Nat) (m : List (List Bool)) : List Blk := ⟨none, refs0 m.length N, stOf m⟩ :: m.map rowB
theorem mat0_len {N : Nat} {m : List (List Bool)} : (mat0 N m).length = 1 + m.length := by simp [mat0]; omega
theorem mat0_outer {N : Nat} {m : List (List Bool)} : blk (mat0 N m) 0 = some ⟨none, refs0 m.length N, stOf m⟩ := rfl
theorem mat0_outer' {N : Nat} {m : List (List Bool)} {B : Blk} : blk (mat0 N m ++ [B]) 0 = some ⟨none, refs0 m.length N, stOf m⟩ := rfl
theorem mat0_row {N : Nat} {m : List (List Bool)} {s : Int} (h0 : 0 ≤ s) (h1 : s < m.length) : blk (mat0 N m) (1 + s.toNat) = some ⟨none, (ix m s).map .bool, .live⟩ := by
  rw [blk_eq, mat0, show 1 + s.toNat = s.toNat + 1 by omega, List.getElem?_cons_succ, List.getElem?_map, ix_eq h0 h1]
  rfl
theorem mat0_set {N : Nat} {m : List (List Bool)} {s : Int} {r : List Bool} (h0 : 0 ≤ s) (h1 : s < m.length) : setB (mat0 N m) (1 + s.toNat) ⟨none, r.map .bool, .live⟩ = mat0 N (m.set s.toNat r) := by
  rw [setB_eq, mat0, mat0, show 1 + s.toNat = s.toNat + 1 by omega, List.set_cons_succ]
  simp [List.map_set]
theorem mat0_push {N : Nat} {m : List (List Bool)} {r : List Bool} : setB (mat0 N m ++ [⟨none, r.map .bool, .live⟩]) 0 ⟨none, refs0 (m.length + 1) N, .live⟩ = mat0 N (m ++ [r]) := by
  rw [setB_eq, mat0, mat0]
  simp
theorem map_range_ix' {m : List (List Bool)} : (List.range m.length).map (fun i => bL (ix m (i : Nat))) = m.map bL := map_range_ix
theorem view_mat0 {N : Nat} {m : List (List Bool)} {fr : Bool} (h : Sq N m) (hN : 0 < N) : view (mat0 N m) fr vd (.sl 0 N 0 N) = some (.imm false (m.map bL)) := by
  obtain ⟨h1, h2⟩ := h
  subst h1
  rw [← map_range_ix]
  have hst : stOf m = .live := by cases m with
    | nil => simp at hN
    | cons => rfl
  refine view_mem (k := 11) (f := fun i => AV.sl (1 + i) m.length 0 m.length) (g := fun i => bL (ix m (i : Nat))) (xs := List.range m.length) (st := .live) (by rw [mat0_outer, hst]; rfl) (by simp) (by simp) fun i hi => ?_
  simp at hi
  have e := mat0_row (N := m.length) (m := m) (s := (i : Int)) (by omega) (by omega)
  rw [Int.toNat_natCast] at e
  exact view_slm (k := 10) (f := AV.bool) e (by simp) (h2 _ (ix_mem (by omega) (by omega))).symm fun _ => rfl
/-- On the way: the table has grown from m to m'. -/
structure Gw (M : Mch) (m m' : List (List Bool)) (ch : Bool) : Prop where
  sq : Sq M.size m'
  mono : ∀ s t, rel m s t → rel m' s t
  sound : ∀ s t, rel m' s t → Conn M s t
  no : ch = false → m' = m
  yes : ch = true → cf m' < cf m
theorem joined_conn {M : Mch} (hM : M.Ok) {T : List (List Bool)} (hT : Sq M.size T) (sound : ∀ s t, rel T s t → Conn M s t) {s t : Int} (s0 : 0 ≤ s) (s1 : s < (M.size : Int)) (t0 : 0 ≤ t) (t1 : t < (M.size : Int)) (h : Joined M T s t) : Conn M s t := by
  have hl := hT.1
  rcases h with ⟨i, i0, i1, h⟩ | ⟨c, p, r, hc, hp, hr, hx, hy⟩
  · have q := hM.inner s i s0 s1 i0 i1
    exact .inn s i t i0 i1 (sound _ _ ⟨q.1, by omega, t0, by omega, h⟩)
  · have q := hM.call s c s0 s1 hc.1 hc.2
    have q2 := hM.pop s c p r s0 s1 hc.1 hc.2 hp.1 hp.2 hr.1 hr.2
    exact .call s c p r t hc.1 hc.2 hr.1 hr.2 (sound _ _ ⟨q.1, by omega, hp.1, by omega, hx⟩) (sound _ _ ⟨q2.1, by omega, t0, by omega, hy⟩)
theorem rconnected_s (n : Nst) (hn : n.Ok) : LX L F_ref43_connected [n.av] [] (fun v τ => ∃ R : List (List Bool), viewT τ false v = some (.imm false (R.map bL)) ∧ Sq n.accept.length R ∧ ∀ s u, 0 ≤ s → s < (n.accept.length : Int) → 0 ≤ u → u < (n.accept.length : Int) → (ix (ix R s) u = true ↔ Conn n.mch s u)) := by
  have hM := mch_ok hn
  have hst := hn.states
  refine go_ref43_connected rfl ?_
  simp
  refine W_iter (fun p : Int × List (List Bool) => [(1, .int p.1), (3, .sl 0 p.2.length 0 p.2.length)]) (fun p => mat0 n.accept.length p.2)
    (fun p => (0 ≤ p.1 ∧ p.1 ≤ (n.accept.length : Int)) ∧ (p.2.length : Int) = p.1 ∧ (∀ r ∈ p.2, r.length = n.accept.length) ∧ ∀ s u, 0 ≤ s → s < p.1 → 0 ≤ u → u < (n.accept.length : Int) → (ix (ix p.2 s) u = true ↔ s = u))
    (fun p => (n.accept.length - p.1).toNat) (0, []) rfl ⟨by simp, by simp, by simp, fun s u s0 s1 => by simp at s1; omega⟩ ?_
  rintro ⟨s, m⟩ ⟨⟨s0, s1⟩, h1, h2, h3⟩
  dsimp only at s0 s1 h1 h2 h3 ⊢
  by_cases hs : s < (n.accept.length : Int)
  · have hpt := elm_refs0 (N := n.accept.length) (k := m.length + 1) (s := s) s0 (by omega)
    have hrw := mat0_row (N := n.accept.length) (m := m ++ [List.replicate n.accept.length false]) s0 (by simp; omega)
    have hse := fun r => mat0_set (N := n.accept.length) (m := m ++ [List.replicate n.accept.length false]) (r := r) s0 (by simp; omega)
    have hix : ix (m ++ [List.replicate n.accept.length false]) s = List.replicate n.accept.length false := by
      unfold ix
      rw [show s.toNat = m.length by omega, List.getD_eq_getElem?_getD, List.getElem?_append_right (Nat.le_refl _)]; simp
    have hset : ∀ r, (m ++ [List.replicate n.accept.length false]).set s.toNat r = m ++ [r] := fun r => by rw [show s.toNat = m.length by omega, List.set_append, if_neg (by omega)]; simp
    rw [hix] at hrw
    simp [-More_nor, -List.map_replicate, -List.map_set, -List.map_append, hs, s0, mat0_len, mat0_outer', mat0_outer, refs0_len, nC_refs0, mat0_push, hpt, hrw, hse, hset]
    (repeat' apply And.intro) <;> try omega
    refine More_of (s + 1, m ++ [(List.replicate n.accept.length false).set s.toNat true]) (by simp) rfl ⟨⟨by dsimp only; omega, by dsimp only; omega⟩, by dsimp only; simp; omega, ?_, ?_⟩ (by dsimp only; omega)
    · intro r hr
      rcases List.mem_append.1 hr with hr | hr
      · exact h2 r hr
      · simp at hr; subst hr; simp
    · dsimp only
      intro s' u s0' s1' u0 u1
      by_cases e : s' = s
      · subst e
        rw [show ix (m ++ [(List.replicate n.accept.length false).set s'.toNat true]) s' = (List.replicate n.accept.length false).set s'.toNat true by
          unfold ix
          rw [show s'.toNat = m.length by omega, List.getD_eq_getElem?_getD, List.getElem?_append_right (Nat.le_refl _)]; simp]
        rw [ix_set u0 (by simp; omega), ix_replicate u0 (by omega)]
        by_cases e2 : u = s'.toNat
        · rw [if_pos e2]; simp; omega
        · rw [if_neg e2]; simp; omega
      · rw [ix_app s0' (by omega)]
        exact h3 s' u s0' (by omega) u0 u1
  · have hml : m.length = n.accept.length := by omega
    have hsq : Sq n.accept.length m := ⟨hml, h2⟩
    simp [-More_nor, hs]
    refine W_iter (fun p : Bool × List (List Bool) × AV × AV => [(4, .bool p.1), (5, p.2.2.1), (6, p.2.2.2)]) (fun p => mat0 n.accept.length p.2.1)
      (fun p => Sq n.accept.length p.2.1 ∧ (∀ a b, rel m a b → rel p.2.1 a b) ∧ (∀ a b, rel p.2.1 a b → Conn n.mch a b) ∧ (p.1 = false → ∀ s t, 0 ≤ s → s < (n.accept.length : Int) → 0 ≤ t → t < (n.accept.length : Int) → Joined n.mch p.2.1 s t → rel p.2.1 s t))
      (fun p => 2 * cf p.2.1 + if p.1 = true then 1 else 0) (true, m, .und, .und) (by simp [sets]) ⟨hsq, fun _ _ h => h, fun a b hr => ?_, by simp⟩ ?_
    · dsimp only at hr
      have := (h3 a b hr.1 (by have := hr.2.1; omega) hr.2.2.1 (by have := hr.2.2.2.1; omega)).1 hr.2.2.2.2
      subst this; exact .refl _
    rintro ⟨ch, m1, x5, x6⟩ ⟨k1, k2, k3, k4⟩
    dsimp only at k1 k2 k3 k4 ⊢
    cases ch with
    | false =>
      simp [-More_nor]
      refine ⟨m1, ?_, k1, fun s u s0 s1 u0 u1 => ?_⟩
      · rw [hml]; exact view_mat0 k1 (by omega)
      · have hl := k1.1
        have key := table_conn (M := n.mch) hM (T := rel m1) k3 (fun s s0 s1 => k2 _ _ ⟨s0, by simp only [Nst.mch] at s1; omega, s0, by simp only [Nst.mch] at s1; omega, (h3 s s s0 (by simp only [Nst.mch] at s1; omega) s0 (by simp only [Nst.mch] at s1; omega)).2 rfl⟩)
          (fun s i t s0 s1 i0 i1 t0 t1 h => k4 rfl s t s0 s1 t0 t1 (.inl ⟨i, i0, i1, h.2.2.2.2⟩))
          (fun s c p r t s0 s1 c0 c1 p0 p1 r0 r1 t0 t1 h h' => k4 rfl s t s0 s1 t0 t1 (.inr ⟨c, p, r, ⟨c0, c1⟩, ⟨p0, p1⟩, ⟨r0, r1⟩, h.2.2.2.2, h'.2.2.2.2⟩)) (a := s) (b := u) ⟨s0, s1⟩
        rw [← key]
        exact ⟨fun h => ⟨s0, by omega, u0, by omega, h⟩, fun h => h.2.2.2.2⟩
    | true =>
      simp [-More_nor]
      refine W_iter (fun p : Int × List (List Bool) × Bool × AV => [(5, .int p.1), (4, .bool p.2.2.1), (6, p.2.2.2)]) (fun p => mat0 n.accept.length p.2.1)
        (fun p => (0 ≤ p.1 ∧ p.1 ≤ (n.accept.length : Int)) ∧ Gw n.mch m1 p.2.1 p.2.2.1 ∧ (p.2.2.1 = false → ∀ s, 0 ≤ s → s < p.1 → ∀ t, 0 ≤ t → t < (n.accept.length : Int) → Joined n.mch p.2.1 s t → rel p.2.1 s t))
        (fun p => (n.accept.length - p.1).toNat) (0, m1, false, x6) (by simp [sets]) ⟨⟨by simp, by simp⟩, ⟨k1, fun _ _ h => h, k3, fun _ => rfl, by simp⟩, fun _ => upto_zero⟩ ?_
      rintro ⟨i, m2, ch2, y6⟩ ⟨⟨i0, i1⟩, g1, g2⟩
      dsimp only at i0 i1 g1 g2 ⊢
      by_cases hi : i < (n.accept.length : Int)
      · simp [-More_nor, hi]
        refine W_iter (fun p : Int × List (List Bool) × Bool => [(6, .int p.1), (4, .bool p.2.2)]) (fun p => mat0 n.accept.length p.2.1)
          (fun p => (0 ≤ p.1 ∧ p.1 ≤ (n.accept.length : Int)) ∧ Gw n.mch m1 p.2.1 p.2.2 ∧ (p.2.2 = false → ch2 = false ∧ ∀ t, 0 ≤ t → t < p.1 → Joined n.mch p.2.1 i t → rel p.2.1 i t))
          (fun p => (n.accept.length - p.1).toNat) (0, m2, ch2) (by simp [sets]) ⟨⟨by simp, by simp⟩, g1, fun h => ⟨h, upto_zero⟩⟩ ?_
        rintro ⟨j, m3, ch3⟩ ⟨⟨j0, j1⟩, l1, l2⟩
        dsimp only at j0 j1 l1 l2 ⊢
        by_cases hj : j < (n.accept.length : Int)
        · have hl3 := l1.sq.1
          have hr3 := l1.sq.row i0 hi
          simp only [Nst.mch] at hl3 hr3
          have hne : m3 ≠ [] := fun h => by rw [h] at hl3; simp at hl3; omega
          have hpt := elm_refs0 (N := n.accept.length) (k := n.accept.length) (s := i) i0 (by omega)
          have hrw := mat0_row (N := n.accept.length) (m := m3) i0 (by omega)
          have hse := fun r => mat0_set (N := n.accept.length) (m := m3) (r := r) i0 (by omega)
          have hout : ∀ m', m'.length = n.accept.length → blk (mat0 n.accept.length m') 0 = some ⟨none, refs0 n.accept.length n.accept.length, .live⟩ := fun m' h => by
            rw [mat0_outer, h]
            cases m' with
            | nil => simp at h; omega
            | cons => rfl
          have ho3 := hout m3 hl3
          have hrelx : rel m3 i j ↔ ix (ix m3 i) j = true := ⟨fun h => h.2.2.2.2, fun h => ⟨i0, by omega, j0, by omega, h⟩⟩
          cases hx : ix (ix m3 i) j with
          | true =>
            simp [-More_nor, -List.map_set, hi, hj, i0, j0, ho3, refs0_len, hpt, hrw, hx, hml, hr3]
            (repeat' apply And.intro) <;> try omega
            exact More_of (j + 1, m3, ch3) (by simp) rfl ⟨⟨by dsimp only; omega, by dsimp only; omega⟩, l1, fun h => ⟨(l2 h).1, upto_succ (fun _ => hrelx.2 hx) (l2 h).2⟩⟩ (by dsimp only; omega)
          | false =>
            obtain ⟨vv, σ', e1, b, rfl, e2⟩ := LX_s (joined_s n hn m3 l1.sq i j i0 hi j0 hj)
            have hvm := view_mat0 (fr := false) (show Sq n.accept.length m3 from l1.sq) (by omega)
            cases b with
            | false =>
              simp [-More_nor, -List.map_set, hi, hj, i0, j0, ho3, refs0_len, hpt, hrw, hx, hml, hr3, hvm, e1]
              (repeat' apply And.intro) <;> try omega
              exact More_of (j + 1, m3, ch3) (by simp) rfl ⟨⟨by dsimp only; omega, by dsimp only; omega⟩, l1, fun h => ⟨(l2 h).1, upto_succ (fun hh => by simpa using e2.2 hh) (l2 h).2⟩⟩ (by dsimp only; omega)
            | true =>
              have hJ := e2.1 rfl
              simp [-More_nor, -List.map_set, hi, hj, i0, j0, ho3, refs0_len, hpt, hrw, hx, hml, hr3, hvm, e1, hse, show j.toNat < n.accept.length by omega]
              (repeat' apply And.intro) <;> try omega
              have hsqu := upd_sq (u := j) l1.sq i0 hi
              have hur := fun a b => upd_rel (a := a) (b := b) l1.sq i0 hi j0 hj
              have hcf := cf_upd l1.sq i0 hi j0 hj hx
              refine More_of (j + 1, upd m3 i j, true) (by simp) (by simp [upd]) ⟨⟨by dsimp only; omega, by dsimp only; omega⟩, ⟨hsqu, fun a b h => (hur a b).2 (.inl (l1.mono a b h)), fun a b h => ?_, by simp, fun _ => ?_⟩, by simp⟩ (by dsimp only; omega)
              · rcases (hur a b).1 h with h | ⟨rfl, rfl⟩
                · exact l1.sound a b h
                · exact joined_conn hM l1.sq l1.sound i0 hi j0 hj hJ
              · dsimp only
                cases ch3 with
                | true => have := l1.yes rfl; omega
                | false => have := l1.no rfl; subst this; omega
        · simp [-More_nor, hj]
          refine ⟨by omega, ?_⟩
          refine More_of (i + 1, m3, ch3, .und) (by simp) rfl ⟨⟨by dsimp only; omega, by dsimp only; omega⟩, l1, fun h => ?_⟩ (by dsimp only; omega)
          dsimp only at h ⊢
          obtain ⟨h1, h2⟩ := l2 h
          have e3 := l1.no h
          have e2 := g1.no h1
          subst e3; subst e2
          exact upto_succ (fun t t0 t1 hJ => h2 t t0 (by omega) hJ) (g2 h1)
      · simp [-More_nor, hi]
        refine More_of (ch2, m2, _, _) rfl rfl ⟨g1.sq, fun a b h => g1.mono a b (k2 a b h), g1.sound, fun h s t s0 s1 t0 t1 hJ => g2 h s s0 (by omega) t t0 t1 hJ⟩ ?_
        dsimp only
        cases ch2 with
        | true => have := g1.yes rfl; simp; omega
        | false => have := g1.no rfl; subst this; simp
/-- The table of what is connected. -/
noncomputable def conT (M : Mch) : List (List Bool) := by
  classical
  exact (List.range M.size).map fun s => (List.range M.size).map fun t => decide (Conn M (s : Nat) (t : Nat))
theorem conT_sq {M : Mch} : Sq M.size (conT M) := by
  constructor
  · simp [conT]
  · intro r hr
    simp only [conT, List.mem_map] at hr
    obtain ⟨s, _, rfl⟩ := hr
    simp
theorem conT_ix {M : Mch} {s t : Int} (s0 : 0 ≤ s) (s1 : s < (M.size : Int)) (t0 : 0 ≤ t) (t1 : t < (M.size : Int)) : ix (ix (conT M) s) t = true ↔ Conn M s t := by
  have e1 : ix (conT M) s = (List.range M.size).map fun u => by classical exact decide (Conn M (s.toNat : Nat) (u : Nat)) := by
    unfold ix conT
    rw [List.getD_eq_getElem?_getD, List.getElem?_map, List.getElem?_range (by omega)]
    rfl
  rw [e1]
  unfold ix
  rw [List.getD_eq_getElem?_getD, List.getElem?_map, List.getElem?_range (by omega)]
  simp [show ((s.toNat : Nat) : Int) = s by omega, show ((t.toNat : Nat) : Int) = t by omega]
theorem ix_ext {α : Type} [Inhabited α] {l m : List α} (h : l.length = m.length) (h2 : ∀ i : Int, 0 ≤ i → i < l.length → ix l i = ix m i) : l = m := by
  apply List.ext_getElem h
  intro i h3 h4
  have := h2 i (by omega) (by omega)
  rwa [ix_nat h3, ix_nat h4] at this
theorem sq_ext {N : Nat} {m m' : List (List Bool)} (h : Sq N m) (h' : Sq N m') (e : ∀ s t, 0 ≤ s → s < (N : Int) → 0 ≤ t → t < (N : Int) → (ix (ix m s) t = true ↔ ix (ix m' s) t = true)) : m = m' := by
  refine ix_ext (by rw [h.1, h'.1]) fun i i0 i1 => ?_
  have l1 := h.1
  have := h.row i0 (by omega)
  have := h'.row i0 (by omega)
  refine ix_ext (by omega) fun j j0 j1 => ?_
  rw [Bool.eq_iff_iff]
  exact e i j i0 (by omega) j0 (by omega)
theorem conT_of {M : Mch} {R : List (List Bool)} (h : Sq M.size R) (h2 : ∀ s u, 0 ≤ s → s < (M.size : Int) → 0 ≤ u → u < (M.size : Int) → (ix (ix R s) u = true ↔ Conn M s u)) : R = conT M :=
  sq_ext h conT_sq fun s t s0 s1 t0 t1 => by rw [h2 s t s0 s1 t0 t1, conT_ix s0 s1 t0 t1]
theorem connected_pc (M : Mch) (hM : M.Ok) (t : Nat) (v : AV) (hv : MOk t v M) (n : Nst) (hc : n.calls = M.calls) (hi : n.inns = M.inns) (hr : n.rets = M.rets) : PC F_nested_connected [.iface t v, n.av] = some (.imm false ((conT M).map bL)) := by
  refine PCx_of ?_
  obtain ⟨v', σ', h1, R, h2, h3, h4⟩ := LX_s (connected_s M hM t v hv n hc hi hr)
  refine LX_of h1 ?_
  rw [h2, conT_of h3 h4]
  simp
theorem rconnected_pc (n : Nst) (hn : n.Ok) : PC F_ref43_connected [n.av] = some (.imm false ((conT n.mch).map bL)) := by
  refine PCx_of ?_
  obtain ⟨v', σ', h1, R, h2, h3, h4⟩ := LX_s (rconnected_s n hn)
  refine LX_of h1 ?_
  rw [h2, conT_of (M := n.mch) h3 h4]
  simp
/-- What Pairs returns. -/
noncomputable def Nst.pairs (n : Nst) : List (List Bool) := by
  classical
  exact if n.validE = 0 then conT n.mch else []
theorem Pairs_s (n : Nst) (h : n.fits) : PC F_nested_Pairs [n.av] = some (.tup [.imm false (n.pairs.map bL), .int n.validE]) := by
  refine PCx_of (go_nested_Pairs rfl ?_)
  by_cases hv : n.validE = 0
  · have ok := validE_ok hv
    have e := connected_pc n.mch (mch_ok ok) T_nested_single n.av (mch_mok ok) n rfl rfl rfl
    simp [Valid_s n h, hv, e]
    simp [Nst.pairs, hv]
  · simp [Valid_s n h, hv, Nst.pairs]
theorem RPairs_s (n : Nst) (h : n.fits) : PC F_ref43_Pairs [n.av] = some (.tup [.imm false (n.pairs.map bL), .int n.validE]) := by
  refine PCx_of (go_ref43_Pairs rfl ?_)
  by_cases hv : n.validE = 0
  · have ok := validE_ok hv
    have e := rconnected_pc n ok
    simp [RValid_s n h, hv, e]
    simp [Nst.pairs, hv]
  · simp [RValid_s n h, hv, Nst.pairs]
theorem SameBools_s (l : List Bool) (hl : (l.length : Int) ≤ 1000000) : PC F_ref43_SameBools [bL l, bL l] = some (.bool true) := by
  refine PCx_of (go_ref43_SameBools rfl ?_)
  simp
  refine W_iter (fun i : Int => [(2, .int i)]) (fun _ => []) (fun i => 0 ≤ i ∧ i ≤ l.length) (fun i => (l.length - i).toNat) 0 rfl (by simp) fun i ⟨i0, i1⟩ => ?_
  by_cases hi : i < l.length
  · simp [hi, i0]; omega
  · simp [hi]
theorem SameTables_s (l : List (List Bool)) (hl : (l.length : Int) ≤ 1000000) (h2 : ∀ r ∈ l, (r.length : Int) ≤ 1000000) : PC F_ref43_SameTables [.imm false (l.map bL), .imm false (l.map bL)] = some (.bool true) := by
  refine PCx_of (go_ref43_SameTables rfl ?_)
  simp
  refine W_iter (fun i : Int => [(2, .int i)]) (fun _ => []) (fun i => 0 ≤ i ∧ i ≤ l.length) (fun i => (l.length - i).toNat) 0 rfl (by simp) fun i ⟨i0, i1⟩ => ?_
  by_cases hi : i < l.length
  · simp [hi, i0, SameBools_s (ix l i) (h2 _ (ix_mem i0 hi))]; omega
  · simp [hi]
end Ab
