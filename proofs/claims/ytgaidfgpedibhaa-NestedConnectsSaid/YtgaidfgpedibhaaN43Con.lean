/- Which states are connected: the program's table. Condition: none. -/
import Derived.Test.YtgaidfgpedibhaaN43WidenW
set_option linter.all false
set_option maxRecDepth 100000
set_option maxHeartbeats 4000000
namespace Ab
theorem mat_len {box : Blk} {N : Nat} {m : List (List Bool)} {rest : List Blk} : (mat box N m rest).length = 2 + m.length + rest.length := by simp [mat]; omega
theorem mat_app {box : Blk} {N : Nat} {m : List (List Bool)} {rest : List Blk} {B : Blk} : mat box N m rest ++ [B] = mat box N m (rest ++ [B]) := by simp [mat]
theorem mapO_mem {α : Type} {f g : α → AV} {v : AV → Option AV} : ∀ {xs : List α}, (∀ x ∈ xs, v (f x) = some (g x)) → mapO v (xs.map f) = some (xs.map g)
  | [], _ => rfl
  | x :: xs, h => by
    have e := mapO_mem (f := f) (g := g) (v := v) (xs := xs) fun y hy => h y (by simp [hy])
    simp only [List.map_cons, mapO, h x (by simp), e]
theorem view_mem {α : Type} {f g : α → AV} {σ : List Blk} {fr : Bool} {b k n : Nat} {xs : List α} {st : BSt} (h : blk σ b = some ⟨none, xs.map f, st⟩) (hs : st ≠ .dead) (hn : n = xs.length) (hf : ∀ x ∈ xs, view σ fr k (f x) = some (g x)) :
    view σ fr (k + 1) (.sl b n 0 n) = some (.imm false (xs.map g)) := by
  subst hn
  have hu : upto σ b xs.length = some ⟨none, xs.map f, st⟩ := by
    unfold upto
    rw [h]
    cases st <;> simp at hs ⊢
  unfold view
  simp only [hu, kst, List.length_map, List.drop_zero, Nat.zero_add, Nat.mul_one, Nat.le_refl, if_true]
  rw [chunk_none (by simp), mapO_mem hf]
theorem map_range_ix {m : List (List Bool)} : (List.range m.length).map (fun i => bL (ix m (i : Nat))) = m.map bL := by
  apply List.ext_getElem (by simp)
  intro i h1 h2
  simp at h1
  simp only [List.getElem_map, List.getElem_range, ix_nat h1]
theorem view_mat {box : Blk} {N : Nat} {m : List (List Bool)} {rest : List Blk} {fr : Bool} (h : Sq N m) : view (mat box N m rest) fr vd (.sl 1 N 0 N) = some (.imm false (m.map bL)) := by
  obtain ⟨h1, h2⟩ := h
  subst h1
  rw [← map_range_ix]
  refine view_mem (k := 11) (f := fun i => AV.sl (2 + i) m.length 0 m.length) (g := fun i => bL (ix m (i : Nat))) (xs := List.range m.length) (st := .live) (blk_outer1 rfl) (by simp) (by simp) fun i hi => ?_
  simp at hi
  have e := blk_row (box := box) (N := m.length) (rest := rest) (m := m) (s := (i : Int)) (by omega) (by omega)
  rw [Int.toNat_natCast] at e
  exact view_slm (k := 10) (f := AV.bool) e (by simp) (h2 _ (ix_mem (by omega) (by omega))).symm fun _ => rfl
/-- One more row. -/
theorem mat_row {box : Blk} {N : Nat} {m : List (List Bool)} {r : List Bool} (h : m.length < N) : setB (mat box N m [rowB r]) 1 ⟨none, (refs m.length N ++ List.replicate (N - m.length) AV.snil).set m.length (.sl (2 + m.length) N 0 N), .live⟩ = mat box N (m ++ [r]) [] := by
  rw [setB_eq]
  unfold mat
  simp only [List.set_cons_succ, List.set_cons_zero, List.map_append, List.map_cons, List.map_nil, List.append_nil, List.length_append, List.length_cons, List.length_nil, Nat.zero_add]
  congr 2
  rw [List.set_append, if_neg (by simp), show N - m.length = (N - (m.length + 1)) + 1 by omega, List.replicate_succ]
  rw [show refs (m.length + 1) N = refs m.length N ++ [AV.sl (2 + m.length) N 0 N] by simp only [refs, List.range_succ, List.map_append, List.map_cons, List.map_nil], List.append_assoc]
  simp
theorem mat_row' {box : Blk} {N : Nat} {m : List (List Bool)} {r : List Bool} (h : m.length < N) : setB (mat box N m [rowB r]) 1 ⟨none, refs m.length N ++ (List.replicate (N - m.length) AV.snil).set 0 (.sl (2 + m.length) N 0 N), .live⟩ = mat box N (m ++ [r]) [] := by
  have := mat_row (box := box) (r := r) h
  rwa [List.set_append, if_neg (by simp), show m.length - (refs m.length N).length = 0 by simp] at this
/-- A reference to a row that is there. -/
theorem pT_refs {N k j : Nat} {s : Int} {K : AV → Prop} {t : Tk K} (h0 : 0 ≤ s) (h1 : s < k) : pT (refs k N ++ List.replicate j AV.snil) (0 + s.toNat * 1) none K t = K (.sl (2 + s.toNat) N 0 N) := by
  unfold pT part
  rw [show 0 + s.toNat * 1 = s.toNat by omega, elm_eq, List.getElem?_append_left (by simp; omega), List.getElem?_map, List.getElem?_range (by omega)]
  rfl
theorem pU_set {cs : List AV} {o : Nat} {x : AV} {K : List AV → Prop} {t : Tk K} : pU cs o [x] K t = (o < cs.length ∧ K (cs.set o x)) := by
  have e := pU_map (f := id) (xs := cs) (o := o) (y := x) (K := K) (t := t)
  simpa using e
theorem blk_last {box : Blk} {N : Nat} {m : List (List Bool)} {gar : List Blk} {B : Blk} : blk (mat box N m (gar ++ [B])) (2 + m.length + gar.length) = some B := by
  rw [blk_eq, mat, show 2 + m.length + gar.length = (m.length + gar.length) + 1 + 1 by omega, List.getElem?_cons_succ, List.getElem?_cons_succ, ← List.append_assoc, List.getElem?_append_right (by simp)]
  simp
theorem setB_last {box : Blk} {N : Nat} {m : List (List Bool)} {gar : List Blk} {B B' : Blk} : setB (mat box N m (gar ++ [B])) (2 + m.length + gar.length) B' = mat box N m (gar ++ [B']) := by
  rw [setB_eq, mat, mat, show 2 + m.length + gar.length = (m.length + gar.length) + 1 + 1 by omega, List.set_cons_succ, List.set_cons_succ, ← List.append_assoc, ← List.append_assoc, List.set_append, if_neg (by simp)]
  simp
theorem fill_next {R : List (List Bool)} {N : Nat} {r : List Bool} (h : R.length < N) : (R.map bL ++ List.replicate (N - R.length) AV.snil).set R.length (bL r) = (R ++ [r]).map bL ++ List.replicate (N - (R.length + 1)) AV.snil := by
  rw [List.set_append, if_neg (by simp), show N - R.length = (N - (R.length + 1)) + 1 by omega, List.replicate_succ]
  simp
theorem fill_next' {R : List (List Bool)} {N : Nat} {r : List Bool} (h : R.length < N) : R.map bL ++ (List.replicate (N - R.length) AV.snil).set 0 (bL r) = (R ++ [r]).map bL ++ List.replicate (N - (R.length + (0 + 1))) AV.snil := by
  rw [← fill_next h, List.set_append, if_neg (by simp)]; simp
theorem connected_s (M : Mch) (hM : M.Ok) (t : Nat) (v : AV) (hv : MOk t v M) (n : Nst) (hc : n.calls = M.calls) (hi : n.inns = M.inns) (hr : n.rets = M.rets) :
    LX L F_nested_connected [.iface t v, n.av] [] (fun v τ => ∃ R : List (List Bool), viewT τ false v = some (.imm false (R.map bL)) ∧ Sq M.size R ∧ ∀ s u, 0 ≤ s → s < (M.size : Int) → 0 ≤ u → u < (M.size : Int) → (ix (ix R s) u = true ↔ Conn M s u)) := by
  obtain ⟨fz, tz, pz⟩ := hv.size
  obtain ⟨fi, ti, pi⟩ := hv.inner
  have hsz := hM.size
  have hMi := hM.inns
  have hloc := hv.loc
  have hwk := hv.wk
  refine go_nested_connected rfl ?_
  simp [-List.map_replicate, tz, hloc, hwk, pz]
  refine ⟨by omega, ?_⟩
  refine W_iter (fun p : Int × List (List Bool) => [(3, .int p.1)]) (fun p => mat ⟨some 10, [.int n.calls, .int n.inns, .int n.rets, .int n.stack, .int n.start, bL n.accept, iLL n.call, iLL n.push, iLL n.inner, iLLL n.pop], .live⟩ M.size p.2 [])
    (fun p => (0 ≤ p.1 ∧ p.1 ≤ (M.size : Int)) ∧ (p.2.length : Int) = p.1 ∧ (∀ r ∈ p.2, r.length = M.size) ∧ ∀ s u, 0 ≤ s → s < p.1 → 0 ≤ u → u < (M.size : Int) → (ix (ix p.2 s) u = true ↔ ∃ i, 0 ≤ i ∧ i < M.inns ∧ u = M.inner s i))
    (fun p => (M.size - p.1).toNat) (0, []) (by simp [sets, mat]) ⟨by simp, by simp, by simp, fun s u s0 s1 => by simp at s1; omega⟩ ?_
  rintro ⟨s, m⟩ ⟨⟨s0, s1⟩, h1, h2, h3⟩
  dsimp only at s0 s1 h1 h2 h3 ⊢
  by_cases hs : s < (M.size : Int)
  · have hst : s.toNat = m.length := by omega
    have hlt : m.length < M.size := by omega
    have b1 := mat_row' (box := ⟨some 10, [.int n.calls, .int n.inns, .int n.rets, .int n.stack, .int n.start, bL n.accept, iLL n.call, iLL n.push, iLL n.inner, iLLL n.pop], .live⟩) (N := M.size) (m := m) (r := List.replicate M.size false) hlt
    have b0 : ∀ m' rest, blk (mat ⟨some 10, [.int n.calls, .int n.inns, .int n.rets, .int n.stack, .int n.start, bL n.accept, iLL n.call, iLL n.push, iLL n.inner, iLLL n.pop], .live⟩ M.size m' rest) 0 = some ⟨some 10, [.int n.calls, .int n.inns, .int n.rets, .int n.stack, .int n.start, bL n.accept, iLL n.call, iLL n.push, iLL n.inner, iLLL n.pop], .live⟩ := fun m' rest => blk_box
    simp [-More_nor, -List.map_replicate, -List.map_set, -List.map_append, hs, s0, tz, hloc, hwk, pz, mat_app, mat_len, blk_outer, -pU_lit, ↓pU_set, hst, b1, b0]
    (repeat' apply And.intro) <;> try omega
    refine W_iter (fun p : Int × List Bool => [(7, .int p.1)]) (fun p => mat ⟨some 10, [.int n.calls, .int n.inns, .int n.rets, .int n.stack, .int n.start, bL n.accept, iLL n.call, iLL n.push, iLL n.inner, iLLL n.pop], .live⟩ M.size (m ++ [p.2]) [])
      (fun p => (0 ≤ p.1 ∧ p.1 ≤ M.inns) ∧ p.2.length = M.size ∧ ∀ u, 0 ≤ u → u < (M.size : Int) → (ix p.2 u = true ↔ ∃ i, 0 ≤ i ∧ i < p.1 ∧ u = M.inner s i))
      (fun p => (M.inns - p.1).toNat) (0, List.replicate M.size false) (by simp [sets]) ⟨by simp; omega, by simp, fun u u0 u1 => by rw [ix_replicate u0 (by omega)]; simp; intros; omega⟩ ?_
    rintro ⟨i, row⟩ ⟨⟨i0, i1⟩, g1, g2⟩
    dsimp only at i0 i1 g1 g2 ⊢
    by_cases hii : i < M.inns
    · have hu := hM.inner s i s0 hs i0 hii
      have e1 := pi s i s0 hs i0 hii
      have p1 := fun (K : AV → Prop) (t : Tk K) => pT_refs (N := M.size) (k := m.length + 1) (j := M.size - (m.length + 1)) (s := s) (K := K) (t := t) s0 (by omega)
      have b2 := blk_row (box := ⟨some 10, [.int n.calls, .int n.inns, .int n.rets, .int n.stack, .int n.start, bL n.accept, iLL n.call, iLL n.push, iLL n.inner, iLLL n.pop], .live⟩) (N := M.size) (rest := []) (m := m ++ [row]) s0 (by simp; omega)
      have b4 := fun r => setB_row (box := ⟨some 10, [.int n.calls, .int n.inns, .int n.rets, .int n.stack, .int n.start, bL n.accept, iLL n.call, iLL n.push, iLL n.inner, iLLL n.pop], .live⟩) (N := M.size) (rest := []) (m := m ++ [row]) (r := r) s0 (by simp; omega)
      have hix : ix (m ++ [row]) s = row := by
        unfold ix
        rw [hst, List.getD_eq_getElem?_getD, List.getElem?_append_right (Nat.le_refl _)]; simp
      have hset : ∀ r, (m ++ [row]).set s.toNat r = m ++ [r] := fun r => by rw [hst, List.set_append, if_neg (by omega)]; simp
      rw [hix] at b2
      simp [-More_nor, -List.map_replicate, -List.map_set, -List.map_append, show i < n.inns by omega, ti, hloc, hwk, e1, b0, b2, b4, blk_outer, -pT_none, ↓p1, s0, hs, hu.1, hu.2, hset, g1]
      (repeat' apply And.intro) <;> try omega
      refine More_of (i + 1, row.set (M.inner s i).toNat true) (by simp) rfl ⟨⟨by dsimp only; omega, by dsimp only; omega⟩, by simp [g1], fun u u0 u1 => ?_⟩ (by dsimp only; omega)
      dsimp only
      rw [ix_set u0 (by omega)]
      by_cases e : u = (M.inner s i).toNat
      · rw [if_pos e]
        simp only [true_iff]
        exact ⟨i, i0, by omega, by omega⟩
      · rw [if_neg e, g2 u u0 u1]
        constructor
        · rintro ⟨j, j0, j1, rfl⟩; exact ⟨j, j0, by omega, rfl⟩
        · rintro ⟨j, j0, j1, rfl⟩
          refine ⟨j, j0, ?_, rfl⟩
          by_cases ej : j = i
          · subst ej; omega
          · omega
    · simp [-More_nor, show ¬ i < n.inns by omega]
      refine ⟨by omega, ?_⟩
      refine More_of (s + 1, m ++ [row]) (by simp) rfl ⟨⟨by dsimp only; omega, by dsimp only; omega⟩, by dsimp only; simp; omega, ?_, ?_⟩ (by dsimp only; omega)
      · intro r hr
        rcases List.mem_append.1 hr with hr | hr
        · exact h2 r hr
        · simp at hr; subst hr; exact g1
      · dsimp only
        intro s' u s0' s1' u0 u1
        by_cases e : s' = s
        · subst e
          have hix : ix (m ++ [row]) s' = row := by
            unfold ix
            rw [hst, List.getD_eq_getElem?_getD, List.getElem?_append_right (Nat.le_refl _)]; simp
          rw [hix, g2 u u0 u1, show i = M.inns by omega]
        · rw [ix_app s0' (by omega)]
          exact h3 s' u s0' (by omega) u0 u1
  · have hl : m.length = M.size := by omega
    have hsq : Sq M.size m := ⟨hl, h2⟩
    have hsm : s = (M.size : Int) := by omega
    simp [-More_nor, hs]
    have hin : ∀ s u, rel m s u → ∃ i, 0 ≤ i ∧ i < M.inns ∧ u = M.inner s i := fun s' u hr => (h3 s' u hr.1 (by have := hr.2.1; omega) hr.2.2.1 (by have := hr.2.2.2.1; omega)).1 hr.2.2.2.2
    refine W_iter (fun p : List (List Bool) × List Blk × AV × AV × AV => [(3, p.2.2.1), (4, p.2.2.2.1), (10, p.2.2.2.2)]) (fun p => mat ⟨some 10, [.int n.calls, .int n.inns, .int n.rets, .int n.stack, .int n.start, bL n.accept, iLL n.call, iLL n.push, iLL n.inner, iLLL n.pop], .live⟩ M.size p.1 p.2.1)
      (fun p => Sq M.size p.1 ∧ (∀ a b, rel m a b → rel p.1 a b) ∧ ∀ a b, 0 ≤ a → a < (M.size : Int) → rel p.1 a b → Conn M a b)
      (fun p => cf p.1) (m, [], .int s, .int M.size, .und) (by simp [sets]) ⟨hsq, fun _ _ h => h, fun a b a0 a1 hr => ?_⟩ ?_
    · obtain ⟨i, i0, i1, rfl⟩ := hin a b hr
      exact .inn a i _ i0 i1 (.refl _)
    rintro ⟨m1, gar, x3, x4, x10⟩ ⟨k1, k2, k3⟩
    dsimp only at k1 k2 k3 ⊢
    simp [-More_nor, -List.map_replicate, tz, hloc, hwk, pz, mat_app, mat_len, k1.1]
    refine ⟨by omega, ?_⟩
    have conn1 : ∀ a b, 0 ≤ a → a < (M.size : Int) → Star (rel m1) a b → Conn M a b ∧ (0 ≤ b ∧ b < (M.size : Int)) := by
      intro a b a0 a1 h
      induction h with
      | refl => exact ⟨.refl a, a0, a1⟩
      | tail t u _ h2 ih =>
        have := k3 t u ih.2.1 ih.2.2 h2
        exact ⟨ih.1.trans this, this.range hM ih.2⟩
    refine W_iter (fun p : Int × List (List Bool) => [(11, .int p.1)]) (fun p => mat ⟨some 10, [.int n.calls, .int n.inns, .int n.rets, .int n.stack, .int n.start, bL n.accept, iLL n.call, iLL n.push, iLL n.inner, iLLL n.pop], .live⟩ M.size m1 (gar ++ [⟨none, p.2.map bL ++ List.replicate (M.size - p.2.length) .snil, .live⟩]))
      (fun p => (0 ≤ p.1 ∧ p.1 ≤ (M.size : Int)) ∧ (p.2.length : Int) = p.1 ∧ (∀ r ∈ p.2, r.length = M.size) ∧ ∀ s u, 0 ≤ s → s < p.1 → 0 ≤ u → u < (M.size : Int) → (ix (ix p.2 s) u = true ↔ Star (rel m1) s u))
      (fun p => (M.size - p.1).toNat) (0, []) (by simp [sets]) ⟨by simp, by simp, by simp, fun s u s0 s1 => by simp at s1; omega⟩ ?_
    rintro ⟨i, R⟩ ⟨⟨i0, i1⟩, g1, g2, g3⟩
    dsimp only at i0 i1 g1 g2 g3 ⊢
    have hbl : ∀ m' B, m'.length = M.size → blk (mat ⟨some 10, [.int n.calls, .int n.inns, .int n.rets, .int n.stack, .int n.start, bL n.accept, iLL n.call, iLL n.push, iLL n.inner, iLLL n.pop], .live⟩ M.size m' (gar ++ [B])) (2 + M.size + gar.length) = some B := fun m' B h => by
      rw [← h]; exact blk_last
    by_cases hii : i < (M.size : Int)
    · obtain ⟨vv, σ', e1, row, e2, e3, e4⟩ := LX_s (spread_s m1 i (by rw [k1.1]; omega) (by rw [k1.1]; exact k1.2) ⟨i0, by rw [k1.1]; exact hii⟩)
      have hvm := view_mat (fr := false) (box := ⟨some 10, [.int n.calls, .int n.inns, .int n.rets, .int n.stack, .int n.start, bL n.accept, iLL n.call, iLL n.push, iLL n.inner, iLLL n.pop], .live⟩) (rest := gar ++ [⟨none, R.map bL ++ List.replicate (M.size - R.length) .snil, .live⟩]) k1
      have hst : i.toNat = R.length := by omega
      have hlt : R.length < M.size := by omega
      have hfn := fill_next' (r := row) hlt
      have hsb := fun B => setB_last (box := ⟨some 10, [.int n.calls, .int n.inns, .int n.rets, .int n.stack, .int n.start, bL n.accept, iLL n.call, iLL n.push, iLL n.inner, iLLL n.pop], .live⟩) (N := M.size) (m := m1) (gar := gar) (B := ⟨none, R.map bL ++ List.replicate (M.size - R.length) .snil, .live⟩) (B' := B)
      rw [k1.1] at hsb
      simp [-More_nor, -List.map_replicate, -List.map_set, -List.map_append, hii, i0, hvm, e1, e2, hbl, k1.1, -pU_lit, ↓pU_set, hst, hsb]
      (repeat' apply And.intro) <;> try omega
      refine More_of (i + 1, R ++ [row]) (by simp) (by simp only [hfn, List.length_append, List.length_cons, List.length_nil]) ⟨⟨by dsimp only; omega, by dsimp only; omega⟩, by dsimp only; simp; omega, ?_, ?_⟩ (by dsimp only; omega)
      · intro r hr
        rcases List.mem_append.1 hr with hr | hr
        · exact g2 r hr
        · simp at hr; subst hr; rw [e3, k1.1]
      · dsimp only
        intro s' u s0' s1' u0 u1
        by_cases e : s' = i
        · subst e
          have hix : ix (R ++ [row]) s' = row := by
            unfold ix
            rw [hst, List.getD_eq_getElem?_getD, List.getElem?_append_right (Nat.le_refl _)]; simp
          rw [hix, e4 u u0 (by rw [k1.1]; exact u1)]
        · rw [ix_app s0' (by omega)]
          exact g3 s' u s0' (by omega) u0 u1
    · have hRl : R.length = M.size := by omega
      have hRs : Sq M.size R := ⟨hRl, g2⟩
      have hRr : ∀ a b, rel R a b ↔ (0 ≤ a ∧ a < (M.size : Int)) ∧ Star (rel m1) a b := fun a b => by
        constructor
        · rintro ⟨a0, a1, b0, b1, hx⟩
          exact ⟨⟨a0, by omega⟩, (g3 a b a0 (by omega) b0 (by omega)).1 hx⟩
        · rintro ⟨⟨a0, a1⟩, hx⟩
          have := (conn1 a b a0 a1 hx).2
          exact ⟨a0, by omega, this.1, by omega, (g3 a b a0 (by omega) this.1 this.2).2 hx⟩
      have hcell : R.map bL ++ List.replicate (M.size - R.length) AV.snil = R.map bL := by rw [hRl]; simp
      rw [hcell]
      obtain ⟨vv, τ, e1, ch, m', rfl, rfl, hg, hw⟩ := LX_s (widen_s M hM t v hv n hc hr ⟨some 10, [.int n.calls, .int n.inns, .int n.rets, .int n.stack, .int n.start, bL n.accept, iLL n.call, iLL n.push, iLL n.inner, iLLL n.pop], .live⟩ m1 R (gar ++ [⟨none, R.map bL, .live⟩]) (2 + M.size + gar.length) k1 hRs fun m' h => hbl m' _ (by rw [h, k1.1]))
      have b0 : ∀ m' rest, blk (mat ⟨some 10, [.int n.calls, .int n.inns, .int n.rets, .int n.stack, .int n.start, bL n.accept, iLL n.call, iLL n.push, iLL n.inner, iLLL n.pop], .live⟩ M.size m' rest) 0 = some ⟨some 10, [.int n.calls, .int n.inns, .int n.rets, .int n.stack, .int n.start, bL n.accept, iLL n.call, iLL n.push, iLL n.inner, iLLL n.pop], .live⟩ := fun m' rest => blk_box
      simp [-More_nor, hii, b0, e1]
      refine ⟨fun hch => ?_, fun hch => ?_⟩
      · subst hch
        refine More_of (m', gar ++ [⟨none, R.map bL, .live⟩], _, _, _) rfl rfl ⟨hg.sq, fun a b h => hg.mono _ _ (k2 a b h), fun a b a0 a1 h => ?_⟩ (hg.yes rfl)
        rcases hg.sound a b h with h | ⟨c, p, r, hc', hr', hp, rfl⟩
        · exact k3 a b a0 a1 h
        · have q := hM.call a c a0 a1 hc'.1 hc'.2
          exact .call a c p r _ hc'.1 hc'.2 hr'.1 hr'.2 (conn1 _ _ q.1 q.2 ((hRr _ _).1 hp).2).1 (.refl _)
      · subst hch
        have hm' := hg.no rfl
        subst hm'
        have hvw : view (mat ⟨some 10, [.int n.calls, .int n.inns, .int n.rets, .int n.stack, .int n.start, bL n.accept, iLL n.call, iLL n.push, iLL n.inner, iLLL n.pop], .live⟩ M.size m' (gar ++ [⟨none, R.map bL, .live⟩])) false vd (.sl (2 + M.size + gar.length) M.size 0 M.size) = some (.imm false (R.map bL)) := view_slm (k := 11) (f := bL) (g := bL) (xs := R) (st := .live) (hbl m' _ k1.1) (by simp) hRl.symm fun _ => rfl
        refine ⟨R, hvw, hRs, fun s u s0 s1 u0 u1 => ?_⟩
        rw [g3 s u s0 (by omega) u0 u1]
        refine star_conn hM k3 (fun s i s0 s1 i0 i1 => ?_) (fun s c p r s0 s1 c0 c1 r0 r1 hst => ?_) ⟨s0, s1⟩
        · have q := hM.inner s i s0 s1 i0 i1
          exact k2 _ _ ⟨s0, by omega, q.1, by omega, (h3 s _ s0 (by omega) q.1 q.2).2 ⟨i, i0, i1, rfl⟩⟩
        · have q := hM.call s c s0 s1 c0 c1
          exact hw s _ s0 s1 ⟨c, p, r, ⟨c0, c1⟩, ⟨r0, r1⟩, (hRr _ _).2 ⟨q, hst⟩, rfl⟩
end Ab
