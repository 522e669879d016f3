/- Tours. Condition: none. -/
import Derived.Test.YtbpkebkldaifgaaCovB
set_option linter.all false
set_option maxRecDepth 100000
set_option maxHeartbeats 4000000
namespace Ab
def mark (T : List (List Bool)) (s a : Int) : List (List Bool) := T.set s.toNat ((ix T s).set a.toNat true)
theorem mark_sh {N C : Nat} {T : List (List Bool)} (h : Sh N C T) {s a : Int} (s0 : 0 ≤ s) (s1 : s < N) : Sh N C (mark T s a) := by
  refine ⟨by simp [mark, h.len], fun r hr => ?_⟩
  unfold mark at hr
  rcases List.mem_or_eq_of_mem_set hr with hr | rfl
  · exact h.row r hr
  · simp [h.ix s0 s1]
theorem mark_same {N C : Nat} {T : List (List Bool)} (h : Sh N C T) {s a : Int} (s0 : 0 ≤ s) (s1 : s < N) (a0 : 0 ≤ a) (a1 : a < C) (ht : ix (ix T s) a = true) : mark T s a = T := by
  have hl := h.len
  have hr := h.ix s0 s1
  unfold mark
  have e1 : (ix T s).set a.toNat true = ix T s := by
    rw [← ht]
    have : ix (ix T s) a = (ix T s)[a.toNat] := by
      have := ix_nat (l := ix T s) (n := a.toNat) (by omega)
      rwa [show ((a.toNat : Nat) : Int) = a by omega] at this
    rw [this]; exact List.set_getElem_self _
  rw [e1]
  have : ix T s = T[s.toNat] := by
    have := ix_nat (l := T) (n := s.toNat) (by omega)
    rwa [show ((s.toNat : Nat) : Int) = s by omega] at this
  rw [this]; exact List.set_getElem_self _
def Mly.tour (m : Mly) : Nat → Int → List (List Bool) → List Int → List Int × Int
  | 0, _, _, out => (out, 0)
  | k + 1, s, T, out => match m.fresh s T with
    | none => ([], 8)
    | some (p, a) => if 1024 < out.length + (p.2.length + 1) then ([], 3) else m.tour k (ix (ix m.next p.1) a) (mark T p.1 a) (out ++ (p.2 ++ [a]))
def Mly.tourE (m : Mly) : List Int × Int := if m.validE ≠ 0 then ([], m.validE) else m.tour ((m.places m.start).length * m.inputs.toNat) m.start m.blank []
/-- What is known of the first word with a new transition. -/
structure Fw (m : Mly) (s : Int) (T : List (List Bool)) (p : Pl) (a : Int) : Prop where
  st : 0 ≤ p.1 ∧ p.1 < (m.next.length : Int)
  sym : 0 ≤ a ∧ a < m.inputs
  new : ix (ix T p.1) a = false
  run : m.run s p.2 = p.1
  len : (p.2.length : Int) ≤ m.next.length
  old : ∀ n : Int, 0 ≤ n → n < (p.2.length : Int) → (0 ≤ m.run s (p.2.take n.toNat) ∧ m.run s (p.2.take n.toNat) < (m.next.length : Int)) ∧ (0 ≤ ix p.2 n ∧ ix p.2 n < m.inputs) ∧ ix (ix T (m.run s (p.2.take n.toNat))) (ix p.2 n) = true
theorem fresh_fw {m : Mly} (hm : m.Ok) {s : Int} (hs : 0 ≤ s ∧ s < (m.next.length : Int)) {T : List (List Bool)} {p : Pl} {a : Int} (h : m.fresh s T = some (p, a)) : Fw m s T p a := by
  obtain ⟨i, i0, i1, rfl, h1, h2⟩ := fresh_some h
  have hb := places_bf m hm s hs
  have hr := hb.run i i0 i1
  have := hb.bq.len i i0 i1
  have := hb.bq.le
  have ho := open1_some h1
  refine ⟨hb.bq.rng _ (ix_mem i0 i1), ho.1, ho.2, hr.1, by omega, fun n n0 n1 => ?_⟩
  obtain ⟨j, j0, j1, j2, e⟩ := hb.pre i n.toNat i0 i1 (by omega)
  have hj := hb.run j j0 (by omega)
  have hrg := hb.bq.rng _ (ix_mem j0 (show j < ((m.places s).length : Int) by omega))
  rw [← e, hj.1]
  have hx := hr.2 _ (ix_mem n0 n1)
  exact ⟨hrg, hx, open1_none (h2 j j0 (j2 (by omega))) _ hx.1 hx.2⟩
/-- The walk along the word. -/
structure Wk (m : Mly) (s : Int) (T : List (List Bool)) (w : List Int) (x a : Int) : Prop where
  pos : 0 < (w.length : Int)
  len : (w.length : Int) ≤ m.next.length + 1
  at' : ∀ n : Int, 0 ≤ n → n < (w.length : Int) → (0 ≤ m.run s (w.take n.toNat) ∧ m.run s (w.take n.toNat) < (m.next.length : Int)) ∧ (0 ≤ ix w n ∧ ix w n < m.inputs) ∧ m.run s (w.take (n + 1).toNat) = ix (ix m.next (m.run s (w.take n.toNat))) (ix w n)
  old : ∀ n : Int, 0 ≤ n → n + 1 < (w.length : Int) → ix (ix T (m.run s (w.take n.toNat))) (ix w n) = true
  new : ∀ n : Int, n + 1 = (w.length : Int) → m.run s (w.take n.toNat) = x ∧ ix w n = a
  fin : m.run s (w.take w.length) = ix (ix m.next x) a
theorem run_take {m : Mly} {s : Int} {w : List Int} {n : Int} (h0 : 0 ≤ n) (h1 : n < w.length) : m.run s (w.take (n + 1).toNat) = ix (ix m.next (m.run s (w.take n.toNat))) (ix w n) := by
  have e : w.take (n + 1).toNat = w.take n.toNat ++ [ix w n] := by
    rw [show (n + 1).toNat = n.toNat + 1 by omega, List.take_add_one, ix_eq h0 h1]; rfl
  rw [e, run_app]; rfl
theorem Fw.walk {m : Mly} {s : Int} {T : List (List Bool)} {p : Pl} {a : Int} (h : Fw m s T p a) {w : List Int} (hw : w = p.2 ++ [a]) : Wk m s T w p.1 a := by
  have hl : (w.length : Int) = p.2.length + 1 := by rw [hw]; simp
  have tk : ∀ n : Int, 0 ≤ n → n ≤ (p.2.length : Int) → w.take n.toNat = p.2.take n.toNat := fun n n0 n1 => by rw [hw, List.take_append_of_le_length (by omega)]
  have last : m.run s (w.take p.2.length) = p.1 ∧ ix w (p.2.length : Int) = a := by
    have := tk (p.2.length : Int) (by omega) (by omega)
    rw [Int.toNat_natCast, List.take_length] at this
    exact ⟨by rw [this, h.run], by rw [hw, ixa_last]⟩
  have at1 : ∀ n : Int, 0 ≤ n → n < (w.length : Int) → (0 ≤ m.run s (w.take n.toNat) ∧ m.run s (w.take n.toNat) < (m.next.length : Int)) ∧ (0 ≤ ix w n ∧ ix w n < m.inputs) := by
    intro n n0 n1
    by_cases e : n = (p.2.length : Int)
    · subst e
      rw [Int.toNat_natCast, last.1, last.2]
      exact ⟨h.st, h.sym⟩
    · have o := h.old n n0 (by omega)
      rw [tk n n0 (by omega), hw, ixa_app n0 (by omega)]
      exact ⟨o.1, o.2.1⟩
  refine ⟨by omega, by have := h.len; omega, fun n n0 n1 => ⟨(at1 n n0 n1).1, (at1 n n0 n1).2, run_take n0 n1⟩, fun n n0 n1 => ?_, fun n n1 => ?_, ?_⟩
  · have o := h.old n n0 (by omega)
    rw [tk n n0 (by omega), hw, ixa_app n0 (by omega)]
    exact o.2.2
  · have e : n = (p.2.length : Int) := by omega
    subst e
    rw [Int.toNat_natCast]; exact last
  · have := run_take (m := m) (s := s) (w := w) (n := (p.2.length : Int)) (by omega) (by omega)
    rw [Int.toNat_natCast, last.1, last.2] at this
    rw [← this]; congr 2; omega
abbrev tourA (r : List Int × Int) : AV := .tup [iL r.1, .int r.2]
abbrev Mly.box (m : Mly) : Blk := ⟨some 4, [.int m.inputs, .int m.start, iLL m.next, iLL m.out], .live⟩
/-- A list that grows from nil. -/
abbrev lout (out : List Int) : Blk := ⟨none, out.map .int, if out = [] then .nul else .live⟩
theorem vd_lout {σ : List Blk} {b : Nat} {out : List Int} (h : blk σ b = some (lout out)) : view σ false vd (.sl b out.length 0 out.length) = some (iL out) := vd_iL h (by split <;> simp) rfl
theorem g1_rest {box : Blk} {C N : Nat} {T : List (List Bool)} {B : Blk} (h : T.length = N) : blk (grid1 box C N T [B]) (2 + N) = some B := by
  subst h
  rw [blkS, grid1, show 2 + T.length = T.length + 1 + 1 by omega, List.getElem?_cons_succ, List.getElem?_cons_succ, List.getElem?_append_right (by simp)]
  simp
theorem g1_setrest {box : Blk} {C N : Nat} {T : List (List Bool)} {B B' : Blk} (h : T.length = N) : setB (grid1 box C N T [B]) (2 + N) B' = grid1 box C N T [B'] := by
  subst h
  rw [setBS, grid1, grid1, show 2 + T.length = T.length + 1 + 1 by omega, List.set_cons_succ, List.set_cons_succ, List.set_append, if_neg (by simp)]
  simp
theorem box_grid {m : Mly} {C N : Nat} {T : List (List Bool)} {B : Blk} (hN : T.length = N) : (⟨some 4, (AV.agg [AV.int m.inputs, AV.int m.start, iLL m.next, iLL m.out]).cells, .live⟩ :: ((grid0 C N T []).map (shB 1) ++ [B]) : List Blk) = grid1 m.box C N T [B] := by
  subst hN
  unfold grid0 grid1
  simp only [List.map_cons, List.append_nil, shB_rows, shB, Nat.sub_self, List.replicate_zero, shL_rfs]
  rfl
theorem Tour_s (m : Mly) (h : m.fits) : PC F_cover_Tour [m.av] = some (tourA m.tourE) := by
  refine PCx_of (go_cover_Tour rfl ?_)
  by_cases hv : m.validE = 0
  · have hm := mvalidE_ok hv
    obtain ⟨hi1, hi2⟩ := hm.inputs
    obtain ⟨hs1, hs2⟩ := hm.states
    have hq := (places_ok m hm m.start hm.start).le
    have hR := Reach_s m h hv
    obtain ⟨_, _, hM, rfl, rfl⟩ := LX_s (marks_l m hm)
    have hE : m.tourE = m.tour ((m.places m.start).length * m.inputs.toNat) m.start m.blank [] := by unfold Mly.tourE; rw [if_neg (by simpa using hv)]
    simp [-List.map_replicate, -List.map_map, mValid_s m h, hv, hR, hM, shV, shB]
    have hP := mul_small (P := (m.places m.start).length) (by omega) hi2 (by omega)
    rw [mul_nat (by omega)]
    rw [g0_len, box_grid (by simp)]
    simp only [List.length_replicate, List.length_nil, Nat.add_zero, show 1 + m.next.length + 1 = 2 + m.next.length by omega]
    refine ⟨by omega, ?_⟩
    refine W_iter (fun p : Nat × Int × List (List Bool) × List Int => [(3, .int p.1), (4, .int p.2.1), (7, .sl (2 + m.next.length) p.2.2.2.length 0 p.2.2.2.length)]) (fun p => grid1 m.box m.inputs.toNat m.next.length p.2.2.1 [lout p.2.2.2])
      (fun p => (0 ≤ p.2.1 ∧ p.2.1 < (m.next.length : Int)) ∧ Sh m.next.length m.inputs.toNat p.2.2.1 ∧ m.tour p.1 p.2.1 p.2.2.1 p.2.2.2 = m.tourE ∧ p.2.2.2.length ≤ 1024 ∧ p.1 ≤ 8192)
      (fun p => p.1) ((m.places m.start).length * m.inputs.toNat, m.start, m.blank, []) (by simp [sets]; rfl) ⟨hm.start, ⟨by simp, fun r hr => by rw [List.eq_of_mem_replicate hr]; simp⟩, hE.symm, by simp, hP⟩ ?_
    rintro ⟨k, s, T, out⟩ ⟨hs, hT, ht, ho, hk8⟩
    dsimp only at hs hT ht ho hk8 ⊢
    have bx : ∀ T' rest, blk (grid1 m.box m.inputs.toNat m.next.length T' rest) 0 = some m.box := fun _ _ => g1_box
    by_cases hk : k = 0
    · subst hk
      have hr : m.tourE = (out, 0) := by rw [← ht]; rfl
      rw [hr]
      have hv7 := vd_lout (g1_rest (box := m.box) (C := m.inputs.toNat) (B := lout out) hT.len)
      simp [-List.map_replicate, hv7]
    · obtain ⟨_, _, hU, rfl, rfl⟩ := LX_s (untaken_l m hm s hs m.box T [lout out] hT)
      obtain ⟨k, rfl⟩ : ∃ k', k = k' + 1 := ⟨k - 1, by omega⟩
      cases hf : m.fresh s T with
      | none =>
        rw [hf] at hU
        have hr : m.tourE = ([], 8) := by rw [← ht]; unfold Mly.tour; rw [hf]
        rw [hr]
        simp [-List.map_replicate, bx, hU, freshA]
      | some pa =>
        obtain ⟨p, a⟩ := pa
        rw [hf] at hU
        have hw := fresh_fw hm hs hf
        obtain ⟨w, hwd⟩ : ∃ w, w = p.2 ++ [a] := ⟨_, rfl⟩
        have wk := hw.walk hwd
        have hwl : w.length = p.2.length + 1 := by rw [hwd]; simp
        have hA : freshA (some (p, a)) = .tup [iL w, .bool true] := by rw [hwd]; rfl
        rw [hA] at hU
        have hlw := wk.len
        by_cases hlong : 1024 < out.length + w.length
        · have hr : m.tourE = ([], 3) := by rw [← ht]; unfold Mly.tour; rw [hf]; simp only; rw [if_pos (by omega)]
          rw [hr]
          simp [-List.map_replicate, bx, hU, show 1024 < (out.length : Int) + (w.length : Int) by omega]
          omega
        · have hr : m.tourE = m.tour k (ix (ix m.next p.1) a) (mark T p.1 a) (out ++ w) := by rw [hwd, ← ht]; conv => lhs; unfold Mly.tour; rw [hf]; simp only; rw [if_neg (by omega)]
          simp [-List.map_replicate, -More_nor, bx, hU, show ¬ 1024 < (out.length : Int) + (w.length : Int) by omega]
          refine ⟨by omega, ?_⟩
          have hw0 : w ≠ [] := by rw [hwd]; simp
          have hw1 : 0 < w.length := List.length_pos_iff.2 hw0
          refine W_iter (fun n : Int => [(3, .int (if n < w.length then (k : Int) + 1 else k)), (4, .int (m.run s (w.take n.toNat))), (9, .int n)]) (fun n => grid1 m.box m.inputs.toNat m.next.length (if n < w.length then T else mark T p.1 a) [lout out])
            (fun n => 0 ≤ n ∧ n ≤ w.length) (fun n => (w.length - n).toNat) 0 (by simp [sets, hw0, hw1, Mly.run]) (by omega) ?_
          intro n ⟨n0, n1⟩
          by_cases hn : n < w.length
          · rw [if_pos hn, if_pos hn]
            obtain ⟨hx, hb, hnx⟩ := wk.at' n n0 hn
            have b1 := g1_outerN (box := m.box) (C := m.inputs.toNat) (rest := [lout out]) hT.len
            have b2 := g1_row (box := m.box) (C := m.inputs.toNat) (N := m.next.length) (rest := [lout out]) (m := T) hx.1 (by rw [hT.len]; exact hx.2)
            have b3 := fun r => g1_set (box := m.box) (C := m.inputs.toNat) (N := m.next.length) (rest := [lout out]) (m := T) (r := r) hx.1 (by rw [hT.len]; exact hx.2)
            have hrl := hT.ix hx.1 hx.2
            have hrow := (hm.row _ hx.1 hx.2).1
            have hmx : max m.inputs 0 = m.inputs := by omega
            have hax : max (ix w n) 0 = ix w n := by omega
            have p1 := fun (K : AV → Prop) (t : Tk K) => pT_rfsN (e := 2) (C := m.inputs.toNat) (k := m.next.length) (K := K) (t := t) hx.1 hx.2
            by_cases hlast : n + 1 < w.length
            · have hold := wk.old n n0 hlast
              simp [-More_nor, hn, n0, b1, b2, bx, hold, hx.1, hx.2, hb.1, hb.2, hrl, hrow, ↓p1, hmx, hax]
              refine ⟨by omega, More_of (n + 1) (by simp [hlast, hnx]) (by rw [if_pos hlast]) (by omega) (by omega)⟩
            · obtain ⟨e1, e2⟩ := wk.new n (by omega)
              have hnew := hw.new
              rw [← e1, ← e2] at hnew
              simp [-More_nor, -List.map_set, hn, n0, b1, b2, b3, bx, hnew, hx.1, hx.2, hb.1, hb.2, hrl, hrow, ↓p1, hmx, hax]
              refine ⟨by omega, by omega, More_of (n + 1) (by simp [hlast, hnx]) (by rw [if_neg hlast, e1, e2]; rfl) (by omega) (by omega)⟩
          · rw [if_neg hn, if_neg hn]
            have en : n = w.length := by omega
            subst en
            have b9 := g1_rest (box := m.box) (C := m.inputs.toNat) (T := mark T p.1 a) (B := lout out) (N := m.next.length) (by simp [mark, hT.len])
            have b8 := fun B' => g1_setrest (box := m.box) (C := m.inputs.toNat) (T := mark T p.1 a) (B := lout out) (B' := B') (N := m.next.length) (by simp [mark, hT.len])
            simp [-More_nor, b9, b8]
            have hfin := wk.fin
            rw [List.take_length] at hfin
            refine ⟨by split <;> simp, by omega, fun e => absurd e hw0, fun _ => ?_⟩
            have hnx := hm.nx _ a hw.st.1 hw.st.2 hw.sym.1 hw.sym.2
            refine More_of (k, ix (ix m.next p.1) a, mark T p.1 a, out ++ w) (by simp [sets, hfin]) (by simp [hw0, lout]) ⟨hnx, mark_sh hT hw.st.1 hw.st.2, hr.symm, by simp; omega, by dsimp only; omega⟩ (by dsimp only; omega)
  · have : m.tourE = ([], m.validE) := by unfold Mly.tourE; rw [if_pos hv]
    rw [this]
    simp [mValid_s m h, hv]
end Ab
namespace Ab
theorem RTour_s (m : Mly) (h : m.fits) : PC F_ref10_Tour [m.av] = some (tourA m.tourE) := by
  refine PCx_of (go_ref10_Tour rfl ?_)
  by_cases hv : m.validE = 0
  · have hm := mvalidE_ok hv
    obtain ⟨hi1, hi2⟩ := hm.inputs
    obtain ⟨hs1, hs2⟩ := hm.states
    have hq := (places_ok m hm m.start hm.start).le
    have hR := RAccess_s m h hv
    obtain ⟨_, _, hM, rfl, rfl⟩ := LX_s (none_l m hm)
    have hE : m.tourE = m.tour ((m.places m.start).length * m.inputs.toNat) m.start m.blank [] := by unfold Mly.tourE; rw [if_neg (by simpa using hv)]
    simp [-List.map_replicate, -List.map_map, hR, hM, shV, shB]
    have hP := mul_small (P := (m.places m.start).length) (by omega) hi2 (by omega)
    rw [mul_nat (by omega)]
    rw [g0_len, box_grid (by simp)]
    simp only [List.length_replicate, List.length_nil, Nat.add_zero, show 1 + m.next.length + 1 = 2 + m.next.length by omega]
    refine ⟨by omega, ?_⟩
    refine W_iter (fun p : Nat × Int × List (List Bool) × List Int => [(4, .int p.1), (5, .int p.2.1), (8, .sl (2 + m.next.length) p.2.2.2.length 0 p.2.2.2.length)]) (fun p => grid1 m.box m.inputs.toNat m.next.length p.2.2.1 [lout p.2.2.2])
      (fun p => (0 ≤ p.2.1 ∧ p.2.1 < (m.next.length : Int)) ∧ Sh m.next.length m.inputs.toNat p.2.2.1 ∧ m.tour p.1 p.2.1 p.2.2.1 p.2.2.2 = m.tourE ∧ p.2.2.2.length ≤ 1024 ∧ p.1 ≤ 8192)
      (fun p => p.1) ((m.places m.start).length * m.inputs.toNat, m.start, m.blank, []) (by simp [sets]; rfl) ⟨hm.start, ⟨by simp, fun r hr => by rw [List.eq_of_mem_replicate hr]; simp⟩, hE.symm, by simp, hP⟩ ?_
    rintro ⟨k, s, T, out⟩ ⟨hs, hT, ht, ho, hk8⟩
    dsimp only at hs hT ht ho hk8 ⊢
    have bx : ∀ T' rest, blk (grid1 m.box m.inputs.toNat m.next.length T' rest) 0 = some m.box := fun _ _ => g1_box
    by_cases hk : k = 0
    · subst hk
      have hr : m.tourE = (out, 0) := by rw [← ht]; rfl
      rw [hr]
      have hv7 := vd_lout (g1_rest (box := m.box) (C := m.inputs.toNat) (B := lout out) hT.len)
      simp [-List.map_replicate, hv7]
    · obtain ⟨_, _, hU, rfl, rfl⟩ := LX_s (fresh_l m h hv m.start s hs m.box T [lout out] hT)
      obtain ⟨k, rfl⟩ : ∃ k', k = k' + 1 := ⟨k - 1, by omega⟩
      cases hf : m.fresh s T with
      | none =>
        rw [hf] at hU
        have hr : m.tourE = ([], 8) := by rw [← ht]; unfold Mly.tour; rw [hf]
        rw [hr]
        simp [-List.map_replicate, bx, hU, Mly.freshR]
      | some pa =>
        obtain ⟨p, a⟩ := pa
        rw [hf] at hU
        have hw := fresh_fw hm hs hf
        obtain ⟨w, hwd⟩ : ∃ w, w = p.2 ++ [a] := ⟨_, rfl⟩
        have wk := hw.walk hwd
        have hwl : w.length = p.2.length + 1 := by rw [hwd]; simp
        have hA : m.freshR (some (p, a)) = .tup [iL w, .int (ix (ix m.next p.1) a), .bool true] := by rw [hwd]; rfl
        rw [hA] at hU
        have hlw := wk.len
        by_cases hlong : 1024 < out.length + w.length
        · have hr : m.tourE = ([], 3) := by rw [← ht]; unfold Mly.tour; rw [hf]; simp only; rw [if_pos (by omega)]
          rw [hr]
          simp [-List.map_replicate, bx, hU, show 1024 < (out.length : Int) + (w.length : Int) by omega]
          omega
        · have hr : m.tourE = m.tour k (ix (ix m.next p.1) a) (mark T p.1 a) (out ++ w) := by rw [hwd, ← ht]; conv => lhs; unfold Mly.tour; rw [hf]; simp only; rw [if_neg (by omega)]
          simp [-List.map_replicate, -More_nor, bx, hU, show ¬ 1024 < (out.length : Int) + (w.length : Int) by omega]
          refine ⟨by omega, ?_⟩
          have hw0 : w ≠ [] := by rw [hwd]; simp
          have hw1 : 0 < w.length := List.length_pos_iff.2 hw0
          refine W_iter (fun n : Int => [(5, .int (m.run s (w.take n.toNat))), (10, .int n)]) (fun n => grid1 m.box m.inputs.toNat m.next.length (if n < w.length then T else mark T p.1 a) [lout out])
            (fun n => 0 ≤ n ∧ n ≤ w.length) (fun n => (w.length - n).toNat) 0 (by simp [sets, hw0, hw1, Mly.run]) (by omega) ?_
          intro n ⟨n0, n1⟩
          by_cases hn : n < w.length
          · rw [if_pos hn]
            obtain ⟨hx, hb, hnx⟩ := wk.at' n n0 hn
            have b1 := g1_outerN (box := m.box) (C := m.inputs.toNat) (rest := [lout out]) hT.len
            have b2 := g1_row (box := m.box) (C := m.inputs.toNat) (N := m.next.length) (rest := [lout out]) (m := T) hx.1 (by rw [hT.len]; exact hx.2)
            have b3 := fun r => g1_set (box := m.box) (C := m.inputs.toNat) (N := m.next.length) (rest := [lout out]) (m := T) (r := r) hx.1 (by rw [hT.len]; exact hx.2)
            have hrl := hT.ix hx.1 hx.2
            have hrow := (hm.row _ hx.1 hx.2).1
            have hmx : max m.inputs 0 = m.inputs := by omega
            have hax : max (ix w n) 0 = ix w n := by omega
            have p1 := fun (K : AV → Prop) (t : Tk K) => pT_rfsN (e := 2) (C := m.inputs.toNat) (k := m.next.length) (K := K) (t := t) hx.1 hx.2
            by_cases hlast : n + 1 < w.length
            · have hold := wk.old n n0 hlast
              have hsm := mark_same hT hx.1 hx.2 hb.1 (by omega) hold
              unfold mark at hsm
              simp [-More_nor, -List.map_set, hn, n0, b1, b2, b3, bx, hsm, hx.1, hx.2, hb.1, hb.2, hrl, hrow, ↓p1, hmx, hax]
              refine ⟨by omega, More_of (n + 1) (by simp [hlast, hnx]) (by rw [if_pos hlast]) (by omega) (by omega)⟩
            · obtain ⟨e1, e2⟩ := wk.new n (by omega)
              have hnew := hw.new
              rw [← e1, ← e2] at hnew
              simp [-More_nor, -List.map_set, hn, n0, b1, b2, b3, bx, hnew, hx.1, hx.2, hb.1, hb.2, hrl, hrow, ↓p1, hmx, hax]
              refine ⟨by omega, More_of (n + 1) (by simp [hlast, hnx]) (by rw [if_neg hlast, e1, e2]; rfl) (by omega) (by omega)⟩
          · rw [if_neg hn]
            have en : n = w.length := by omega
            subst en
            have b9 := g1_rest (box := m.box) (C := m.inputs.toNat) (T := mark T p.1 a) (B := lout out) (N := m.next.length) (by simp [mark, hT.len])
            have b8 := fun B' => g1_setrest (box := m.box) (C := m.inputs.toNat) (T := mark T p.1 a) (B := lout out) (B' := B') (N := m.next.length) (by simp [mark, hT.len])
            simp [-More_nor, b9, b8]
            have hfin := wk.fin
            rw [List.take_length] at hfin
            refine ⟨by split <;> simp, by omega, fun e => absurd e hw0, fun _ => ⟨by omega, ?_⟩⟩
            have hnx := hm.nx _ a hw.st.1 hw.st.2 hw.sym.1 hw.sym.2
            refine More_of (k, ix (ix m.next p.1) a, mark T p.1 a, out ++ w) (by simp [sets, hfin]) (by simp [hw0, lout]) ⟨hnx, mark_sh hT hw.st.1 hw.st.2, hr.symm, by simp; omega, by dsimp only; omega⟩ (by dsimp only; omega)
  · have : m.tourE = ([], m.validE) := by unfold Mly.tourE; rw [if_pos hv]
    rw [this]
    simp [RAccess_e m h hv, hv]
end Ab
