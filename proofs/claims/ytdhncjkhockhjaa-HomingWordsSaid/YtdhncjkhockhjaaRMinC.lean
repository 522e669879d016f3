/- Classes of states, by the document: all rounds. The minimal machine, by the document: how many states it has. Condition: none. -/
import Derived.Test.YtdhncjkhockhjaaHomV
set_option linter.all false
set_option maxRecDepth 100000
set_option maxHeartbeats 1000000
namespace Ab
theorem RClasses_s (m : Mly) (h : m.fits) : PC F_ref08_Classes [m.av] = some (.tup [iL (if m.validE = 0 then rit m m.next.length else []), .int m.validE]) := by
  have hP : PC F_ref08_Partition [m.av, .int m.next.length] = some (.tup [iL (if m.validE = 0 then rit m m.next.length else []), .int m.validE]) := by
    refine PCx_of (go_ref08_Partition rfl ?_)
    have hv := rmValid_s m h
    by_cases h0 : m.validE = 0
    case neg =>
      rw [if_neg h0]
      simp [hv, h0]
    have hm := mvalidE_ok h0
    have hst := hm.states
    rw [if_pos h0, h0]
    rw [h0] at hv
    generalize hZ : List.replicate m.next.length (0 : Int) = Z at *
    have hZl : Z.length = m.next.length := by rw [← hZ]; simp
    have hz0 : rit m 0 = Z := hZ
    simp [-More_nor, -List.map_replicate, hv, hZ]
    refine ⟨by omega, ?_⟩
    refine W_iter (fun i : Nat => [(4, .int i), (5, clsV i m.next.length (rit m i))]) (fun _ => [⟨none, Z.map .int, .live⟩]) (fun i => i ≤ m.next.length) (fun i => m.next.length - i) 0 (by simp [sets, clsV, hZl]) (by omega) ?_
    intro i i1
    have hrl := rit_len (m := m) (i := i)
    have hvw : view [⟨none, Z.map AV.int, .live⟩] false vd (clsV i m.next.length (rit m i)) = some (iL (rit m i)) := by
      cases i with
      | zero =>
        rw [hz0]
        exact vd_iL (σ := [⟨none, Z.map .int, .live⟩]) (fr := false) (b := 0) (xs := Z) (n := m.next.length) (st := .live) rfl (by simp) hZl.symm
      | succ i => rfl
    by_cases hi : i < m.next.length
    · have hF := finer_l m hm (rit m i) hrl (rit_rfi hm)
      have hsu : rit m (i + 1) = (rnd m (rit m i) m.next.length).2 := rfl
      have hl2 := (rnd_len (m := m) (c := rit m i) (s := m.next.length)).1
      have hv2 := vd_iL (σ := [louI (rnd m (rit m i) m.next.length).2]) (fr := true) (b := 0) (xs := (rnd m (rit m i) m.next.length).2) (n := m.next.length) (st := if (rnd m (rit m i) m.next.length).2 = [] then .nul else .live) rfl (by split <;> simp) hl2.symm
      simp [-More_nor, hi, hvw, hF, hv2, mapO]
      refine ⟨by omega, More_of (i + 1) (by simp [clsV, hsu]) rfl (by omega) (by omega)⟩
    · have : i = m.next.length := by omega
      subst this
      simp [hvw, mapO]
  refine PCx_of (go_ref08_Classes rfl ?_)
  simp [hP]
end Ab
namespace Ab
/-- Where the rows lie. -/
def qN (j : Nat) : Nat := if j = 0 then 4 else 2 * j + 6
def qO (j : Nat) : Nat := if j = 0 then 5 else 2 * j + 7
/-- The rest of the store. -/
def rmR (inp : Int) (K : Nat) (N O : List (List Int)) : List Blk := match N, O with
  | a :: A, o :: O => ⟨some 4, [.int inp, .int 0, .sl 6 (A.length + 1) 0 (A.length + 1), .sl 7 (A.length + 1) 0 (A.length + 1)], .live⟩ :: Zb a :: Zb o :: ⟨none, rws 0 qN (A.length + 1) K, .live⟩ :: ⟨none, rws 0 qO (A.length + 1) K, .live⟩ :: mtw A O
  | _, _ => [⟨some 4, [.int inp, .int 0, .snil, .snil], .live⟩]
theorem rmR_cons {inp : Int} {K : Nat} {a o : List Int} {A O : List (List Int)} : rmR inp K (a :: A) (o :: O) = ⟨some 4, [.int inp, .int 0, .sl 6 (A.length + 1) 0 (A.length + 1), .sl 7 (A.length + 1) 0 (A.length + 1)], .live⟩ :: Zb a :: Zb o :: ⟨none, rws 0 qN (A.length + 1) K, .live⟩ :: ⟨none, rws 0 qO (A.length + 1) K, .live⟩ :: mtw A O := rfl
theorem rmR_nil {inp : Int} {K : Nat} : rmR inp K [] [] = [⟨some 4, [.int inp, .int 0, .snil, .snil], .live⟩] := rfl
theorem rmR_rows {B0 B1 B2 B3 : Blk} {K : Nat} {a o : List Int} {A O : List (List Int)} (hAO : A.length = O.length) (hA : ∀ x ∈ a :: A, x.length = K) (hO : ∀ x ∈ o :: O, x.length = K) : RowsAt (B0 :: B1 :: B2 :: B3 :: Zb a :: Zb o :: ⟨none, rws 0 qN (A.length + 1) K, .live⟩ :: ⟨none, rws 0 qO (A.length + 1) K, .live⟩ :: mtw A O) 6 qN (a :: A) ∧ RowsAt (B0 :: B1 :: B2 :: B3 :: Zb a :: Zb o :: ⟨none, rws 0 qN (A.length + 1) K, .live⟩ :: ⟨none, rws 0 qO (A.length + 1) K, .live⟩ :: mtw A O) 7 qO (o :: O) := by
  refine ⟨⟨?_, fun j hj => ?_⟩, ⟨?_, fun j hj => ?_⟩⟩
  · show some (Blk.mk none (rws 0 qN (A.length + 1) K) .live) = _
    unfold rws
    congr 2
    refine List.map_congr_left fun j hj => ?_
    have := hA _ (ix_mem (l := a :: A) (n := (j : Int)) (by omega) (by simp at hj ⊢; omega))
    rw [this]; rfl
  · cases j with
    | zero => rfl
    | succ j =>
      have e : qN (j + 1) = 2 * j + 8 := by unfold qN; rw [if_neg (by omega)]; omega
      rw [e]
      show blk (mtw A O) (2 * j) = _
      rw [(mtw_N hAO (by simpa using hj)).1]
      simp [ix]
  · show some (Blk.mk none (rws 0 qO (A.length + 1) K) .live) = _
    unfold rws
    rw [hAO]
    congr 2
    refine List.map_congr_left fun j hj => ?_
    have := hO _ (ix_mem (l := o :: O) (n := (j : Int)) (by omega) (by simp at hj ⊢; omega))
    rw [this]; rfl
  · cases j with
    | zero => rfl
    | succ j =>
      have e : qO (j + 1) = 2 * j + 9 := by unfold qO; rw [if_neg (by omega)]; omega
      rw [e]
      show blk (mtw A O) (2 * j + 1) = _
      rw [(mtw_N hAO (by simp at hj; omega)).2]
      simp [ix]
/-- The states so far, the numbers of their classes; input a of state i is next. -/
structure Rq (m : Mly) (c : List Int) (i a : Nat) (q nb : List Int) : Prop where
  nd : (q.map fun s => ix c s).Nodup
  rng : ∀ s ∈ q, 0 ≤ s ∧ s < (m.next.length : Int)
  get : ∀ s ∈ q, ∃ w, (∀ x ∈ w, 0 ≤ x ∧ x < m.inputs) ∧ m.run m.start w = s
  fst : ix c m.start ∈ q.map fun s => ix c s
  len : nb.length = m.next.length
  num : ∀ v : Int, 0 ≤ v → v < (m.next.length : Int) → (ix nb v < 0 ↔ v ∉ q.map fun s => ix c s)
  done : ∀ j b : Nat, j < q.length → (j < i ∨ j = i ∧ b < a) → (b : Int) < m.inputs → ix c (ix (ix m.next (ix q (j : Int))) (b : Int)) ∈ q.map fun s => ix c s
theorem Rq.le {m : Mly} {c : List Int} {i a : Nat} {q nb : List Int} (h : Rq m c i a q nb) : q.length ≤ m.next.length := nodup_len m.next.length (nodup_of_map h.nd) h.rng
theorem Rq.cls {m : Mly} {c : List Int} {i : Nat} {q nb : List Int} (h : Rq m c i 0 q nb) (hi : q.length ≤ i) : Rcl m c q := by
  refine ⟨h.nd, h.rng, h.get, h.fst, fun s hs a a0 a1 => ?_⟩
  obtain ⟨j, hj, rfl⟩ := List.mem_iff_getElem.1 hs
  obtain ⟨b, rfl⟩ := Int.eq_ofNat_of_zero_le a0
  have := h.done j b hj (.inl (by omega)) a1
  rwa [ix_nat hj] at this
theorem Rq.next {m : Mly} {c : List Int} {i a : Nat} {q nb : List Int} (h : Rq m c i a q nb) (ha : m.inputs ≤ (a : Int)) : Rq m c (i + 1) 0 q nb :=
  ⟨h.nd, h.rng, h.get, h.fst, h.len, h.num, fun j b hj hb hin => h.done j b hj (by omega) hin⟩
theorem Rq.old {m : Mly} {c : List Int} {i a : Nat} {q nb : List Int} (h : Rq m c i a q nb) (hi : i < q.length) {v : Int} (hv : ix c (ix (ix m.next (ix q (i : Int))) (a : Int)) = v) (hr : 0 ≤ v ∧ v < (m.next.length : Int)) (hn : ¬ ix nb v < 0) : Rq m c i (a + 1) q nb := by
  refine ⟨h.nd, h.rng, h.get, h.fst, h.len, h.num, fun j b hj hb hin => ?_⟩
  by_cases e : j = i ∧ b = a
  · obtain ⟨rfl, rfl⟩ := e
    rw [hv]
    exact Classical.not_not.1 fun hc => hn ((h.num v hr.1 hr.2).2 hc)
  · exact h.done j b hj (by omega) hin
theorem Rq.new {m : Mly} (hm : m.Ok) {c : List Int} {i a : Nat} {q nb : List Int} (h : Rq m c i a q nb) (hi : i < q.length) (ha : (a : Int) < m.inputs) {t v : Int} (ht : ix (ix m.next (ix q (i : Int))) (a : Int) = t) (hv : ix c t = v) (hr : 0 ≤ v ∧ v < (m.next.length : Int)) (hn : ix nb v < 0) : Rq m c i (a + 1) (q ++ [t]) (nb.set v.toNat (q.length : Int)) := by
  have hno := (h.num v hr.1 hr.2).1 hn
  have hs := h.rng _ (ix_mem (l := q) (n := (i : Int)) (by omega) (by omega))
  have hnx := hm.nx _ (a : Int) hs.1 hs.2 (by omega) ha
  rw [ht] at hnx
  refine ⟨?_, fun s hs => ?_, fun s hs => ?_, ?_, by simp [h.len], fun u u0 u1 => ?_, fun j b hj hb hin => ?_⟩
  · rw [List.map_append, List.nodup_append]
    exact ⟨h.nd, by simp, fun x hx y hy => by simp at hy; subst hy; rw [hv]; exact fun e => hno (e ▸ hx)⟩
  · rcases List.mem_append.1 hs with hs | hs
    · exact h.rng s hs
    · simp at hs; subst hs; exact hnx
  · rcases List.mem_append.1 hs with hs | hs
    · exact h.get s hs
    · simp at hs; subst hs
      obtain ⟨w, hw, e⟩ := h.get _ (ix_mem (l := q) (n := (i : Int)) (by omega) (by omega))
      refine ⟨w ++ [(a : Int)], fun x hx => ?_, ?_⟩
      · rcases List.mem_append.1 hx with hx | hx
        · exact hw x hx
        · simp at hx; omega
      · rw [run_app, e]; exact ht
  · rw [List.map_append]; exact List.mem_append_left _ h.fst
  · have hl := h.len
    rw [List.map_append, List.mem_append, not_or]
    by_cases e : u = v
    · subst e
      have : ix (nb.set u.toNat (q.length : Int)) u = (q.length : Int) := by
        obtain ⟨k, rfl⟩ := Int.eq_ofNat_of_zero_le u0
        rw [ix_nat (by simp; omega)]; simp
      rw [this]
      constructor
      · intro h'; omega
      · rintro ⟨_, h'⟩; simp [hv] at h'
    · have : ix (nb.set v.toNat (q.length : Int)) u = ix nb u := by
        obtain ⟨k, rfl⟩ := Int.eq_ofNat_of_zero_le u0
        rw [ix_nat (by simp; omega), ix_nat (by omega), List.getElem_set_ne (by omega)]
      rw [this, h.num u u0 u1]
      constructor
      · intro h'; exact ⟨h', by simp [hv]; exact e⟩
      · exact fun h' => h'.1
  · rw [List.map_append, List.mem_append]
    rw [List.length_append, List.length_singleton] at hj
    by_cases ej : j = q.length
    · subst ej; omega
    · rw [ixa_app (by omega) (by omega)]
      by_cases e : j = i ∧ b = a
      · obtain ⟨rfl, rfl⟩ := e
        right; simp [ht]
      · exact .inl (h.done j b (by omega) (by omega) hin)
/-- What holds in a round. -/
structure RqI (m : Mly) (c : List Int) (i : Nat) (p : Nat × List Int × List Int × List Int × List Int) : Prop where
  q : Rq m c i p.1 p.2.1 p.2.2.1
  i : i < p.2.1.length
  a : (p.1 : Int) ≤ m.inputs
  l1 : p.2.2.2.1.length = p.1
  l2 : p.2.2.2.2.length = p.1
structure RqO (m : Mly) (c : List Int) (p : Nat × List Int × List Int × List (List Int) × List (List Int)) : Prop where
  q : Rq m c p.1 0 p.2.1 p.2.2.1
  i : p.1 ≤ p.2.1.length
  l1 : p.2.2.2.1.length = p.1
  l2 : p.2.2.2.2.length = p.1
  k1 : ∀ x ∈ p.2.2.2.1, x.length = m.inputs.toNat
  k2 : ∀ x ∈ p.2.2.2.2, x.length = m.inputs.toNat
theorem RMin_x (m : Mly) (h : m.fits) (hv : m.validE = 0) : LX L F_ref08_Min [m.av] [] (fun v σ' => ∃ M : Mly, viewT σ' false v = some (.tup [M.av, .int 0]) ∧ (M.next.length = m.next.length ↔ Mnl m)) := by
  refine go_ref08_Min rfl ?_
  have hm := mvalidE_ok hv
  have hst := hm.states
  have hin := hm.inputs
  have hml := hm.len
  have hstr := hm.start
  have hC := RClasses_s m h
  rw [if_pos hv, hv] at hC
  obtain ⟨k, hk⟩ := rit_cls hm
  have hcl := hk.len
  have hcr : ∀ s : Int, 0 ≤ s → s < (m.next.length : Int) → 0 ≤ ix (rit m m.next.length) s ∧ ix (rit m m.next.length) s < (m.next.length : Int) := fun s s0 s1 => by
    have := cls_rng hk s0 s1
    have := hk.can.len
    omega
  generalize rit m m.next.length = c at *
  have hz : ∀ i, i < m.next.length → (List.replicate i (-1 : Int) ++ List.replicate (m.next.length - i) 0).set i (-1) = List.replicate (i + 1) (-1) ++ List.replicate (m.next.length - (i + 1)) 0 := fun i hi => by
    rw [List.set_append, if_neg (by simp), List.length_replicate, Nat.sub_self, show m.next.length - i = (m.next.length - (i + 1)) + 1 by omega, List.replicate_succ, List.set_cons_zero, List.replicate_succ', List.append_assoc]; rfl
  simp [-More_nor, -List.map_replicate, hC]
  refine ⟨by omega, ?_⟩
  refine W_iter (fun i : Nat => [(4, .int i)]) (fun i => [⟨some 4, [.int 0, .int 0, .snil, .snil], .live⟩, Zb [m.start], Zb (List.replicate i (-1) ++ List.replicate (m.next.length - i) 0)]) (fun i => i ≤ m.next.length) (fun i => m.next.length - i) 0 (by simp [-List.map_replicate, sets]) (by omega) ?_
  intro i i1
  have hnl : (List.replicate i (-1 : Int) ++ List.replicate (m.next.length - i) 0).length = m.next.length := by simp; omega
  by_cases hi : i < m.next.length
  · have hzi := hz i hi
    generalize List.replicate i (-1 : Int) ++ List.replicate (m.next.length - i) 0 = X at *
    simp [-More_nor, -List.map_set, hi, hnl]
    refine ⟨by omega, More_of (i + 1) (by simp) (by rw [hzi]; rfl) (by omega) (by omega)⟩
  have : i = m.next.length := by omega
  subst this
  have hX : List.replicate m.next.length (-1 : Int) ++ List.replicate (m.next.length - m.next.length) 0 = List.replicate m.next.length (-1) := by simp
  have hXi : ∀ v : Int, 0 ≤ v → v < (m.next.length : Int) → ix (List.replicate m.next.length (-1 : Int)) v = -1 := fun v v0 v1 => by
    obtain ⟨v, rfl⟩ := Int.eq_ofNat_of_zero_le v0
    rw [ix_nat (by simp; omega)]; simp
  rw [hX] at hnl ⊢
  generalize List.replicate m.next.length (-1 : Int) = X at *
  have hc0 := hcr m.start hstr.1 hstr.2
  have hcs : m.start < (c.length : Int) := by omega
  have hq0 : Rq m c 0 0 [m.start] (X.set (ix c m.start).toNat 0) := by
    refine ⟨by simp, by simpa using hstr, fun s hs => ?_, by simp, by simp [hnl], fun v v0 v1 => ?_, fun j b hj hb => by omega⟩
    · simp at hs; subst hs; exact ⟨[], by simp, rfl⟩
    · obtain ⟨v, rfl⟩ := Int.eq_ofNat_of_zero_le v0
      have hXv := hXi (v : Int) (by omega) v1
      rw [ix_nat (by omega)] at hXv
      rw [ix_nat (by simp; omega), List.getElem_set]
      by_cases e : (ix c m.start).toNat = v
      · rw [if_pos e]; simp; omega
      · rw [if_neg e, hXv]; simp; omega
  simp [-More_nor, -List.map_set, hnl, hstr.1, hcs, hc0.1, hc0.2]
  refine W_iter (fun p : Nat × List Int × List Int × List (List Int) × List (List Int) => [(7, .int p.1), (8, .sl 1 p.2.1.length 0 p.2.1.length)]) (fun p => ⟨some 4, [.int 0, .int 0, .snil, .snil], .live⟩ :: Zb p.2.1 :: Zb p.2.2.1 :: rmR m.inputs m.inputs.toNat p.2.2.2.1 p.2.2.2.2) (fun p => RqO m c p) (fun p => m.next.length - p.1) (0, [m.start], X.set (ix c m.start).toNat 0, [], []) (by simp [-List.map_set, sets, rmR_nil]) ⟨hq0, by simp, rfl, rfl, by simp, by simp⟩ ?_
  rintro ⟨i, q, nb, N, O⟩ hI
  have hRq := hI.q
  have hile := hI.i
  have hNl := hI.l1
  have hOl := hI.l2
  have hNk := hI.k1
  have hOk := hI.k2
  have hqle := hI.q.le
  dsimp only at hRq hile hNl hOl hNk hOk hqle ⊢
  clear hI
  by_cases hiq : i < q.length
  · generalize hR : rmR m.inputs m.inputs.toNat N O = R at *
    simp [-More_nor, hiq]
    refine W_iter (fun p : Nat × List Int × List Int × List Int × List Int => [(8, .sl 1 p.2.1.length 0 p.2.1.length), (9, .int p.1), (11, .sl (R.length + 1 + 1 + 1) p.1 0 p.1), (12, .sl (R.length + 1 + 1 + 1 + 1) p.1 0 p.1)]) (fun p => ⟨some 4, [.int 0, .int 0, .snil, .snil], .live⟩ :: Zb p.2.1 :: Zb p.2.2.1 :: (R ++ [louI p.2.2.2.1, louI p.2.2.2.2])) (fun p => RqI m c i p) (fun p => m.inputs.toNat - p.1) (0, q, nb, [], []) (by simp [sets]) ⟨hRq, hiq, by dsimp only; omega, rfl, rfl⟩ ?_
    rintro ⟨a, q, nb, nx, ot⟩ hI
    have hRq := hI.q
    have hiq := hI.i
    have hain := hI.a
    have hnxl := hI.l1
    have hotl := hI.l2
    have hqle := hI.q.le
    dsimp only at hRq hiq hain hnxl hotl hqle ⊢
    clear hI
    have hs := hRq.rng _ (ix_mem (l := q) (n := (i : Int)) (by omega) (by omega))
    have hrow := hm.row _ hs.1 hs.2
    have hso : ix q (i : Int) < (m.out.length : Int) := by omega
    have hnbl := hRq.len
    by_cases ha : (a : Int) < m.inputs
    · have hnx := hm.nx _ (a : Int) hs.1 hs.2 (by omega) ha
      have hcv := hcr _ hnx.1 hnx.2
      have hncl : ix (ix m.next (ix q (i : Int))) (a : Int) < (c.length : Int) := by omega
      generalize ht : ix (ix m.next (ix q (i : Int))) (a : Int) = t at *
      by_cases hneg : ix nb (ix c t) < 0
      · have hneg' := eq_true hneg
        have hnew := hRq.new hm hiq ha ht rfl hcv hneg
        have hqi : ix (q ++ [t]) (i : Int) = ix q (i : Int) := ixa_app (by omega) (by omega)
        have hil : (i < q.length + 1) = True := eq_true (by omega)
        simp [-More_nor, -List.map_set, -List.map_append, ha, hiq, hs.1, hs.2, hrow.1, hrow.2, ht, hnx.1, hnx.2, hncl, hcv.1, hcv.2, hnbl, hneg', hso, ↓blk_at, ↓blk_at1, ↓setB_at, ↓setB_at1, hnxl, hotl, hqi, hil]
        refine ⟨by omega, by split <;> rfl, by omega, by omega, by split <;> rfl, by omega, by omega, More_of (a + 1, q ++ [t], nb.set (ix c t).toNat (q.length : Int), nx ++ [ix (nb.set (ix c t).toNat (q.length : Int)) (ix c t)], ot ++ [ix (ix m.out (ix q (i : Int))) (a : Int)]) (by simp [-List.map_set]) (by simp [-List.map_set]) ⟨hnew, by dsimp only; simp; omega, by dsimp only; omega, by simp [hnxl], by simp [hotl]⟩ (by dsimp only; omega)⟩
      · have hneg' := eq_false hneg
        have hold := hRq.old hiq (v := ix c t) (by rw [ht]) hcv hneg
        simp [-More_nor, ha, hiq, hs.1, hs.2, hrow.1, hrow.2, ht, hnx.1, hnx.2, hncl, hcv.1, hcv.2, hnbl, hneg', hso, ↓blk_at, ↓blk_at1, ↓setB_at, ↓setB_at1, hnxl, hotl]
        refine ⟨by split <;> rfl, by omega, by split <;> rfl, by omega, by omega, More_of (a + 1, q, nb, nx ++ [ix nb (ix c t)], ot ++ [ix (ix m.out (ix q (i : Int))) (a : Int)]) (by simp) (by simp) ⟨hold, hiq, by dsimp only; omega, by simp [hnxl], by simp [hotl]⟩ (by dsimp only; omega)⟩
    · have ea : a = m.inputs.toNat := by omega
      subst ea
      have hRq' := hRq.next (by omega)
      have hnn : (nx = []) = False := eq_false (by intro e; rw [e] at hnxl; simp at hnxl; omega)
      have hon : (ot = []) = False := eq_false (by intro e; rw [e] at hotl; simp at hotl; omega)
      subst hR
      rcases N with _ | ⟨a0, A⟩
      · have hO : O = [] := List.eq_nil_of_length_eq_zero (by rw [hOl, ← hNl]; rfl)
        subst hO
        have hi0 : i = 0 := by rw [← hNl]; rfl
        rw [rmR_nil]
        simp [-More_nor, -Int.ofNat_toNat, ha, hnn, hon, hnxl, hotl]
        refine ⟨by omega, More_of (i + 1, q, nb, [nx], [ot]) (by simp) rfl ⟨hRq', by dsimp only; omega, by simp [hi0], by simp [hi0], by simp [hnxl], by simp [hotl]⟩ (by dsimp only; omega)⟩
      · rcases O with _ | ⟨o0, O⟩
        · rw [← hNl] at hOl; simp at hOl
        have hAO : A.length = O.length := by rw [← hNl] at hOl; simpa using hOl.symm
        have hT := mtw_len hAO
        have hT2 := mtw_snoc (a := nx) (o := ot) hAO
        rw [rmR_cons]
        generalize mtw A O = T at *
        simp [-More_nor, -Int.ofNat_toNat, ha, hnn, hon, hnxl, hotl, rws_len]
        have e1 : qN (A.length + 1) = T.length + 8 := by unfold qN; rw [if_neg (by omega)]; omega
        have e2 : qO (A.length + 1) = T.length + 9 := by unfold qO; rw [if_neg (by omega)]; omega
        have hA1 : A.length + 1 = i := by rw [← hNl]; rfl
        have hO1 : O.length + 1 = i := by rw [← hOl]; rfl
        refine ⟨by omega, by omega, More_of (i + 1, q, nb, (a0 :: A) ++ [nx], (o0 :: O) ++ [ot]) (by simp) ?_ ⟨hRq', by dsimp only; omega, by dsimp only; simp; omega, by dsimp only; simp; omega, fun x hx => ?_, fun x hx => ?_⟩ (by dsimp only; omega)⟩
        · have hnb' : louI nx = Zb nx := by
            show (⟨none, nx.map .int, if nx = [] then .nul else .live⟩ : Blk) = _
            rw [if_neg (by rw [hnn]; exact id)]
          have hob' : louI ot = Zb ot := by
            show (⟨none, ot.map .int, if ot = [] then .nul else .live⟩ : Blk) = _
            rw [if_neg (by rw [hon]; exact id)]
          dsimp only
          rw [List.cons_append, List.cons_append, rmR_cons, hT2, List.length_append, List.length_singleton, rws_succ (n := A.length + 1), rws_succ (n := A.length + 1), e1, e2]
          first | rw [hnb', hob'] | skip
        · rcases List.mem_append.1 hx with hx | hx
          · exact hNk x hx
          · simp at hx; rw [hx, hnxl]
        · rcases List.mem_append.1 hx with hx | hx
          · exact hOk x hx
          · simp at hx; rw [hx, hotl]
  · have hcl := hRq.cls (by omega)
    have hiff := rcl_iff hm hk hcl
    have hiq' : i = q.length := by omega
    subst hiq'
    have hN0 : 0 < N.length := by
      rw [hNl]
      obtain ⟨s, hs, _⟩ := List.mem_map.1 hRq.fst
      exact List.length_pos_iff.2 (List.ne_nil_of_mem hs)
    rcases N with _ | ⟨a0, A⟩
    · simp at hN0
    rcases O with _ | ⟨o0, O⟩
    · rw [← hNl] at hOl; simp at hOl
    have hAO : A.length = O.length := by rw [← hNl] at hOl; simpa using hOl.symm
    rw [rmR_cons]
    have v1 : ∀ B0 B1 B2 B3, view (B0 :: B1 :: B2 :: B3 :: Zb a0 :: Zb o0 :: ⟨none, rws 0 qN (A.length + 1) m.inputs.toNat, .live⟩ :: ⟨none, rws 0 qO (A.length + 1) m.inputs.toNat, .live⟩ :: mtw A O) false 11 (.sl 6 (A.length + 1) 0 (A.length + 1)) = some (iLL (a0 :: A)) := fun B0 B1 B2 B3 => vd_rowsAt (k := 8) (rmR_rows hAO hNk hOk).1 rfl
    have v2 : ∀ B0 B1 B2 B3, view (B0 :: B1 :: B2 :: B3 :: Zb a0 :: Zb o0 :: ⟨none, rws 0 qN (A.length + 1) m.inputs.toNat, .live⟩ :: ⟨none, rws 0 qO (A.length + 1) m.inputs.toNat, .live⟩ :: mtw A O) false 11 (.sl 7 (A.length + 1) 0 (A.length + 1)) = some (iLL (o0 :: O)) := fun B0 B1 B2 B3 => vd_rowsAt (k := 8) (rmR_rows hAO hNk hOk).2 (by simp [hAO])
    simp [res_box4, v1, v2]
    refine ⟨⟨m.inputs, 0, a0 :: A, o0 :: O⟩, ⟨rfl, rfl, rfl, rfl⟩, ?_⟩
    show (a0 :: A).length = m.next.length ↔ _
    rw [hNl]
    exact hiff
theorem RMinimal_s (m : Mly) (h : m.fits) : PC F_ref08_Minimal [m.av] = some (.bool m.mnlb) := by
  refine PCx_of (go_ref08_Minimal rfl ?_)
  by_cases h0 : m.validE = 0
  · obtain ⟨v, σ', h1, M, h2, h3⟩ := LX_s (RMin_x m h h0)
    have hM : PC F_ref08_Min [m.av] = some (.tup [M.av, .int 0]) := by simp only [PC, PCx, h1]; exact h2
    by_cases hn : M.next.length = m.next.length
    · have e := mnlb_t.2 ⟨h0, h3.1 hn⟩
      have hn' : ((M.next.length : Int) = (m.next.length : Int)) = True := eq_true (by omega)
      rw [e]
      simp [hM, hn, hn']
    · have e := mnlb_f (m := m) fun h => hn (h3.2 h.2)
      have hn' : ((M.next.length : Int) = (m.next.length : Int)) = False := eq_false (by omega)
      have hn'' := eq_false hn
      rw [e]
      simp [hM, hn', hn'']
  · have hM : PC F_ref08_Min [m.av] = some (.tup [Mly.av ⟨0, 0, [], []⟩, .int m.validE]) := by
      refine PCx_of (go_ref08_Min rfl ?_)
      have hC := RClasses_s m h
      rw [if_neg h0] at hC
      simp [hC, h0, res_box4]
    have e := mnlb_f (m := m) fun h => h0 h.1
    rw [e]
    simp [hM, h0]
def Mly.mchk (m : Mly) (b : Bool) : Int := if m.validE ≠ 0 then m.validE else if b = true then 0 else 1
theorem R11Check_s (m : Mly) (h : m.fits) : PC F_ref11_Check [m.av] = some (.int (m.mchk m.mnlb)) := by
  refine PCx_of (go_ref11_Check rfl ?_)
  have hv := rmValid_s m h
  have hm := RMinimal_s m h
  by_cases h0 : m.validE = 0
  · rw [h0] at hv
    cases hb : m.mnlb with
    | true => rw [hb] at hm; simp [hv, hm, Mly.mchk, h0]
    | false => rw [hb] at hm; simp [hv, hm, Mly.mchk, h0]
  · simp [hv, h0, Mly.mchk]
end Ab
