/- All mutations of a machine, twice. Condition: none. -/
import Derived.Test.YtchamabaodnjkaaMutC
set_option linter.all false
set_option maxRecDepth 100000
set_option maxHeartbeats 4000000
namespace Ab
theorem muts_len {m : Mly} {s a : Int} {outs : List Int} (h1 : outs.length ≤ 8192) (h2 : m.next.length ≤ 128) (h3 : m.inputs ≤ 64) : (m.muts s a outs).length ≤ 600000 := by
  unfold Mly.muts
  have e1 := pick_len (k := 1) (s := s) (a := a) (b := 0) (x := ix (ix m.out s) a) (outs := outs)
  have e2 := nexts_len (s := s) (a := a) (t := ix (ix m.next s) a) (n := m.next.length)
  have e3 := copies_len (s := s) (a := a) (row := ix m.out (ix (ix m.next s) a)) (outs := outs) (n := m.inputs.toNat)
  have e4 : m.inputs.toNat * outs.length ≤ 64 * 8192 := Nat.mul_le_mul (by omega) h1
  split <;> simp <;> omega
/-- The mutations of a state's first transitions. -/
def mrow (m : Mly) (s : Int) (o : List Int) : Nat → List Mut
  | 0 => []
  | a + 1 => mrow m s o a ++ m.muts s (a : Nat) o
theorem mrow_le {m : Mly} {s : Int} {o : List Int} {a : Nat} : ∀ {b : Nat}, a ≤ b → (mrow m s o a).length ≤ (mrow m s o b).length
  | 0, h => by have : a = 0 := by omega
               subst this; exact Nat.le_refl _
  | b + 1, h => by
    by_cases e : a = b + 1
    · subst e; exact Nat.le_refl _
    · have := mrow_le (m := m) (s := s) (o := o) (a := a) (b := b) (by omega)
      simp only [mrow, List.length_append]; omega
def mst (m : Mly) (l : List Int) : List Mut := l.flatMap fun s => mrow m s m.outz m.inputs.toNat
theorem mst_app {m : Mly} {k l : List Int} : mst m (k ++ l) = mst m k ++ mst m l := by simp [mst]
theorem mst_one {m : Mly} {s : Int} : mst m [s] = mrow m s m.outz m.inputs.toNat := by simp [mst]
def Mly.rz (m : Mly) : List Int := sortI ((m.places m.start).map (·.1))
def Mly.allM (m : Mly) : List Mut := mst m m.rz
def Mly.allE (m : Mly) : Int := if m.validE ≠ 0 then m.validE else if 10000 < m.allM.length then 11 else 0
def Mly.allL (m : Mly) : List Mut := if m.allE ≠ 0 then [] else m.allM
abbrev allA (m : Mly) : AV := .tup [muL m.allL, .int m.allE]
theorem rz_mem {m : Mly} {s : Int} : s ∈ m.rz ↔ hasS (m.places m.start) s = true := by
  unfold Mly.rz
  rw [(sortI_perm _).mem_iff, hasS_iff]
theorem rz_asc {m : Mly} (hm : m.Ok) : m.rz.Pairwise (· < ·) := by
  have hq := places_ok m hm m.start hm.start
  have h1 : m.rz.Nodup := (sortI_perm _).nodup_iff.2 hq.nd
  have h2 := sortI_sorted ((m.places m.start).map (·.1))
  refine (List.pairwise_and_iff.2 ⟨h2, h1⟩).imp fun {a b} h => ?_
  have := h.1; have := h.2; omega
theorem rz_rng {m : Mly} (hm : m.Ok) : ∀ s ∈ m.rz, 0 ≤ s ∧ s < (m.next.length : Int) := fun s hs => by
  have hq := places_ok m hm m.start hm.start
  rw [rz_mem, hasS_iff] at hs
  obtain ⟨p, hp, e⟩ := List.mem_map.1 hs
  subst e
  exact hq.rng p hp
theorem rz_len {m : Mly} : m.rz.length = (m.places m.start).length := by
  unfold Mly.rz; rw [(sortI_perm _).length_eq, List.length_map]
theorem uc_flat {X : List Mut} : (X.map Mut.av).flatMap AV.cells = ucs X := by
  rw [List.flatMap_map]; rfl
theorem uc_fit {X : List Mut} : fitAll 5 (X.map Mut.av) = true := by
  induction X with
  | nil => rfl
  | cons x r e => simp only [List.map_cons, fitAll, e]; rfl
theorem allE_ok {m : Mly} (hv : m.validE = 0) (h : m.allM.length ≤ 10000) : m.allE = 0 ∧ m.allL = m.allM := by
  have : m.allE = 0 := by unfold Mly.allE; rw [if_neg (by simp [hv]), if_neg (by omega)]
  exact ⟨this, by unfold Mly.allL; rw [if_neg (by simp [this])]⟩
theorem allE_no {m : Mly} (hv : m.validE = 0) (h : 10000 < m.allM.length) : m.allE = 11 ∧ m.allL = [] := by
  have : m.allE = 11 := by unfold Mly.allE; rw [if_neg (by simp [hv]), if_pos (by omega)]
  exact ⟨this, by unfold Mly.allL; rw [if_pos (by simp [this])]⟩
theorem outz_len {m : Mly} (hm : m.Ok) : m.outz.length ≤ 8192 := by
  have h1 := compZ_len (sortI m.out.flatten)
  have h2 := (sortI_perm m.out.flatten).length_eq
  have h3 := (Ok.outflat hm).1
  unfold Mly.outz; omega
theorem Reach_l (m : Mly) (h : m.fits) (hv : m.validE = 0) : ∃ b : List Bool, L F_mealy_Reach [m.av] [] = some (.sl 1 (m.places m.start).length 0 (m.places m.start).length, [⟨none, b.map .bool, .live⟩, Zb ((m.places m.start).map (·.1))]) := by
  have h1 := Reach_x m h hv
  unfold LX at h1
  generalize L F_mealy_Reach [m.av] [] = o at *
  cases o with
  | none => exact absurd h1 (by simp [optK])
  | some p =>
    obtain ⟨b, e1, e2⟩ := h1
    exact ⟨b, by rw [← e1, ← e2]⟩
theorem shL_intsD {n : Nat} : ∀ l : List Int, shL n (l.map .int) = l.map .int
  | [] => rfl
  | x :: l => by simp only [List.map_cons, shL, shV, shL_intsD l]
theorem shL_bls {n : Nat} : ∀ l : List Bool, shL n (l.map .bool) = l.map .bool
  | [] => rfl
  | x :: l => by simp only [List.map_cons, shL, shV, shL_bls l]
theorem All_s (m : Mly) (h : m.fits) : PC F_mutant_All [m.av] = some (allA m) := by
  refine PCx_of (go_mutant_All rfl ?_)
  by_cases hv : m.validE = 0
  case neg =>
    have e1 : m.allE = m.validE := by unfold Mly.allE; rw [if_pos hv]
    have e2 : m.allL = [] := by unfold Mly.allL; rw [if_pos (by rw [e1]; exact hv)]
    unfold allA
    rw [e1, e2]
    simp [mValid_s m h, hv]
  have hm := mvalidE_ok hv
  have hin := hm.inputs
  have hst := hm.states
  have hol := outz_len hm
  have hq := places_ok m hm m.start hm.start
  have hqn := hq.le
  have hrl := rz_len (m := m)
  have hpos := hq.pos
  obtain ⟨b, hR⟩ := Reach_l m h hv
  have hf : ∀ i : Nat, i < m.rz.length → ∀ a : Nat, a ≤ m.inputs.toNat → (mst m (m.rz.take i)).length + (mrow m (ix m.rz i) m.outz a).length ≤ m.allM.length := fun i hi a ha => by
    have e1 := List.take_append_drop (i + 1) m.rz
    have e2 : m.rz.take (i + 1) = m.rz.take i ++ [ix m.rz i] := by rw [List.take_add_one, List.getElem?_eq_getElem hi, ix_nat hi]; rfl
    unfold Mly.allM
    rw [← e1, mst_app, e2, mst_app, mst_one]
    have := mrow_le (m := m) (s := ix m.rz i) (o := m.outz) ha
    simp only [List.length_append]
    rw [← e2, e1]
    omega
  have hsort := zsort_l (σ := [⟨none, b.map .bool, .live⟩, Zb ((m.places m.start).map (·.1))]) (b := 1) (n := (m.places m.start).length) (zs := (m.places m.start).map (·.1)) rfl (by simp) (fun e => absurd (List.map_eq_nil_iff.1 e) (List.length_pos_iff.1 hpos)) (by simp; omega)
  have hset : setB [⟨none, b.map .bool, .live⟩, Zb ((m.places m.start).map (·.1))] 1 (Zb (sortI ((m.places m.start).map (·.1)))) = [⟨none, b.map .bool, .live⟩, Zb m.rz] := rfl
  rw [hset] at hsort
  rw [← hrl] at hR hsort
  simp [-List.map_map, mValid_s m h, hv, shV, shB, shL_intsD, shL_bls, hR, hsort, Outputs_s m h hv]
  refine W_iter (fun i : Nat => [(4, .int i), (9, uS 2 (mst m (m.rz.take i)))]) (fun i => [⟨none, b.map .bool, .live⟩, Zb m.rz, uB (mst m (m.rz.take i))]) (fun i => i ≤ m.rz.length ∧ (mst m (m.rz.take i)).length ≤ 10000) (fun i => m.rz.length - i) 0 (by simp [sets, mst, ucs]) ⟨by omega, by simp [mst]⟩ ?_
  rintro i ⟨i0, i1⟩
  by_cases hi : i < m.rz.length
  · have hfi := hf i hi
    have e2 : m.rz.take (i + 1) = m.rz.take i ++ [ix m.rz i] := by rw [List.take_add_one, List.getElem?_eq_getElem hi, ix_nat hi]; rfl
    have hrg := rz_rng hm _ (ix_mem (l := m.rz) (n := (i : Int)) (by omega) (by omega))
    have enx : mst m (m.rz.take (i + 1)) = mst m (m.rz.take i) ++ mrow m (ix m.rz (i : Int)) m.outz m.inputs.toNat := by rw [e2, mst_app, mst_one]
    generalize mst m (m.rz.take i) = B at *
    simp [-More_nor, hi]
    refine W_iter (fun a : Nat => [(7, .int a), (9, uS 2 (B ++ mrow m (ix m.rz (i : Int)) m.outz a))]) (fun a => [⟨none, b.map .bool, .live⟩, Zb m.rz, uB (B ++ mrow m (ix m.rz (i : Int)) m.outz a)]) (fun a => (a : Int) ≤ m.inputs ∧ (B ++ mrow m (ix m.rz (i : Int)) m.outz a).length ≤ 10000) (fun a => m.inputs.toNat - a) 0 (by simp [sets, mrow]) ⟨by omega, by simpa [mrow] using i1⟩ ?_
    rintro a ⟨a0, a1⟩
    by_cases ha : (a : Int) < m.inputs
    · have hms : mrow m (ix m.rz (i : Int)) m.outz (a + 1) = mrow m (ix m.rz (i : Int)) m.outz a ++ m.muts (ix m.rz (i : Int)) (a : Nat) m.outz := rfl
      have hfa := hfi (a + 1) (by omega)
      rw [hms] at hfa
      have hT := trans_s m hm (ix m.rz (i : Int)) a hrg ⟨by omega, ha⟩ m.outz hol
      have hml := muts_len (m := m) (s := ix m.rz (i : Int)) (a := a) hol (by omega) (by omega)
      generalize m.muts (ix m.rz (i : Int)) (a : Nat) m.outz = X at *
      generalize mrow m (ix m.rz (i : Int)) m.outz a = C at *
      have hul := ucs_len (xs := B ++ C)
      have hux := ucs_len (xs := X)
      have hk5 : (5 * (B ++ C).length = (B ++ C).length * kst (some 5)) = True := eq_true (by simp [kst]; omega)
      have hlD : (B ++ C).length = B.length + C.length := by simp
      have hlE : ((B ++ C) ++ X).length = B.length + C.length + X.length := by simp; omega
      generalize hBC : B ++ C = D at *
      by_cases h10 : 10000 < ((D ++ X).length : Int)
      · obtain ⟨z1, z2⟩ := allE_no (m := m) hv (by simp at hfa; omega)
        unfold allA
        rw [z1, z2]
        have hX : (X.length = 0) = False := eq_false (by omega)
        simp [-More_nor, -List.length_append, ha, hT, hk5, hul, hux, uc_flat, uc_fit, hX]
        refine ⟨by split <;> simp, by omega, fun hh => ?_⟩
        omega
      · by_cases hX : X = []
        · subst hX
          rw [List.append_nil] at hms hlE h10
          have hhm : ¬ 10000 < (D.length : Int) := h10
          simp [-More_nor, -List.length_append, ha, hT, hk5, hul, uc_flat, uc_fit]
          refine ⟨by split <;> simp, by omega, fun hh => absurd hh hhm, fun _ => ⟨by omega, More_of (a + 1) (by simp [hms, hBC]) (by simp [hms, hBC]) ⟨by omega, by rw [hms, hBC]; exact a1⟩ (by omega)⟩⟩
        · have hX' : (X.length = 0) = False := eq_false (by simpa using hX)
          have hX2 : X.length ≠ 0 := by simpa using hX
          simp [-More_nor, -List.length_append, ha, hT, hk5, hul, hux, uc_flat, uc_fit, hX']
          refine ⟨by split <;> simp, by omega, fun hh => by omega, fun _ => ⟨by omega, More_of (a + 1) (by simp [hms, ← List.append_assoc, hBC, ucs_app, ucs_len]; omega) (by simp [hms, ← List.append_assoc, hBC, ucs_app, hX]) ⟨by omega, by rw [hms, ← List.append_assoc, hBC]; omega⟩ (by omega)⟩⟩
    · have ea : m.inputs.toNat = a := by omega
      rw [ea] at enx
      generalize mrow m (ix m.rz (i : Int)) m.outz a = C at *
      simp [-More_nor, -List.length_append, ha]
      exact ⟨by omega, More_of (i + 1) (by simp [enx]) (by simp [enx]) ⟨by omega, by rw [enx]; exact a1⟩ (by omega)⟩
  · have ei : i = m.rz.length := by omega
    subst ei
    rw [List.take_length] at i1 ⊢
    obtain ⟨z1, z2⟩ := allE_ok (m := m) hv i1
    unfold allA
    rw [z1, z2]
    have hv := view_uc (fr := false) (σ := [⟨none, b.map .bool, .live⟩, Zb m.rz, uB (mst m m.rz)]) (b := 2) (xs := mst m m.rz) rfl
    simp [-More_nor, hi, hv]
    rfl
theorem RAll_s (m : Mly) (h : m.fits) : PC F_ref33_All [m.av] = some (allA m) := by
  refine PCx_of (go_ref33_All rfl ?_)
  by_cases hv : m.validE = 0
  case neg =>
    have e1 : m.allE = m.validE := by unfold Mly.allE; rw [if_pos hv]
    have e2 : m.allL = [] := by unfold Mly.allL; rw [if_pos (by rw [e1]; exact hv)]
    unfold allA
    rw [e1, e2]
    simp [rmValid_s m h, hv]
  have hm := mvalidE_ok hv
  have hin := hm.inputs
  have hst := hm.states
  have hol := outz_len hm
  have hq := places_ok m hm m.start hm.start
  have hqn := hq.le
  have hrl := rz_len (m := m)
  have hpos := hq.pos
  let N := m.next.length
  let flt : Nat → List Int := fun s => ((List.range s).filter fun u => hasS (m.places m.start) ((u : Nat) : Int)).map fun u => ((u : Nat) : Int)
  have hfl : ∀ s, flt (s + 1) = flt s ++ if hasS (m.places m.start) (s : Int) = true then [(s : Int)] else [] := fun s => by
    show List.map _ (List.filter _ (List.range (s + 1))) = _
    rw [List.range_succ, List.filter_append, List.map_append]
    by_cases e : hasS (m.places m.start) (s : Int) = true <;> simp [List.filter_cons, e, flt]
  have hfa : flt m.next.length = m.rz := by
    refine zasc_eq ?_ (rz_asc hm) fun x => ?_
    · refine List.Pairwise.map _ (fun a b (h : a < b) => by omega) (List.Pairwise.filter _ List.pairwise_lt_range)
    · rw [rz_mem]
      show x ∈ List.map _ _ ↔ _
      rw [List.mem_map]
      constructor
      · rintro ⟨u, hu, e⟩
        subst e
        exact (List.mem_filter.1 hu).2
      · intro hx
        have := rz_rng hm x (rz_mem.2 hx)
        refine ⟨x.toNat, List.mem_filter.2 ⟨List.mem_range.2 (by omega), ?_⟩, by omega⟩
        have e : ((x.toNat : Nat) : Int) = x := by omega
        rw [e]; exact hx
  have hfp : ∀ s : Nat, s < m.next.length → ∀ a : Nat, a ≤ m.inputs.toNat → hasS (m.places m.start) (s : Int) = true → (mst m (flt s)).length + (mrow m s m.outz a).length ≤ m.allM.length := fun s hs a ha hh => by
    have e1 : List.range m.next.length = List.range (s + 1) ++ (List.range' (s + 1) (m.next.length - (s + 1))) := by
      have := List.range'_append_1 (s := 0) (m := s + 1) (n := m.next.length - (s + 1))
      rw [List.range_eq_range', List.range_eq_range', ← show s + 1 + (m.next.length - (s + 1)) = m.next.length by omega, ← this]; simp
    have e3 : flt (m.next.length) = flt (s + 1) ++ (((List.range' (s + 1) (m.next.length - (s + 1))).filter fun u => hasS (m.places m.start) ((u : Nat) : Int)).map fun u => ((u : Nat) : Int)) := by
      show List.map _ (List.filter _ _) = _
      rw [e1, List.filter_append, List.map_append]
    unfold Mly.allM
    rw [← hfa, e3, mst_app, hfl s, if_pos hh, mst_app, mst_one]
    have := mrow_le (m := m) (s := (s : Int)) (o := m.outz) ha
    simp only [List.length_append]
    omega
  have hf0 : flt 0 = [] := rfl
  clear_value flt
  simp [-List.map_map, -List.map_replicate, rmValid_s m h, hv, RReach_s m h hv]
  refine ⟨by omega, ?_⟩
  refine W_iter (fun p : Nat × List Bool => [(3, .int p.1)]) (fun p => [⟨none, p.2.map .bool, .live⟩]) (fun p => p.1 ≤ (m.places m.start).length ∧ Sn m.next.length p.2 ((m.places m.start).take p.1)) (fun p => (m.places m.start).length - p.1) (0, List.replicate m.next.length false) (by simp [sets, -List.map_replicate]) ⟨by simp, by simp, fun t t0 t1 => by rw [ixs_rep t0 t1]; rfl⟩ ?_
  rintro ⟨i, b⟩ ⟨i0, hb⟩
  dsimp only at i0 hb ⊢
  have hbl := hb.len
  by_cases hi : i < (m.places m.start).length
  · have hr := hq.rng _ (ix_mem (n := (i : Int)) (by omega) (by omega))
    have e : ix ((m.places m.start).map (·.1)) (i : Int) = (ix (m.places m.start) (i : Int)).1 := ix_map (by omega) (by omega)
    have e2 : (m.places m.start).take (i + 1) = (m.places m.start).take i ++ [ix (m.places m.start) (i : Int)] := by rw [List.take_add_one, List.getElem?_eq_getElem hi, ix_nat hi]; rfl
    have hr' : 0 ≤ ix ((m.places m.start).map (·.1)) (i : Int) ∧ ix ((m.places m.start).map (·.1)) (i : Int) < (m.next.length : Int) := by rw [e]; exact hr
    have := hb.add (w := (ix (m.places m.start) (i : Int)).2) hr.1 hr.2
    simp [-More_nor, -List.map_map, hi, hr'.1, hr'.2, hbl]
    exact ⟨by omega, More_of (i + 1, b.set (ix (m.places m.start) (i : Int)).1.toNat true) (by simp) (by simp [e]) ⟨by dsimp only; omega, by dsimp only; rw [e2]; exact this⟩ (by dsimp only; omega)⟩
  · have ei : i = (m.places m.start).length := by omega
    subst ei
    rw [List.take_length] at hb
    have hbk := hb.ok
    simp [-More_nor, -List.map_map, ROutputs_s m h hv]
    refine W_iter (fun i : Nat => [(6, .int i), (8, uS 1 (mst m (flt i)))]) (fun i => [⟨none, b.map .bool, .live⟩, uB (mst m (flt i))]) (fun i => i ≤ m.next.length ∧ (mst m (flt i)).length ≤ 10000) (fun i => m.next.length - i) 0 (by simp [sets, mst, ucs, hf0]) ⟨by omega, by simp [mst, hf0]⟩ ?_
    rintro i ⟨i0, i1⟩
    by_cases hi : i < m.next.length
    · have hfi := hfp i hi
      have e2 := hfl i
      have hbi := hbk i (by omega) (by omega)
      have enx : mst m (flt (i + 1)) = mst m (flt i) ++ (if hasS (m.places m.start) (i : Int) = true then mrow m (i : Int) m.outz m.inputs.toNat else []) := by
        rw [e2, mst_app]; split
        · rw [mst_one]
        · rfl
      generalize mst m (flt i) = B at *
      cases hr : hasS (m.places m.start) (i : Int) with
      | false =>
        rw [hr] at hbi
        rw [if_neg (by simp [hr]), List.append_nil] at enx
        simp [-More_nor, hi]
        refine W_iter (fun _ : Unit => []) (fun _ => [⟨none, b.map .bool, .live⟩, uB B]) (fun _ => True) (fun _ => 0) () (by simp [sets]) trivial ?_
        intro _ _
        simp [-More_nor, hin, hi, hbi, hbl]
        (repeat' apply And.intro) <;> try omega
        refine fun _ => ⟨by omega, ?_⟩
        exact More_of (i + 1) (by simp [enx]) (by simp [enx]) ⟨by omega, by rw [enx]; exact i1⟩ (by omega)
      | true =>
        rw [hr] at hbi
        rw [if_pos hr] at enx
        replace hfi := fun a ha => hfi a ha hr
        simp [-More_nor, hi]
        refine W_iter (fun a : Nat => [(7, .int a), (8, uS 1 (B ++ mrow m (i : Int) m.outz a))]) (fun a => [⟨none, b.map .bool, .live⟩, uB (B ++ mrow m (i : Int) m.outz a)]) (fun a => (a : Int) ≤ m.inputs ∧ (B ++ mrow m (i : Int) m.outz a).length ≤ 10000) (fun a => m.inputs.toNat - a) 0 (by simp [sets, mrow]) ⟨by omega, by simpa [mrow] using i1⟩ ?_
        rintro a ⟨a0, a1⟩
        by_cases ha : (a : Int) < m.inputs
        · have hms : mrow m (i : Int) m.outz (a + 1) = mrow m (i : Int) m.outz a ++ m.muts (i : Int) (a : Nat) m.outz := rfl
          have hfa := hfi (a + 1) (by omega)
          rw [hms] at hfa
          have hT := single_s m hm (i : Int) a ⟨by omega, by omega⟩ ⟨by omega, ha⟩ m.outz hol
          have hml := muts_len (m := m) (s := (i : Int)) (a := a) hol (by omega) (by omega)
          generalize m.muts (i : Int) (a : Nat) m.outz = X at *
          generalize mrow m (i : Int) m.outz a = C at *
          have hul := ucs_len (xs := B ++ C)
          have hux := ucs_len (xs := X)
          have hk5 : (5 * (B ++ C).length = (B ++ C).length * kst (some 5)) = True := eq_true (by simp [kst]; omega)
          have hlD : (B ++ C).length = B.length + C.length := by simp
          have hlE : ((B ++ C) ++ X).length = B.length + C.length + X.length := by simp; omega
          generalize hBC : B ++ C = D at *
          by_cases h10 : 10000 < ((D ++ X).length : Int)
          · obtain ⟨z1, z2⟩ := allE_no (m := m) hv (by simp at hfa; omega)
            unfold allA
            rw [z1, z2]
            have hX : (X.length = 0) = False := eq_false (by omega)
            simp [-More_nor, -List.length_append, ha, hi, hbi, hbl, hT, hk5, hul, hux, uc_flat, uc_fit, hX]
            (repeat' apply And.intro) <;> try omega
            all_goals (split <;> simp)
          · by_cases hX : X = []
            · subst hX
              rw [List.append_nil] at hms hlE h10
              have hhm : ¬ 10000 < (D.length : Int) := h10
              simp [-More_nor, -List.length_append, ha, hi, hbi, hbl, hT, hk5, hul, uc_flat, uc_fit]
              refine ⟨by split <;> simp, by omega, fun hh => absurd hh hhm, fun _ => ⟨by omega, More_of (a + 1) (by simp [hms, hBC]) (by simp [hms, hBC]) ⟨by omega, by rw [hms, hBC]; exact a1⟩ (by omega)⟩⟩
            · have hX' : (X.length = 0) = False := eq_false (by simpa using hX)
              have hX2 : X.length ≠ 0 := by simpa using hX
              simp [-More_nor, -List.length_append, ha, hi, hbi, hbl, hT, hk5, hul, hux, uc_flat, uc_fit, hX']
              refine ⟨by split <;> simp, by omega, fun hh => by omega, fun _ => ⟨by omega, More_of (a + 1) (by simp [hms, ← List.append_assoc, hBC, ucs_app, ucs_len]; omega) (by simp [hms, ← List.append_assoc, hBC, ucs_app, hX]) ⟨by omega, by rw [hms, ← List.append_assoc, hBC]; omega⟩ (by omega)⟩⟩
        · have ea : m.inputs.toNat = a := by omega
          rw [ea] at enx
          generalize mrow m (i : Int) m.outz a = C at *
          simp [-More_nor, -List.length_append, ha]
          (repeat' apply And.intro) <;> try omega
          exact More_of (i + 1) (by simp [enx]) (by simp [enx]) ⟨by omega, by rw [enx]; exact a1⟩ (by omega)
    · have ei : i = m.next.length := by omega
      subst ei
      rw [hfa] at i1 ⊢
      obtain ⟨z1, z2⟩ := allE_ok (m := m) hv i1
      unfold allA
      rw [z1, z2]
      have hv := view_uc (fr := false) (σ := [⟨none, b.map .bool, .live⟩, uB (mst m m.rz)]) (b := 1) (xs := mst m m.rz) rfl
      simp [-More_nor, hi, hv]
      rfl
end Ab
