/- The transitions that differ between matched states: what is answered. Condition: none. -/
import Derived.Test.YtmmkhoncblnicaaDifM
import Derived.Test.YtmmkhoncblnicaaLex
set_option linter.all false
set_option maxRecDepth 100000
set_option maxHeartbeats 4000000
namespace Ab
/-- Whether a transition is moved (none: it is). -/
def mnx (a b : Mly) (M : List Int) (s x : Int) : Option Int := if ix M s < 0 then some 0 else if ix (ix a.out s) x = ix (ix b.out (ix M s)) x ∧ ix M (ix (ix a.next s) x) = ix (ix b.next (ix M s)) x then some 0 else none
/-- How it is moved. -/
def mcg (a b : Mly) (M : List Int) (y : Int × List Int × Int) : Cg := if ix (ix a.out y.1) y.2.2 = ix (ix b.out (ix M y.1)) y.2.2 then ⟨y.2.1, y.1, ix M y.1, ix (ix a.next y.1) y.2.2, ix (ix b.next (ix M y.1)) y.2.2⟩ else ⟨y.2.1, y.1, ix M y.1, ix (ix a.out y.1) y.2.2, ix (ix b.out (ix M y.1)) y.2.2⟩
def moo (a b : Mly) (M : List Int) (P : List Pl) (i x : Int) : List Cg := (gfails (mnx a b M) a.inputs (P.take i.toNat) ++ gfrow (mnx a b M) (ix P i) x).map (mcg a b M)
def movs (a b : Mly) (M : List Int) : List Cg := (gfails (mnx a b M) a.inputs (a.places a.start)).map (mcg a b M)
/-- A list that matches no states. -/
def mbad (b : Mly) (t : Int) : Bool := decide (t < -1) || decide ((b.next.length : Int) ≤ t)
def mvA (a b : Mly) (M : List Int) : List Cg × Int := if chkE a b ≠ 0 then ([], chkE a b) else if M.length ≠ a.next.length ∨ M.any (mbad b) = true then ([], 1) else if 10000 < (movs a b M).length then ([], 11) else (movs a b M, 0)
section
variable {a b : Mly} {M : List Int} {P : List Pl} {i x : Int}
theorem moo_zero : moo a b M P 0 0 = [] := by simp [moo, gfails, gfrow_zero]
theorem moo_hit (x0 : 0 ≤ x) (h : mnx a b M (ix P i).1 x = none) : moo a b M P i (x + 1) = moo a b M P i x ++ [mcg a b M ((ix P i).1, (ix P i).2 ++ [x], x)] := by
  unfold moo
  rw [gfrow_succ x0, if_pos h]
  simp
theorem moo_no (x0 : 0 ≤ x) (h : mnx a b M (ix P i).1 x ≠ none) : moo a b M P i (x + 1) = moo a b M P i x := by
  unfold moo
  rw [gfrow_succ x0, if_neg h, List.append_nil]
theorem moo_next (i0 : 0 ≤ i) (i1 : i < P.length) : moo a b M P (i + 1) 0 = moo a b M P i a.inputs := by
  unfold moo
  have e : P.take (i + 1).toNat = P.take i.toNat ++ [ix P i] := by
    rw [show (i + 1).toNat = i.toNat + 1 by omega, List.take_succ, ix_eq i0 i1]; rfl
  rw [e, gfails_app, gfails_one, gfrow_zero, List.append_nil]
theorem moo_skip (h : ix M (ix P i).1 < 0) : moo a b M P i x = moo a b M P i 0 := by
  unfold moo
  rw [gfrow_zero, gfrow_nil (fun c _ _ => by unfold mnx; rw [if_pos h]; simp)]
theorem moo_end (h : i = P.length) : moo a b M P i 0 = (gfails (mnx a b M) a.inputs P).map (mcg a b M) := by
  subst h
  unfold moo
  simp [gfrow_zero]
theorem moo_len (i0 : 0 ≤ i) (h0 : 0 ≤ a.inputs) (x1 : x ≤ a.inputs) : (moo a b M P i x).length ≤ (i.toNat + 1) * a.inputs.toNat := by
  have h1 : ∀ q : List Pl, (gfails (mnx a b M) a.inputs q).length ≤ q.length * a.inputs.toNat := fun q => by
    induction q with
    | nil => simp [gfails]
    | cons p q ih =>
      have e : p :: q = [p] ++ q := rfl
      rw [e, gfails_app, gfails_one, List.length_append, List.length_append, Nat.add_mul]
      have : (gfrow (mnx a b M) p a.inputs).length ≤ a.inputs.toNat := by
        unfold gfrow
        rw [List.length_map]
        exact Nat.le_trans (List.length_filter_le _ _) (by simp)
      simp only [List.length_singleton]
      omega
  unfold moo
  have := h1 (P.take i.toNat)
  have h2 : (gfrow (mnx a b M) (ix P i) x).length ≤ a.inputs.toNat := by
    unfold gfrow
    rw [List.length_map]
    exact Nat.le_trans (List.length_filter_le _ _) (by simp; omega)
  rw [List.length_map, List.length_append, Nat.add_mul]
  have h3 : (P.take i.toNat).length * a.inputs.toNat ≤ i.toNat * a.inputs.toNat := Nat.mul_le_mul_right _ (by simp; omega)
  omega
end
theorem mcg_w {a b : Mly} {M : List Int} {y : Int × List Int × Int} : (mcg a b M y).w = y.2.1 := by unfold mcg; split <;> rfl
theorem movs_asc {a b : Mly} {M : List Int} (ha : a.Ok) : cgAsc (movs a b M) := by
  have hf := places_bf a ha a.start ha.start
  unfold cgAsc movs
  rw [List.pairwise_map]
  exact (gfails_asc hf.asc).imp fun h => by rw [mcg_w, mcg_w]; exact h
theorem movs_fit {a b : Mly} {M : List Int} (ha : a.Ok) : cgFit (movs a b M) := by
  have hf := places_bf a ha a.start ha.start
  have hsa := ha.states
  intro c hc
  unfold movs at hc
  obtain ⟨y, hy, rfl⟩ := List.mem_map.1 hc
  obtain ⟨p, hp, _, _, _, e⟩ := gfails_mem.1 hy
  obtain ⟨j, hj, rfl⟩ := List.mem_iff_getElem.1 hp
  have := hf.bq.len (j : Int) (by omega) (by omega)
  have hle := hf.bq.le
  rw [ix_nat hj] at this
  rw [mcg_w, e]
  simp only [List.length_append, List.length_singleton]
  omega
theorem mbad_s (b : Mly) (hb : b.fits) (t : Int) : PC F_diff_Moved_1 [.int t, .pimm b.av] = some (.bool (mbad b t)) := by
  refine PCx_of (go_diff_Moved_1 rfl ?_)
  have := hb.next.1
  by_cases h : t < -1
  · simp [mbad, h]
  · simp [mbad, h]
theorem many_s (b : Mly) (hb : b.fits) (M : List Int) (hl : (M.length : Int) ≤ 9223372036854775807) : PC F_slices_ContainsFunc_Sint_int [iL M, .func F_diff_Moved_1 [.pimm b.av]] = some (.bool (M.any (mbad b))) := ContainsFunc_s M F_diff_Moved_1 [.pimm b.av] (mbad b) hl (by simp) rfl (fun t _ => mbad_s b hb t)
theorem join_i (w : List Int) (a : Int) (h : w.length ≤ 100000) : PCx L F_word_Join [.imm false [iL w, .imm false [.int a]]] = some (iL (w ++ [a])) := by
  have e := Join_s [(false, w), (false, [a])] (by simp) (by simp [cat]; omega)
  simp [wB, cat] at e
  exact e
end Ab
