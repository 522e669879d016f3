/- The first word of each difference, as the program finds it and as the document says. Condition: none. -/
import Derived.Test.YtmmkhoncblnicaaDifA
set_option linter.all false
set_option maxRecDepth 100000
set_option maxHeartbeats 4000000
namespace Ab
/-- What was seen. -/
def sm (q : List P3) : List (AV × AV) := q.map fun p => (.agg [.int p.1.1, .int p.1.2], .bool true)
theorem sm_app {q r : List P3} : sm (q ++ r) = sm q ++ sm r := by simp [sm]
theorem sm_one {p : P3} : sm [p] = [(.agg [.int p.1.1, .int p.1.2], .bool true)] := rfl
theorem find_sm {u v : Int} : ∀ {q : List P3}, findM (sm q) (.agg [.int u, .int v]) = some (if hasG q (u, v) then some (.bool true) else none)
  | [] => rfl
  | p :: q => by
    have ih := find_sm (u := u) (v := v) (q := q)
    unfold sm at ih ⊢
    simp only [List.map_cons, findM, keyEq, eqInts, Bool.and_true]
    have e : hasG (p :: q) (u, v) = (decide (p.1 = (u, v)) || hasG q (u, v)) := by simp [hasG]
    by_cases h : p.1 = (u, v)
    · have h1 : decide (u = p.1.1) = true := by rw [h]; simp
      have h2 : decide (v = p.1.2) = true := by rw [h]; simp
      rw [h1, h2, e, h]; simp
    · have h1 : (decide (u = p.1.1) && decide (v = p.1.2)) = false := by
        cases hh : (decide (u = p.1.1) && decide (v = p.1.2)) with
        | false => rfl
        | true =>
          simp only [Bool.and_eq_true, decide_eq_true_eq] at hh
          exact absurd (Prod.ext hh.1.symm hh.2.symm) h
      rw [h1, e]
      simp only [ih]
      simp [h]
theorem kf2 {u v : Int} : keyFits 4 (.agg [.int u, .int v]) = true := by simp [keyFits]
/-- The change of a fail. -/
def cgOf (a b : Mly) (x : P2 × List Int × Int) : Cg := ⟨x.2.1, x.1.1, x.1.2, ix (ix a.out x.1.1) x.2.2, ix (ix b.out x.1.2) x.2.2⟩
/-- The places of two machines. -/
def ppl (a b : Mly) : List P3 := gplaces (pnx a b) a.inputs (a.next.length * b.next.length) (a.start, b.start)
/-- The changes. -/
def exps (a b : Mly) : List Cg := (gfails (pnx a b) a.inputs (ppl a b)).map (cgOf a b)
/-- The changes so far: input x of place i is next. -/
def exo (a b : Mly) (P : List P3) (i x : Int) : List Cg := (gfails (pnx a b) a.inputs (P.take i.toNat) ++ gfrow (pnx a b) (ix P i) x).map (cgOf a b)
theorem exo_zero {a b : Mly} {P : List P3} : exo a b P 0 0 = [] := by simp [exo, gfails, gfrow_zero]
theorem exo_hit {a b : Mly} {P : List P3} {i x : Int} (x0 : 0 ≤ x) (h : pnx a b (ix P i).1 x = none) : exo a b P i (x + 1) = exo a b P i x ++ [⟨(ix P i).2 ++ [x], (ix P i).1.1, (ix P i).1.2, ix (ix a.out (ix P i).1.1) x, ix (ix b.out (ix P i).1.2) x⟩] := by
  unfold exo
  rw [gfrow_succ x0, if_pos h]
  simp [cgOf]
theorem exo_no {a b : Mly} {P : List P3} {i x : Int} (x0 : 0 ≤ x) (h : pnx a b (ix P i).1 x ≠ none) : exo a b P i (x + 1) = exo a b P i x := by
  unfold exo
  rw [gfrow_succ x0, if_neg h, List.append_nil]
theorem exo_next {a b : Mly} {P : List P3} {i : Int} (i0 : 0 ≤ i) (i1 : i < P.length) : exo a b P (i + 1) 0 = exo a b P i a.inputs := by
  unfold exo
  have e : P.take (i + 1).toNat = P.take i.toNat ++ [ix P i] := by
    rw [show (i + 1).toNat = i.toNat + 1 by omega, List.take_succ, ix_eq i0 i1]; rfl
  rw [e, gfails_app, gfails_one, gfrow_zero, List.append_nil]
theorem exo_end {a b : Mly} {P : List P3} {i : Int} (h : i = P.length) : exo a b P i 0 = (gfails (pnx a b) a.inputs P).map (cgOf a b) := by
  subst h
  unfold exo
  simp [gfrow_zero]
theorem exo_len {a b : Mly} {P : List P3} {i x : Int} (i0 : 0 ≤ i) (h0 : 0 ≤ a.inputs) (x1 : x ≤ a.inputs) : (exo a b P i x).length ≤ (i.toNat + 1) * a.inputs.toNat := by
  have h1 : ∀ q : List P3, (gfails (pnx a b) a.inputs q).length ≤ q.length * a.inputs.toNat := fun q => by
    induction q with
    | nil => simp [gfails]
    | cons p q ih =>
      have e : p :: q = [p] ++ q := rfl
      rw [e, gfails_app, gfails_one, List.length_append, List.length_append, Nat.add_mul]
      have : (gfrow (pnx a b) p a.inputs).length ≤ a.inputs.toNat := by
        unfold gfrow
        rw [List.length_map]
        exact Nat.le_trans (List.length_filter_le _ _) (by simp)
      simp only [List.length_singleton]
      omega
  unfold exo
  have := h1 (P.take i.toNat)
  have h2 : (gfrow (pnx a b) (ix P i) x).length ≤ a.inputs.toNat := by
    unfold gfrow
    rw [List.length_map]
    exact Nat.le_trans (List.length_filter_le _ _) (by simp; omega)
  rw [List.length_map, List.length_append, Nat.add_mul]
  have h3 : (P.take i.toNat).length * a.inputs.toNat ≤ i.toNat * a.inputs.toNat := Nat.mul_le_mul_right _ (by simp; omega)
  omega
theorem exps_asc {a b : Mly} (ha : a.Ok) (hb : b.Ok) (hi : a.inputs = b.inputs) : cgAsc (exps a b) := by
  have hG := pgr ha hb hi
  have ok0 : pok a b (a.start, b.start) := ⟨ha.start, hb.start⟩
  obtain ⟨i, _, h⟩ := gplaces_gi hG ok0
  unfold cgAsc exps
  rw [List.pairwise_map]
  exact (gfails_asc h.asc).imp fun h => h
end Ab
