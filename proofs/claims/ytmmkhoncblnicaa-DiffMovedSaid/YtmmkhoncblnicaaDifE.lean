/- What the changes of Explain are. Condition: none. -/
import Derived.Test.YtmmkhoncblnicaaDifD
import Derived.Test.YtmmkhoncblnicaaRunR
set_option linter.all false
set_option maxRecDepth 100000
set_option maxHeartbeats 4000000
namespace Ab
theorem exps_get {a b : Mly} (ha : a.Ok) (hb : b.Ok) (hi : a.inputs = b.inputs) {c : Cg} (hc : c ∈ exps a b) : ∃ u x, c.w = u ++ [x] ∧ (∀ y ∈ u, 0 ≤ y ∧ y < a.inputs) ∧ (0 ≤ x ∧ x < a.inputs) ∧ a.outs a.start u = b.outs b.start u ∧ c.s = a.run a.start u ∧ c.t = b.run b.start u ∧ c.f = ix (ix a.out c.s) x ∧ c.u = ix (ix b.out c.t) x ∧ c.f ≠ c.u ∧ u.length < a.next.length * b.next.length := by
  have hG := pgr ha hb hi
  have ok0 : pok a b (a.start, b.start) := ⟨ha.start, hb.start⟩
  have h := gplaces_gf hG ok0
  have hle := h.gq.le hG
  unfold exps at hc
  obtain ⟨y, hy, rfl⟩ := List.mem_map.1 hc
  obtain ⟨p, hp, hr, hn, e1, e2⟩ := gfails_mem.1 hy
  obtain ⟨j, hj, rfl⟩ := List.mem_iff_getElem.1 hp
  unfold ppl at hj
  have hl := h.gq.len (j : Int) (by omega) (by omega)
  obtain ⟨r1, r2⟩ := h.run (j : Int) (by omega) (by omega)
  rw [ix_nat hj] at hl r1 r2
  generalize hq : (gplaces (pnx a b) a.inputs (a.next.length * b.next.length) (a.start, b.start))[j] = q at hl r1 r2
  have hq' : (ppl a b)[j] = q := hq
  rw [hq'] at hn e1 e2
  rw [prun] at r1
  split at r1
  case isFalse => simp at r1
  rename_i ho
  simp only [Option.some.injEq] at r1
  rw [← e1] at r1 hn
  refine ⟨q.2, y.2.2, e2, r2, hr, ho, by show y.1.1 = _; rw [← r1], by show y.1.2 = _; rw [← r1], rfl, rfl, ?_, by omega⟩
  intro he
  change ix (ix a.out y.1.1) y.2.2 = ix (ix b.out y.1.2) y.2.2 at he
  unfold pnx at hn
  rw [if_pos he] at hn
  simp at hn
theorem exps_hit {a b : Mly} (ha : a.Ok) (hb : b.Ok) (hi : a.inputs = b.inputs) {u : List Int} {x : Int} (hu : ∀ y ∈ u, 0 ≤ y ∧ y < a.inputs) (hx : 0 ≤ x ∧ x < a.inputs) (ho : a.outs a.start u = b.outs b.start u)
    (hn : ix (ix a.out (a.run a.start u)) x ≠ ix (ix b.out (b.run b.start u)) x) : ∃ c ∈ exps a b, c.s = a.run a.start u ∧ c.t = b.run b.start u ∧ (∃ v, c.w = v ++ [x]) ∧ slxC c.w (u ++ [x]) ≤ 0 := by
  have hG := pgr ha hb hi
  have ok0 : pok a b (a.start, b.start) := ⟨ha.start, hb.start⟩
  have h := gplaces_gf hG ok0
  have hr : grun (pnx a b) (a.start, b.start) u = some (a.run a.start u, b.run b.start u) := by rw [prun, if_pos ho]
  have hf : pnx a b (a.run a.start u, b.run b.start u) x = none := by unfold pnx; rw [if_neg hn]
  obtain ⟨y, hy, e1, e2, e3⟩ := h.fail hu hx.1 hx.2 hr hf
  obtain ⟨p, _, _, _, _, e4⟩ := gfails_mem.1 hy
  refine ⟨cgOf a b y, List.mem_map.2 ⟨y, hy, rfl⟩, ?_, ?_, ⟨p.2, ?_⟩, e3⟩
  · show y.1.1 = _; rw [e1]
  · show y.1.2 = _; rw [e1]
  · show y.2.1 = _; rw [e4, e2]
theorem exps_head {a b : Mly} : dist a b a.start b.start = (exps a b).head?.map (·.w) := by
  unfold dist gfirst exps ppl
  rw [List.head?_map]
  cases (gfails (pnx a b) a.inputs (gplaces (pnx a b) a.inputs (a.next.length * b.next.length) (a.start, b.start))).head? <;> rfl
/-- Few changes of small machines. -/
theorem exps_few {a b : Mly} (ha : a.Ok) (hb : b.Ok) (hi : a.inputs = b.inputs) (hA : a.great = false) (hB : b.great = false) : (exps a b).length ≤ 864 ∧ ∀ c ∈ exps a b, (c.w.length : Int) ≤ 144 := by
  have hG := pgr ha hb hi
  have ok0 : pok a b (a.start, b.start) := ⟨ha.start, hb.start⟩
  obtain ⟨i, _, h⟩ := gplaces_gi hG ok0
  have hle := h.gq.le hG
  have h1 := great_f hA
  have h2 := great_f hB
  have hin := ha.inputs
  have hN : a.next.length * b.next.length ≤ 12 * 12 := Nat.mul_le_mul (by omega) (by omega)
  refine ⟨?_, fun c hc => ?_⟩
  · have e : exps a b = exo a b (ppl a b) ((ppl a b).length : Int) 0 := (exo_end rfl).symm
    have h3 : ∀ q : List P3, (gfails (pnx a b) a.inputs q).length ≤ q.length * a.inputs.toNat := fun q => by
      induction q with
      | nil => simp [gfails]
      | cons p q ih =>
        have e : p :: q = [p] ++ q := rfl
        rw [e, gfails_app, gfails_one, List.length_append, List.length_append, Nat.add_mul]
        have : (gfrow (pnx a b) p a.inputs).length ≤ a.inputs.toNat := by
          unfold gfrow
          rw [List.length_map]
          exact Nat.le_trans (List.length_filter_le _ _) (by simp)
        simp only [List.length_singleton]
        omega
    have h4 := h3 (ppl a b)
    have h5 : (ppl a b).length * a.inputs.toNat ≤ 144 * 6 := Nat.mul_le_mul (by unfold ppl; omega) (by omega)
    unfold exps
    rw [List.length_map]
    omega
  · obtain ⟨u, x, e, _, _, _, _, _, _, _, _, hl⟩ := exps_get ha hb hi hc
    rw [e]
    simp only [List.length_append, List.length_singleton]
    omega
theorem exA_small {a b : Mly} (hc : chkE a b = 0) (hA : a.great = false) (hB : b.great = false) : exA a b = (exps a b, 0) := by
  obtain ⟨va, vb, hi⟩ := chkE_ok hc
  have := (exps_few (mvalidE_ok va) (mvalidE_ok vb) hi hA hB).1
  unfold exA
  rw [if_neg (by omega), if_neg (by omega)]
theorem EqI_s (a b : List Int) (ha : (a.length : Int) ≤ 1000000) (hb : (b.length : Int) ≤ 1000000) : PC F_ref08_Equal [iL a, iL b] = some (.bool (decide (a = b))) := by
  refine PCx_of (go_ref08_Equal rfl ?_)
  by_cases hl : a.length = b.length
  · simp [hl]
    refine W_iter (fun i : Int => [(2, .int i)]) (fun _ => []) (fun i => 0 ≤ i ∧ i ≤ b.length ∧ ∀ j, 0 ≤ j → j < i → ix a j = ix b j) (fun i => (b.length - i).toNat) 0 rfl ⟨by omega, by omega, upto_zero⟩ fun i ⟨i0, i1, i2⟩ => ?_
    by_cases hi : i < a.length
    · have hib : i < (b.length : Int) := by omega
      simp [-More_nor, hl, hib, i0]
      refine ⟨fun h => ⟨by omega, More_of (i + 1) rfl rfl ⟨by omega, by omega, upto_succ h i2⟩ (by omega)⟩, fun h e => ?_⟩
      subst e; exact h rfl
    · have hib : ¬ i < (b.length : Int) := by omega
      have e := ext_ix hl fun j j0 j1 => i2 j j0 (by omega)
      simp [hl, hib]
      exact e
  · have hl' : ¬ (a.length : Int) = b.length := by omega
    have he : ¬ a = b := fun e => hl (by rw [e])
    simp [hl', he, hl]
end Ab
