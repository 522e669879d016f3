/- Calls that are handed the blocks, and calls that bring blocks of their own. Condition: the callees answer as the interpreter says. -/
import Derived.Test.YtgaidfgpedibhaaAbOps7
set_option linter.all false
namespace Ab
open Go
variable {P : Program}

theorem shL_map (n : Nat) : ∀ l : List AV, shL n l = l.map (shV n)
  | [] => rfl
  | x :: r => by simp only [shL, shL_map n r, List.map_cons]

/-- The second context has all of the first, n numbers further on. -/
structure Shift (n : Nat) (C1 C' : Ctx) : Prop where
  imm : ∀ k, C1.I k → C'.I k
  lim : ∀ b u, C1.lim b u → C'.lim (b + n) u
  own : ∀ b u B' id, C1.lim b u → C'.own (b + n) u = some (B', id) → ∃ B, C1.own b u = some (B, id) ∧ B.st = B'.st ∧ B.k = B'.k

section
variable {n : Nat} {C1 C' : Ctx} {H : Array Obj}
mutual
theorem VR.shift (h : Shift n C1 C') : ∀ (x : AV) (v : Value), VR C1 H x v → VR C' H (shV n x) v
  | .int _, _, hv => hv
  | .ik _ _, _, hv => hv
  | .bool _, _, hv => hv
  | .str _, _, hv => hv
  | .agg l, _, ⟨vs, e, hl, hc⟩ => ⟨vs, e, VRL.shift h l vs hl, hc⟩
  | .tup l, _, ⟨vs, e, hl⟩ => ⟨vs, e, VRL.shift h l vs hl⟩
  | .snil, _, hv => hv
  | .imm nn l, v, hv => VR.free (show ISub C1 H C' H from ⟨h.imm, fun _ _ => rfl⟩) (.imm nn l) v rfl hv
  | .arr l, v, hv => by
    unfold VR at hv
    unfold shV VR
    obtain ⟨b, off, st, c, el, fz, e, hI, hH, hl⟩ := hv
    refine ⟨b, off, st, c, el, fz, ?_, h.imm b hI, hH, VRI.shift h c st l off hl⟩
    rw [shL_map]; simpa using e
  | .sl b u off len, v, hv => by
    unfold VR at hv
    unfold shV VR
    obtain ⟨h0, h1, h3⟩ := hv
    refine ⟨h0, h.lim b u h1, fun B' id ho => ?_⟩
    obtain ⟨B, g1, g2, g3⟩ := h.own b u B' id h1 ho
    have := h3 B id g1
    rw [g2, g3] at this
    exact this
  | .pnil, _, hv => hv
  | .pimm x, v, hv => VR.free (show ISub C1 H C' H from ⟨h.imm, fun _ _ => rfl⟩) (.pimm x) v rfl hv
  | .ptr b u off, v, hv => by
    unfold VR at hv
    unfold shV VR
    obtain ⟨h0, h1, h3⟩ := hv
    refine ⟨h0, h.lim b u h1, fun B' id ho hl => ?_⟩
    obtain ⟨B, g1, g2, g3⟩ := h.own b u B' id h1 ho
    exact h3 B id g1 (g2.trans hl)
  | .fnil, _, hv => hv
  | .func _ l, _, ⟨vs, e, hl⟩ => ⟨vs, e, VRL.shift h l vs hl⟩
  | .inil, _, hv => hv
  | .iface _ x, _, ⟨y, e, hx⟩ => ⟨y, e, VR.shift h x y hx⟩
  | .und, _, _ => trivial
theorem VRL.shift (h : Shift n C1 C') : ∀ (l : List AV) (vs : List Value), VRL C1 H l vs → VRL C' H (shL n l) vs
  | [], _, hv => hv
  | x :: r, _, ⟨v, s, e, hx, hr⟩ => ⟨v, s, e, VR.shift h x v hx, VRL.shift h r s hr⟩
theorem VRI.shift (h : Shift n C1 C') (c : Array Value) (st : Nat) : ∀ (l : List AV) (off : Nat), VRI C1 H c st l off → VRI C' H c st (shL n l) off
  | [], _, _ => trivial
  | x :: r, off, ⟨⟨v, hx, e, hj⟩, hr⟩ => ⟨⟨v, VR.shift h x v hx, e, hj⟩, VRI.shift h c st r (off + st) hr⟩
end
end

section
variable {a : Act} {ρ : Operand → Value} {r : Rf → AV} {w : World} {C : Ctx} {R : Operand → Rf → Bool} {ce : CE} {σ : List Blk} {nl : Nat} {ps : List Pend}

theorem dw_cam {ids : Nat → Nat} {I : Nat → Prop} {o : Oper} {ca : Call} {f : Nat} {ys : List Rf} {z : AV} {σ' : List Blk} (hce : CallOk P ce) (ho : o.op = .call ca) (hc : ca.callee = .value (.func f)) (hb : bodied P f = true) (hg : Good (ctxOf σ ids I) w)
    (hx : VRL (ctxOf σ ids I) w.heap (ys.map r) (ca.args.toList.map a.eval)) (he : evW ce σ r (.cam f ys) = some (z, σ')) : Does P o a w (PostW σ ids I w z σ') := by
  simp only [evW] at he
  refine Does.call (call_static ho hc hb w) ((hce f _ σ z σ' he ids I w _ hg hx).mono ?_)
  rintro e w' ⟨v, ids', I', rfl, h1, h2, h3⟩
  exact ⟨v, rfl, ids', I', h1, h3, h2⟩

theorem dw_camd {ids : Nat → Nat} {I : Nat → Prop} {o : Oper} {ca : Call} {x0 : Operand} {y : Rf} {ys : List Rf} {z : AV} {σ' : List Blk} (hce : CallOk P ce) (hbd : HasBody P ce) (ho : o.op = .call ca) (hc : ca.callee = .value x0) (hg : Good (ctxOf σ ids I) w)
    (h0 : VR (ctxOf σ ids I) w.heap (r y) (a.eval x0)) (hx : VRL (ctxOf σ ids I) w.heap (ys.map r) (ca.args.toList.map a.eval)) (he : evW ce σ r (.camd y ys) = some (z, σ')) : Does P o a w (PostW σ ids I w z σ') := by
  simp only [evW] at he
  cases hy : r y <;> simp only [hy] at he <;> try (simp at he; done)
  rename_i f caps
  rw [hy] at h0
  unfold VR at h0
  obtain ⟨vs, e, hl⟩ := h0
  refine Does.call (call_dyn ho hc e (hbd _ _ _ _ he) w) ((hce f _ σ z σ' he ids I w _ hg (hx.append hl)).mono ?_)
  rintro e w' ⟨v, ids', I', rfl, h1, h2, h3⟩
  exact ⟨v, rfl, ids', I', h1, h3, h2⟩

theorem dw_invm {ids : Nat → Nat} {I : Nat → Prop} {o : Oper} {ca : Call} {x0 : Operand} {m : String} {tbl : List (Nat × Nat)} {y : Rf} {ys : List Rf} {z : AV} {σ' : List Blk} (hce : CallOk P ce) (hbd : HasBody P ce) (ho : o.op = .call ca) (hc : ca.callee = .invoke x0 m) (ht : tblIs P m tbl = true) (hg : Good (ctxOf σ ids I) w)
    (h0 : VR (ctxOf σ ids I) w.heap (r y) (a.eval x0)) (hx : VRL (ctxOf σ ids I) w.heap (ys.map r) (ca.args.toList.map a.eval)) (he : evW ce σ r (.invm y tbl ys) = some (z, σ')) : Does P o a w (PostW σ ids I w z σ') := by
  simp only [evW] at he
  cases hy : r y <;> simp only [hy] at he <;> try (simp at he; done)
  rename_i t q
  cases hl : lookT tbl t with
  | none => simp [hl] at he
  | some f =>
    simp only [hl] at he
    rw [hy] at h0
    unfold VR at h0
    obtain ⟨v, e, hq⟩ := h0
    refine Does.call (call_inv ho hc e ht hl (hbd _ _ _ _ he) w) ((hce f _ σ z σ' he ids I w _ hg ⟨v, _, rfl, hq, hx⟩).mono ?_)
    rintro e w' ⟨v, ids', I', rfl, h1, h2, h3⟩
    exact ⟨v, rfl, ids', I', h1, h3, h2⟩

theorem blk_sh {σ' : List Blk} {b : Nat} : blk (σ'.map (shB nl)) b = (blk σ' b).map (shB nl) := by
  rw [blk_eq, blk_eq]; simp
theorem shB_len (B : Blk) : (shB nl B).cells.length = B.cells.length := by simp [shB, shL_map]

theorem own_sh {σ' : List Blk} {ids : Nat → Nat} {I I' : Nat → Prop} {b u : Nat} {B' : Blk} {id : Nat} (h : (ctxOf (σ'.map (shB nl)) ids I).own b u = some (B', id)) : ∃ B, (ctxOf σ' ids I').own b u = some (B, id) ∧ B' = shB nl B := by
  simp only [ctxOf, blk_sh] at h ⊢
  cases hb : blk σ' b with
  | none => simp [hb] at h
  | some B =>
    simp only [hb, Option.map_some] at h ⊢
    have e1 : (shB nl B).st = B.st := rfl
    rw [e1, shB_len] at h
    cases hs : B.st <;> simp only [hs] at h ⊢ <;> first
      | (simp at h; done)
      | (by_cases hu : B.cells.length = u
         · simp only [hu, if_true] at h ⊢
           simp at h
           exact ⟨B, by rw [h.2], h.1.symm⟩
         · simp [hu] at h)

theorem dn_can {o : Oper} {ca : Call} {f : Nat} {ys : List Rf} {x : AV} {p : Option Pend} (hce : CallOk P ce) (ho : o.op = .call ca) (hc : ca.callee = .value (.func f)) (hb : bodied P f = true) (hg : Good C w)
    (hfr : ∀ l, p = some (.news l) → ∀ b u, nl ≤ b → b < nl + l.length → ¬ C.lim b u)
    (hx : VRL C w.heap (ys.map r) (ca.args.toList.map a.eval)) (he : ev ce σ nl ps r (.can f ys) = some (x, p)) : Does P o a w (PostE nl C w x p) := by
  simp only [ev] at he
  split at he
  case isFalse => simp at he
  rename_i hn
  cases hcf : ce f (ys.map r) [] with
  | none => simp [hcf] at he
  | some q =>
    obtain ⟨v0, σ'⟩ := q
    simp only [hcf, Option.some.injEq, Prod.mk.injEq] at he
    obtain ⟨rfl, rfl⟩ := he
    have hfr := hfr _ rfl
    have hv0 : VRL (ctxOf [] (fun _ => 0) C.I) w.heap (ys.map r) (ca.args.toList.map a.eval) := VRL.free (show ISub C w.heap (ctxOf [] (fun _ => 0) C.I) w.heap from ⟨fun _ h => h, fun _ _ => rfl⟩) _ _ hn hx
    refine Does.call (call_static ho hc hb w) ((hce f _ [] v0 σ' hcf (fun _ => 0) C.I w _ (good_none hg _) hv0).mono ?_)
    rintro e w' ⟨v, ids', I', rfl, hg1, hr, hs⟩
    refine ⟨v, rfl, ?_⟩
    have hlen : (σ'.map (shB nl)).length = σ'.length := by simp
    let C' : Ctx := { I := I', own := fun b u => if nl ≤ b ∧ b < nl + (σ'.map (shB nl)).length then (ctxOf (σ'.map (shB nl)) ids' C.I).own (b - nl) u else C.own b u, lim := fun b u => (nl ≤ b ∧ (ctxOf (σ'.map (shB nl)) ids' C.I).lim (b - nl) u) ∨ C.lim b u }
    have hsame : ∀ k, k < w.heap.size → w'.heap[k]? = w.heap[k]? := fun k hk => hs.frame k hk owned_none
    have limlt : ∀ b u, (ctxOf σ' ids' I').lim b u → b < σ'.length := fun b u ⟨B, h1, _⟩ => by rw [blk_eq] at h1; exact (List.getElem?_eq_some_iff.1 h1).1
    have limsh : ∀ b u, (ctxOf (σ'.map (shB nl)) ids' C.I).lim b u ↔ (ctxOf σ' ids' I').lim b u := fun b u => by
      simp only [ctxOf, blk_sh]
      constructor
      · rintro ⟨B, h1, h2⟩
        obtain ⟨B0, h3, h4⟩ := Option.map_eq_some_iff.1 h1
        subst h4
        exact ⟨B0, h3, by rwa [shB_len] at h2⟩
      · rintro ⟨B, h1, h2⟩
        exact ⟨shB nl B, by rw [h1]; rfl, by rw [shB_len]; exact h2⟩
    have hsh : Shift nl (ctxOf σ' ids' I') C' := by
      refine ⟨fun _ h => h, fun b u h => .inl ⟨by omega, ?_⟩, fun b u B' id hl ho' => ?_⟩
      · rw [show b + nl - nl = b by omega]; exact (limsh b u).2 h
      · have hlt := limlt b u hl
        have hin : nl ≤ b + nl ∧ b + nl < nl + (σ'.map (shB nl)).length := by rw [hlen]; omega
        simp only [C', if_pos hin] at ho'
        rw [show b + nl - nl = b by omega] at ho'
        obtain ⟨B, h1, h2⟩ := own_sh (I' := I') ho'
        exact ⟨B, h1, by rw [h2]; rfl, by rw [h2]; rfl⟩
    have ev' : Evol C w.heap C' w'.heap := by
      refine ⟨fun k hk => hs.ev.imm k hk, fun k hk => hsame k (hg.I k hk), fun _ _ h => .inr h, fun b u B' id hl ho' => ?_⟩
      have hno : ¬ (nl ≤ b ∧ b < nl + (σ'.map (shB nl)).length) := fun ⟨h1, h2⟩ => hfr b u h1 h2 hl
      simp only [C', if_neg hno] at ho'
      refine ⟨B', ho', rfl, rfl, fun c el hc' => ⟨c, ?_, rfl⟩⟩
      rw [hsame id (Array.getElem?_eq_some_iff.1 hc').1]; exact hc'
    have hnew : ∀ id, owned (ctxOf σ' ids' I') id → w.heap.size ≤ id := fun id h => (hs.ownOrig id h).elim (fun h => absurd h owned_none) (fun h => h)
    have hcase : ∀ b u B' id, C'.own b u = some (B', id) → (nl ≤ b ∧ b < nl + (σ'.map (shB nl)).length ∧ ∃ B, (ctxOf σ' ids' I').own (b - nl) u = some (B, id) ∧ B' = shB nl B) ∨ C.own b u = some (B', id) := fun b u B' id h => by
      by_cases hin : nl ≤ b ∧ b < nl + (σ'.map (shB nl)).length
      · simp only [C', if_pos hin] at h
        obtain ⟨B, h1, h2⟩ := own_sh (I' := I') h
        exact .inl ⟨hin.1, hin.2, B, h1, h2⟩
      · simp only [C', if_neg hin] at h
        exact .inr h
    refine ⟨C', ⟨hg1.I, fun b u B' id h => ?_, fun b u B' id h hl => ?_, fun b1 u1 B1 i1 b2 u2 B2 i2 k1 l1 k2 l2 hne => ?_⟩, ⟨ev', hs.size, fun k hk _ => hsame k hk, fun k hk => ?_, fun k hk => ?_, hs.os, hs.tape, hs.output⟩, VR.shift hsh _ _ hr, ids', rfl, rfl⟩
    · rcases hcase b u B' id h with ⟨q1, q2, B, q3, rfl⟩ | h'
      · obtain ⟨j1, j2, j3, j4⟩ := hg1.ent _ _ _ _ q3
        exact ⟨.inl ⟨q1, (limsh _ _).2 j1⟩, by rw [shB_len]; exact j2, fun h0 => by
          have : B.cells = [] := j3 h0
          simp [shB, this, shL], j4⟩
      · obtain ⟨j1, j2, j3, j4⟩ := hg.ent _ _ _ _ h'
        exact ⟨.inr j1, j2, j3, j4⟩
    · rcases hcase b u B' id h with ⟨q1, q2, B, q3, rfl⟩ | h'
      · obtain ⟨j1, c, el, j2, j3, j4⟩ := hg1.live _ _ _ _ q3 hl
        refine ⟨j1, c, el, j2, by rw [shB_len]; exact j3, fun i y hi => ?_⟩
        have hi' : (shL nl B.cells)[i]? = some y := hi
        rw [shL_map, List.getElem?_map] at hi'
        obtain ⟨y0, e1, rfl⟩ := Option.map_eq_some_iff.1 hi'
        obtain ⟨v', m1, m2, m3⟩ := j4 i y0 e1
        exact ⟨v', m1, VR.shift hsh _ _ m2, m3⟩
      · obtain ⟨j1, c, el, j2, j3, j4⟩ := hg.live _ _ _ _ h' hl
        have hlt := (Array.getElem?_eq_some_iff.1 j2).1
        refine ⟨fun hi => ?_, c, el, by rw [hsame id hlt]; exact j2, j3, fun i y hi => ?_⟩
        · rcases hs.immOrig id hi with h1 | h1 | h1
          · exact j1 h1
          · exact owned_none h1
          · omega
        · obtain ⟨v', m1, m2, m3⟩ := j4 i y hi
          exact ⟨v', m1, VR.mono ev' _ _ m2, m3⟩
    · rcases hcase _ _ _ _ k1 with ⟨q1, q2, B, q3, rfl⟩ | h1 <;> rcases hcase _ _ _ _ k2 with ⟨q4, q5, B', q6, rfl⟩ | h2
      · exact hg1.apart _ _ _ _ _ _ _ _ q3 l1 q6 l2 (by omega)
      · have := hnew i1 ⟨_, _, B, q3, l1⟩
        have := hg.lt ⟨b2, u2, B2, h2, l2⟩
        omega
      · have := hnew i2 ⟨_, _, B', q6, l2⟩
        have := hg.lt ⟨b1, u1, B1, h1, l1⟩
        omega
      · exact hg.apart _ _ _ _ _ _ _ _ h1 l1 h2 l2 hne
    · obtain ⟨b, u, B', h1, h2⟩ := hk
      rcases hcase _ _ _ _ h1 with ⟨q1, q2, B, q3, rfl⟩ | h'
      · exact .inr (hnew k ⟨_, _, B, q3, h2⟩)
      · exact .inl ⟨b, u, B', h', h2⟩
    · rcases hs.immOrig k hk with h1 | h1 | h1
      · exact .inl h1
      · exact absurd h1 owned_none
      · exact .inr (.inr h1)
end
end Ab
