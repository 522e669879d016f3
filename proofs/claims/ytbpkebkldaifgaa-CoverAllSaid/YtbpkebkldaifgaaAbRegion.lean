/- A region does what its lines say. Condition: the callees answer as the interpreter says. -/
import Derived.Test.YtbpkebkldaifgaaAbNext
set_option linter.all false
namespace Ab
open Go
variable {P : Program}

/-- A state stands for a frame and a world. -/
structure Rel (sl : List Nat) (nt : Nat) (ds : List Deferred) (s : St) (C : Ctx) (a : Act) (w : World) : Prop where
  good : Good C w
  size : a.tmps.size = nt
  defers : a.defers = ds
  vars : ∀ k t, sl[k]? = some t → VR C w.heap (nth s.vars k) (a.tmps.getD t undef)
  fl : ∀ t v, s.fl = some (t, v) → VR C w.heap v (a.tmps.getD t undef)

/-- The end of a region. -/
def okEnd (ops : List Oper) (ls : List Ln) (sl : List Nat) (r : Reg) : Bool :=
  (r.outs.all fun (k, d) => decide (d < ls.length) && match sl[k]? with | some t => slotOf ops ls (ls.length - 1 - d) == some t | none => true) &&
  ((List.range sl.length).all fun k => r.kills.any (· == k) || r.outs.any (·.1 == k) || (List.range ls.length).all fun j => match sl[k]?, dstAt ops j with | some t, some t' => t != t' | _, _ => true) &&
  (match r.fl with | some (t, d) => decide (d < ls.length) && slotOf ops ls (ls.length - 1 - d) == some t | none => true)

def okReg (P : Program) (draw : Bool) (ops : List Oper) (sl : List Nat) (nt : Nat) (r : Reg) : Bool :=
  ops.length == r.ls.length && ((List.range r.ls.length).all (okLine P draw (befs ops) ops r.ls sl nt)) && okEnd ops r.ls sl r && (!draw || ops.all fun o => match o.op with | .select .. => false | _ => true)

theorem nth_setN {l : List AV} {k n : Nat} {x : AV} : nth (setN l k x) n = if n = k ∧ k < l.length then x else nth l n := by
  rw [nth_eq, setN_eq, nth_eq, List.getElem?_set]
  by_cases e : k = n
  · subst e
    by_cases h : k < l.length
    · simp [h]
    · simp [h, List.getElem?_eq_none (Nat.le_of_not_lt h)]
  · rw [if_neg e, if_neg (fun h => e h.1.symm)]
theorem kills_nth {Q : AV → Prop} (hu : Q .und) {k : Nat} : ∀ (ks : List Nat) (vs : List AV), (k ∉ ks → Q (nth vs k)) → Q (nth (kills ks vs) k)
  | [], vs, h => h (by simp)
  | k' :: ks, vs, h => by
    unfold kills
    refine kills_nth hu ks _ fun hk => ?_
    rw [nth_setN]
    by_cases e : k = k' ∧ k' < vs.length
    · rw [if_pos e]; exact hu
    · rw [if_neg e]
      by_cases e' : k = k'
      · have : vs.length ≤ k := by omega
        rw [nth_eq, List.getElem?_eq_none this]; exact hu
      · exact h (by simp [e', hk])
theorem outs_nth {Q : AV → Prop} (hu : Q .und) {env : List AV} {k : Nat} : ∀ (os : List (Nat × Nat)) (vs : List AV), (∀ d, (k, d) ∈ os → Q (nth env d)) → ((∀ d, (k, d) ∉ os) → Q (nth vs k)) → Q (nth (outs env os vs) k)
  | [], vs, _, h => h (by simp)
  | (k', d') :: os, vs, h1, h2 => by
    unfold outs
    refine outs_nth hu os _ (fun d hd => h1 d (by simp [hd])) fun hn => ?_
    rw [nth_setN]
    by_cases e : k = k' ∧ k' < vs.length
    · rw [if_pos e]; exact h1 d' (by simp [e.1])
    · rw [if_neg e]
      by_cases e' : k = k'
      · have : vs.length ≤ k := by omega
        rw [nth_eq, List.getElem?_eq_none this]; exact hu
      · exact h2 fun d hd => by
          rcases List.mem_cons.1 hd with h | h
          · simp at h; exact e' h.1
          · exact hn d h

section
variable {X : RC P} {C0 : Ctx} {w0 : World} {ds : List Deferred}

/-- Everything is done. -/
theorem Inv.full {D : Nat → Prop} {C : Ctx} {f : Nat} {a : Act} {w : World} (h : Inv X C0 w0 ds D C f a w) (hD : ∀ j, j < X.ls.length → D j) {r : Reg} (hr : r.ls = X.ls) (hend : okEnd X.ops X.ls X.sl r = true) {vs : List AV}
    (hvs : vs = X.vars) (fl : Option (Nat × AV)) (hfl : fl = match r.fl with | some (t, d) => some (t, nth (X.st X.ls.length).env d) | none => none) :
    ∃ ids I, Rel X.sl X.nt ds { vars := kills r.kills (outs (X.st X.ls.length).env r.outs vs), fl, σ := (X.st X.ls.length).σ } (ctxOf (X.st X.ls.length).σ ids I) a w ∧ Step C0 w0 (ctxOf (X.st X.ls.length).σ ids I) w := by
  subst hvs
  obtain ⟨f, hN⟩ : ∃ f, FrontN X D C f := by
    rcases h.fr with hN | ⟨lo, hi, hG, _⟩
    · exact ⟨_, hN⟩
    · exact ⟨_, hG.done fun k hk _ => hD k (X.eff_lt hk)⟩
  have hσ : (X.st X.ls.length).σ = (X.st f).σ := (X.same' (p := f) hN.fle (Nat.le_refl _) fun j h1 h2 => by
    cases hj : effAt X.ls j with
    | false => rfl
    | true => exact absurd (hD j h2) (hN.hi j h1 hj)).1
  obtain ⟨ids, g1, g2⟩ := hN.shows.take h.good
  rw [hσ]
  refine ⟨ids, C.I, ⟨g1, h.size, h.defers, fun k t hk => ?_, fun t v hv => ?_⟩, h.step.trans g2⟩
  · simp only [okEnd, Bool.and_eq_true, List.all_eq_true, decide_eq_true_eq] at hend
    obtain ⟨⟨e1, e2⟩, _⟩ := hend
    refine kills_nth (Q := fun x => VR (ctxOf (X.st f).σ ids C.I) w.heap x (a.tmps.getD t undef)) (by unfold VR; trivial) _ _ fun hnk => ?_
    refine outs_nth (Q := fun x => VR (ctxOf (X.st f).σ ids C.I) w.heap x (a.tmps.getD t undef)) (by unfold VR; trivial) _ _ (fun d hd => ?_) fun hno => ?_
    · have := e1 _ hd
      simp only [hk, beq_iff_eq] at this
      rw [X.envAt (Nat.le_refl _) this.1]
      exact VR.mono g2.ev _ _ (h.tv _ t (hD _ (by omega)) this.2)
    · have hkl : k < X.sl.length := (List.getElem?_eq_some_iff.1 hk).1
      have := e2 k (List.mem_range.2 hkl)
      simp only [Bool.or_eq_true, List.any_eq_true, beq_iff_eq, List.all_eq_true, List.mem_range] at this
      rcases this with (⟨x, hx, rfl⟩ | ⟨x, hx, rfl⟩) | hd
      · exact absurd hx hnk
      · exact absurd hx (hno x.2)
      · refine VR.mono g2.ev _ _ (h.vv k t hk fun j hj hdj => ?_)
        have := hd j (h.below j hj)
        simp [hk, hdj] at this
  · simp only [okEnd, Bool.and_eq_true, List.all_eq_true, decide_eq_true_eq] at hend
    obtain ⟨_, e3⟩ := hend
    subst hfl
    simp only at hv
    cases hrf : r.fl with
    | none => simp [hrf] at hv
    | some td =>
      obtain ⟨t', d⟩ := td
      simp only [hrf, Option.some.injEq, Prod.mk.injEq] at hv
      obtain ⟨rfl, rfl⟩ := hv
      simp only [hrf, Bool.and_eq_true, decide_eq_true_eq, beq_iff_eq] at e3
      rw [X.envAt (Nat.le_refl _) e3.1]
      exact VR.mono g2.ev _ _ (h.tv _ t' (hD _ (by omega)) e3.2)

/-- What is listed has all that comes before it listed. -/
theorem before_of {i : Nat} {D : Nat → Prop} (hdr : X.draw = true) {o : Oper} {l : Ln} (ho : X.ops[i]? = some o) (hF : Facts X i o l) (hcl : ∀ i j, D j → bfr X.draw X.bf i j = true → D i)
    (hd : ∀ e ∈ o.after.toList, Region.binds .any e = true → D e.on) : ∀ j, bfr X.draw X.bf j i = true → D j := fun j hj => by
  have hb := hF.bf
  simp only [okBf, hdr, if_true, Bool.and_eq_true, beq_iff_eq] at hb
  have hj' := hj
  simp only [bfr, hdr, if_true, hb.1, Option.getD_some] at hj'
  rcases mask_fold X.bf j o.after.toList 0 hj' with h | ⟨e, h1, h2, h3⟩
  · simp at h
  · rcases h3 with rfl | h3
    · exact hd e h1 h2
    · exact hcl j e.on (hd e h1 h2) (by simp only [bfr, hdr, if_true]; exact h3)

theorem Inv.mk0 {ids : Nat → Nat} {I : Nat → Prop} {s : St} {a : Act} {w : World} (hv : X.vars = s.vars) (hσ : X.σ0 = s.σ) (h : Rel X.sl X.nt ds s (ctxOf s.σ ids I) a w) : Inv X (ctxOf s.σ ids I) w ds (fun _ => False) (ctxOf s.σ ids I) 0 a w := by
  refine ⟨h.good, Step.refl _ _, h.size, h.defers, fun _ h => h.elim, fun _ _ h => h.elim, fun _ _ h => h.elim, fun k t hk _ => by rw [hv]; exact h.vars k t hk, fun _ _ h => h.elim, fun _ _ _ _ _ _ _ h => h.elim, .inl ⟨Nat.zero_le _, fun _ h => absurd h (Nat.not_lt_zero _), fun _ _ _ h => h, ?_, fun h => absurd h (Nat.lt_irrefl _)⟩⟩
  rw [X.st0, hσ]
  exact shows_ctx _ _ _

/-- In the text's order. -/
theorem run_range {Q : Exit → Act → World → Prop} (hdr : X.draw = false) (hQ : ∀ D C f a w, Inv X C0 w0 ds D C f a w → (∀ j, j < X.ls.length → D j) → Q .normal a w) :
    ∀ (k : Nat) (D : Nat → Prop) (C : Ctx) (f : Nat) (a : Act) (w : World), k ≤ X.ls.length → (∀ j, D j ↔ j < X.ls.length - k) → Inv X C0 w0 ds D C f a w → wpOps P X.ops.toArray Q (List.range' (X.ls.length - k) k) a w
  | 0, D, C, f, a, w, _, hD, h => by
    simp only [List.range'_zero, wpOps]
    exact hQ D C f a w h fun j hj => (hD j).2 (by omega)
  | k + 1, D, C, f, a, w, hk, hD, h => by
    rw [List.range'_succ, wpOps_cons]
    have e : X.ls.length - (k + 1) + 1 = X.ls.length - k := by omega
    rw [e]
    have hbf : ∀ j, bfr X.draw X.bf j (X.ls.length - (k + 1)) = true → D j := fun j hj => (hD j).2 (by
      simp only [bfr, hdr, Bool.false_eq_true, if_false, decide_eq_true_eq] at hj
      exact hj)
    refine wpOp_mono (fun a' w' ⟨C', f', h'⟩ => run_range hdr hQ k _ C' f' a' w' (by omega) (fun j => ?_) h') (h.next (i := X.ls.length - (k + 1)) (by omega) (fun hd => by have := (hD _).1 hd; omega) hbf Q)
    · constructor
      · rintro (q | rfl)
        · have := (hD j).1 q; omega
        · omega
      · intro q
        by_cases e' : j = X.ls.length - (k + 1)
        · exact .inr e'
        · exact .inl ((hD j).2 (by omega))

/-- In any order. -/
theorem run_any {Q : Exit → Act → World → Prop} (hdr : X.draw = true) (hQ : ∀ D C f a w, Inv X C0 w0 ds D C f a w → (∀ j, j < X.ls.length → D j) → Q .normal a w) :
    ∀ (k : Nat) (listed : Array Bool) (C : Ctx) (f : Nat) (a : Act) (w : World), listed.size = X.ls.length → (listed.toList.filter (· == false)).length ≤ k → Inv X C0 w0 ds (fun j => listed[j]? = some true) C f a w →
      wpAny P .any X.ops.toArray Q k listed a w := by
  have hnil : ∀ (listed : Array Bool), listed.size = X.ls.length → Region.ready .any X.ops.toArray listed = [] → ∀ j, j < X.ls.length → listed[j]? = some true := by
    intro listed hs hr j
    induction j using Nat.strongRecOn with
    | ind j ih =>
      intro hj
      obtain ⟨o, l, ho, hl, hF⟩ := X.at_ hj
      have hb := hF.bf
      simp only [okBf, hdr, if_true, Bool.and_eq_true, List.all_eq_true, Bool.or_eq_true, Bool.not_eq_true', decide_eq_true_eq] at hb
      have hnot : j ∉ Region.ready .any X.ops.toArray listed := by rw [hr]; simp
      simp only [Region.ready, List.mem_filter, List.mem_range, List.size_toArray, X.len, Array.getD_eq_getD_getElem?, List.getElem?_toArray, ho, Option.map_some, Option.getD_some, Bool.and_eq_true, Bool.not_eq_true', not_and] at hnot
      cases hlj : listed[j]? with
      | none => rw [Array.getElem?_eq_none_iff] at hlj; omega
      | some b =>
        cases b with
        | true => rfl
        | false =>
          exfalso
          refine absurd ?_ (hnot hj (by rw [hlj]; rfl))
          rw [← Array.all_toList]
          simp only [List.all_eq_true, Bool.or_eq_true, Bool.not_eq_true']
          intro e he
          cases hbe : Region.binds .any e with
          | false => exact .inl rfl
          | true =>
            right
            have hlt : e.on < j := (hb.2 e he).resolve_left (by rw [hbe]; simp)
            rw [ih e.on hlt (by omega)]; rfl
  have hin : ∀ (listed : Array Bool) i, listed.size = X.ls.length → i ∈ Region.ready .any X.ops.toArray listed → i < X.ls.length ∧ listed[i]? = some false ∧ ∀ o, X.ops[i]? = some o → ∀ e ∈ o.after.toList, Region.binds .any e = true → listed[e.on]? = some true := by
    intro listed i hs hi
    simp only [Region.ready, List.mem_filter, List.mem_range, List.size_toArray, X.len, Array.getD_eq_getD_getElem?, List.getElem?_toArray, Bool.and_eq_true, Bool.not_eq_true'] at hi
    obtain ⟨h1, h2, h3⟩ := hi
    refine ⟨h1, ?_, fun o ho e he hbe => ?_⟩
    · cases hli : listed[i]? with
      | none => rw [Array.getElem?_eq_none_iff] at hli; omega
      | some b => rw [hli] at h2; simp at h2; rw [h2]
    · rw [ho] at h3
      simp only [Option.map_some, Option.getD_some] at h3
      rw [← Array.all_toList] at h3
      simp only [List.all_eq_true, Bool.or_eq_true, Bool.not_eq_true'] at h3
      rcases h3 e he with h | h
      · rw [hbe] at h; simp at h
      · cases hle : listed[e.on]? with
        | none => rw [hle] at h; simp at h
        | some b => rw [hle] at h; simp at h; rw [h]
  intro k
  induction k with
  | zero =>
    intro listed C f a w hs hk h
    have hall : ∀ j, j < X.ls.length → listed[j]? = some true := fun j hj => by
      cases hlj : listed[j]? with
      | none => rw [Array.getElem?_eq_none_iff] at hlj; omega
      | some b =>
        cases b with
        | true => rfl
        | false =>
          have : false ∈ listed.toList.filter (· == false) := by
            rw [List.mem_filter]
            exact ⟨by rw [Array.mem_toList_iff]; exact Array.mem_of_getElem? hlj, rfl⟩
          have := List.length_pos_of_mem this
          omega
    refine ⟨?_, hQ _ C f a w h hall⟩
    cases hr : Region.ready .any X.ops.toArray listed with
    | nil => rfl
    | cons i r =>
      obtain ⟨h1, h2, _⟩ := hin listed i hs (by rw [hr]; simp)
      rw [hall i h1] at h2; simp at h2
  | succ k ih =>
    intro listed C f a w hs hk h
    refine ⟨fun hr => hQ _ C f a w h (hnil listed hs hr), fun i hi => ?_⟩
    obtain ⟨h1, h2, h3⟩ := hin listed i hs hi
    obtain ⟨o, l, ho, hl, hF⟩ := X.at_ h1
    have hilt : i < listed.size := by omega
    refine wpOp_mono (fun a' w' ⟨C', f', h'⟩ => ih _ C' f' a' w' (by simp [hs]) ?_ ?_) (h.next h1 (by rw [h2]; simp) (before_of hdr ho hF h.closed (h3 o ho)) Q)
    · have hset : (listed.setIfInBounds i true).toList = listed.toList.set i true := by simp
      rw [hset]
      have hcnt : ∀ (l : List Bool) (n : Nat), l[n]? = some false → ((l.set n true).filter (· == false)).length + 1 = (l.filter (· == false)).length := by
        intro l
        induction l with
        | nil => intro n hn; simp at hn
        | cons x r ih =>
          intro n hn
          cases n with
          | zero => simp at hn; subst hn; simp
          | succ n =>
            simp at hn
            have := ih n hn
            cases x <;> simp_all
      have := hcnt listed.toList i (by rw [Array.getElem?_toList]; exact h2)
      omega
    · have : (fun j => listed[j]? = some true ∨ j = i) = fun j => (listed.setIfInBounds i true)[j]? = some true := by
        funext j
        rw [Array.getElem?_setIfInBounds]
        by_cases e : i = j
        · subst e; simp [hilt]
        · have e' : j ≠ i := fun q => e q.symm
          simp [e, e']
      rw [← this]; exact h'
end

/-- **A region.** -/
theorem reg_wp {draw : Bool} {ops : List Oper} {sl : List Nat} {nt : Nat} {r : Reg} {ce : CE} {s s' : St} {id : Nat} {ds : List Deferred} {ids : Nat → Nat} {I : Nat → Prop} {a : Act} {w : World} {Q : Exit → Act → World → Prop} (hm : P.follows .mixedOrders = true)
    (hok : okReg P draw ops sl nt r = true) (hce : CallOk P ce) (hbd : HasBody P ce) (hr : runReg ce r s = some s') (h : Rel sl nt ds s (ctxOf s.σ ids I) a w)
    (hQ : ∀ ids' I' a' w', Rel sl nt ds s' (ctxOf s'.σ ids' I') a' w' → Step (ctxOf s.σ ids I) w (ctxOf s'.σ ids' I') w' → Q .normal a' w') : (Code.region id ops.toArray draw).wp P Q a w := by
  simp only [okReg, Bool.and_eq_true, beq_iff_eq, List.all_eq_true, List.mem_range] at hok
  obtain ⟨⟨⟨o1, o2⟩, o3⟩, _⟩ := hok
  unfold runReg at hr
  cases hl : lines ce s.vars r.ls ⟨[], s.σ, s.σ⟩ with
  | none => simp [hl] at hr
  | some q =>
    simp only [hl, Option.some.injEq] at hr
    obtain ⟨st, e0, en, hst⟩ := lines_states hl
    let X : RC P := ⟨draw, befs ops, ops, r.ls, sl, nt, ce, s.vars, s.σ, st, o1, o2, e0, hst, hce, hbd⟩
    have fin : ∀ (w1 : World) (hw : Step (ctxOf s.σ ids I) w (ctxOf s.σ ids I) w1) D C f a w', Inv X (ctxOf s.σ ids I) w1 ds D C f a w' → (∀ j, j < X.ls.length → D j) → Q .normal a w' := by
      intro w1 hw D C f a' w' hi hD
      obtain ⟨ids', I', k1, k2⟩ := hi.full hD (r := r) rfl o3 (vs := s.vars) rfl _ rfl
      have e : (X.st X.ls.length) = q := en
      rw [e] at k1 k2
      rw [← hr] at hQ
      exact hQ ids' I' a' w' k1 (hw.trans k2)
    cases draw with
    | false =>
      refine wp_region ?_
      have := run_range (X := X) (Q := Q) rfl (fin w (Step.refl _ _)) X.ls.length (fun _ => False) _ 0 a w (Nat.le_refl _) (fun j => by simp) (Inv.mk0 rfl rfl h)
      rw [Nat.sub_self] at this
      rw [List.size_toArray, o1, List.range_eq_range']
      exact this
    | true =>
      refine wp_region_any hm ?_
      have hd : Step (ctxOf s.σ ids I) w (ctxOf s.σ ids I) { w with drawn := w.drawn + 1 } := ⟨Evol.refl _ _, Nat.le_refl _, fun _ _ _ => rfl, fun _ h => .inl h, fun _ h => .inl h, rfl, ⟨rfl, Nat.le_succ _⟩, rfl⟩
      have h' : Rel sl nt ds s (ctxOf s.σ ids I) a { w with drawn := w.drawn + 1 } := ⟨⟨h.good.I, h.good.ent, h.good.live, h.good.apart⟩, h.size, h.defers, h.vars, h.fl⟩
      rw [List.size_toArray, o1]
      refine run_any (X := X) rfl (fin _ hd) r.ls.length (Array.replicate r.ls.length false) (ctxOf s.σ ids I) 0 a _ (by simp [X]) (Nat.le_trans (List.length_filter_le _ _) (by simp)) ?_
      have e : (fun _ : Nat => False) = fun j : Nat => (Array.replicate r.ls.length false)[j]? = some true := by
        funext j
        simp [Array.getElem?_replicate]
      rw [← e]
      exact Inv.mk0 rfl rfl h'
end Ab
