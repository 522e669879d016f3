/- The operations of the small language that turn no block that is there, one by one. Condition: the callees answer as the interpreter says. -/
import Derived.Test.YtgaidfgpedibhaaAbMem
import Derived.Great.BuildSlice
set_option linter.all false
namespace Ab
open Go
variable {P : Program}

/-- The callees answer as the interpreter says. -/
def CallOk (P : Program) (ce : CE) : Prop :=
  ∀ f args σ r σ', ce f args σ = some (r, σ') → ∀ (ids : Nat → Nat) (I : Nat → Prop) (w : World) (vs : List Value), Good (ctxOf σ ids I) w → VRL (ctxOf σ ids I) w.heap args vs →
    Calls P f vs.toArray w fun e w' => ∃ v ids' I', e = .returned v ∧ Good (ctxOf σ' ids' I') w' ∧ VR (ctxOf σ' ids' I') w'.heap r v ∧ Step (ctxOf σ ids I) w (ctxOf σ' ids' I') w'

/-- A value, and nothing else is turned. -/
def PostP (C : Ctx) (w : World) (x : AV) (v : Value) (w' : World) : Prop :=
  ∃ I', Good { C with I := I' } w' ∧ Step C w { C with I := I' } w' ∧ VR { C with I := I' } w'.heap x v

theorem PostP.same {C : Ctx} {w : World} {x : AV} {v : Value} (hg : Good C w) (h : VR C w.heap x v) : PostP C w x v w := ⟨C.I, hg, Step.refl _ _, h⟩

theorem good_none {C : Ctx} {w : World} (hg : Good C w) (ids : Nat → Nat) : Good (ctxOf [] ids C.I) w :=
  ⟨hg.I, fun b u B id h => by simp [ctxOf, blk] at h, fun b u B id h => by simp [ctxOf, blk] at h, fun b u B id b' u' B' id' h => by simp [ctxOf, blk] at h⟩
theorem owned_none {ids : Nat → Nat} {I : Nat → Prop} {k : Nat} : ¬ owned (ctxOf [] ids I) k := fun ⟨b, u, B, h, _⟩ => by simp [ctxOf, blk] at h

/-- **A call by value.** -/
theorem pcl_ok {ce : CE} (hce : CallOk P ce) {f : Nat} {args : List AV} {x : AV} (h : pcl ce f args = some x) {C : Ctx} {w : World} (hg : Good C w) {vs : List Value} (hv : VRL C w.heap args vs) :
    Calls P f vs.toArray w fun e w' => ∃ v, e = .returned v ∧ PostP C w x v w' := by
  unfold pcl at h
  split at h <;> try (simp at h; done)
  rename_i hn
  cases hc : ce f (args.map wk) [] with
  | none => simp [hc] at h
  | some rs =>
    obtain ⟨v0, σ'⟩ := rs
    simp only [hc] at h
    have hv0 : VRL (ctxOf [] (fun _ => 0) C.I) w.heap (args.map wk) vs := (VRL.free (show ISub C w.heap (ctxOf [] (fun _ => 0) C.I) w.heap from ⟨fun _ h => h, fun _ _ => rfl⟩) _ _ hn hv).wk
    refine (hce f _ [] v0 σ' hc (fun _ => 0) C.I w vs (good_none hg _) hv0).mono ?_
    rintro e w' ⟨v, ids', I', rfl, hg1, hr, hs⟩
    refine ⟨v, rfl, ?_⟩
    let I2 : Nat → Prop := fun k => I' k ∨ owned (ctxOf σ' ids' I') k
    have hvw := viewT_VR (C2 := { C with I := I2 }) (fun b u B hb => ⟨_, upto_own ids' I' hb⟩) hg1 (fr := false) ⟨fun _ k hk => .inl hk, fun k hk => .inr hk⟩ h hr
    obtain ⟨h1, h2⟩ := hg.growI hs.size (fun k hk => hs.frame k hk owned_none) I2 (fun k hk => .inl (hs.ev.imm k hk)) (fun k hk => hk.elim (hg1.I k) hg1.lt)
      (fun k hk => hk.elim (fun h => (hs.immOrig k h).elim .inl (fun h => h.elim (fun h => absurd h owned_none) .inr)) (fun h => (hs.ownOrig k h).elim (fun h => absurd h owned_none) .inr)) hs.os hs.tape hs.output
    exact ⟨I2, h1, h2, hvw⟩

/-- **A call that looks at owned blocks and hands back nothing of them.** -/
theorem cab_ok {ce : CE} (hce : CallOk P ce) {σ : List Blk} {f : Nat} {args vs' : List AV} {v0 x : AV} {σ' : List Blk} (h1 : mapO (view σ false vd) args = some vs') (h2 : ce f vs' [] = some (v0, σ')) (h3 : viewT σ' true v0 = some x)
    {C : Ctx} {w : World} (hg : Good C w) (hup : ∀ b u B, upto σ b u = some B → ∃ id, C.own b u = some (B, id)) {vs : List Value} (hv : VRL C w.heap args vs) :
    Calls P f vs.toArray w fun e w' => ∃ v, e = .returned v ∧ PostP C w x v w' := by
  let I0 : Nat → Prop := fun k => C.I k ∨ owned C k
  have hg0 : Good (ctxOf [] (fun _ => 0) I0) w :=
    ⟨fun k hk => hk.elim (hg.I k) hg.lt, fun b u B id h => by simp [ctxOf, blk] at h, fun b u B id h => by simp [ctxOf, blk] at h, fun b u B id b' u' B' id' h => by simp [ctxOf, blk] at h⟩
  have hv0 : VRL (ctxOf [] (fun _ => 0) I0) w.heap vs' vs :=
    (view_list (fun x y v hx hv => view_VR (C2 := ctxOf [] (fun _ => 0) I0) hup hg (fr := false) ⟨fun _ k hk => .inl hk, fun k hk => .inr hk⟩ vd x y v hx hv) h1 hv).2
  refine (hce f vs' [] v0 σ' h2 (fun _ => 0) I0 w vs hg0 hv0).mono ?_
  rintro e w' ⟨v, ids', I', rfl, hg1, hr, hs⟩
  refine ⟨v, rfl, ?_⟩
  let I2 : Nat → Prop := fun k => C.I k ∨ owned (ctxOf σ' ids' I') k
  have hvw := viewT_VR (C2 := { C with I := I2 }) (fun b u B hb => ⟨_, upto_own ids' I' hb⟩) hg1 (fr := true) ⟨fun h => by simp at h, fun k hk => .inr hk⟩ h3 hr
  obtain ⟨g1, g2⟩ := hg.growI hs.size (fun k hk => hs.frame k hk owned_none) I2 (fun k hk => .inl hk) (fun k hk => hk.elim (fun h => Nat.lt_of_lt_of_le (hg.I k h) hs.size) hg1.lt)
    (fun k hk => hk.elim .inl (fun h => (hs.ownOrig k h).elim (fun h => absurd h owned_none) .inr)) hs.os hs.tape hs.output
  exact ⟨I2, g1, g2, hvw⟩

section
variable {a : Act} {r : Rf → AV} {w : World} {C : Ctx} {R : Operand → Rf → Bool} {ce : CE} {σ : List Blk} {nl : Nat} {ps : List Pend}

theorem Plain.does {o : Oper} {x : AV} (hg : Good C w) (h : Plain P a.eval o w C w.heap x) : Does P o a w (PostP C w x) := by
  obtain ⟨v, h1, h2⟩ := h
  exact Does.val h1 (PostP.same hg h2)

theorem bodied_run {f : Nat} (h : bodied P f = true) (args : Array Value) (w : World) : (callFunc f args).run P w = .ok (.enter f args) w := by
  unfold bodied at h
  cases hf : P.funcs[f]? with
  | none => simp [hf] at h
  | some fn =>
    simp [hf] at h
    simp only [callFunc, Sem.run_bind, program, Sem.run, Result.andThen_ok, hf]
    rw [if_neg (by simpa using h.2)]
    cases hb : fn.body with
    | none => simp [hb] at h
    | some b => simp

theorem call_static {o : Oper} {ca : Call} {f : Nat} (ho : o.op = .call ca) (hc : ca.callee = .value (.func f)) (hb : bodied P f = true) (w : World) :
    (execOp a.eval o).run P w = .ok (.enter f (ca.args.toList.map a.eval).toArray) w := by
  have : ca.args.map a.eval = (ca.args.toList.map a.eval).toArray := by rw [← Array.toList_inj]; simp
  simp only [execOp, ho, resolve, hc, Sem.run_bind, Act.eval, Deferred.ofValue, Sem.run_pure, Result.andThen_ok, invoke]
  simp only [Array.append_empty, Array.empty_append]
  rw [show Array.map a.eval ca.args = (ca.args.toList.map a.eval).toArray from this]
  exact bodied_run hb _ w

theorem dp_cal {o : Oper} {ca : Call} {f : Nat} {ys : List Rf} {x : AV} {p : Option Pend} (hce : CallOk P ce) (ho : o.op = .call ca) (hc : ca.callee = .value (.func f)) (hb : bodied P f = true) (hg : Good C w)
    (hx : VRL C w.heap (ys.map r) (ca.args.toList.map a.eval)) (he : ev ce σ nl ps r (.cal f ys) = some (x, p)) : Does P o a w (PostP C w x) ∧ p = none := by
  simp only [ev] at he
  cases hp : pcl ce f (ys.map r) with
  | none => simp [hp] at he
  | some x' =>
    simp [hp] at he; obtain ⟨rfl, rfl⟩ := he
    exact ⟨Does.call (call_static ho hc hb w) (pcl_ok hce hp hg hx), rfl⟩

theorem dp_cab {o : Oper} {ca : Call} {f : Nat} {ys : List Rf} {x : AV} {p : Option Pend} (hce : CallOk P ce) (ho : o.op = .call ca) (hc : ca.callee = .value (.func f)) (hb : bodied P f = true) (hg : Good C w)
    (hup : ∀ b u B, upto σ b u = some B → ∃ id, C.own b u = some (B, id))
    (hx : VRL C w.heap (ys.map r) (ca.args.toList.map a.eval)) (he : ev ce σ nl ps r (.cab f ys) = some (x, p)) : Does P o a w (PostP C w x) ∧ p = none := by
  simp only [ev] at he
  cases h1 : mapO (fun x => view σ false vd (r x)) ys with
  | none => simp [h1] at he
  | some vs' =>
    simp only [h1] at he
    cases h2 : ce f vs' [] with
    | none => simp [h2] at he
    | some q =>
      obtain ⟨v0, σ'⟩ := q
      simp only [h2] at he
      cases h3 : viewT σ' true v0 with
      | none => simp [h3] at he
      | some x' =>
        simp [h3] at he; obtain ⟨rfl, rfl⟩ := he
        have h1' : mapO (view σ false vd) (ys.map r) = some vs' := by
          rw [← h1]
          clear h1 h2 hx
          induction ys with
          | nil => rfl
          | cons y ys ih => simp only [List.map_cons, mapO, ih]
        exact ⟨Does.call (call_static ho hc hb w) (cab_ok hce h1' h2 h3 hg hup hx), rfl⟩

/-- The body is there where the interpreter's callee is. -/
def HasBody (P : Program) (ce : CE) : Prop := ∀ f args σ r, ce f args σ = some r → bodied P f = true

theorem call_dyn {o : Oper} {ca : Call} {f : Nat} {x : Operand} {vs : List Value} (ho : o.op = .call ca) (hc : ca.callee = .value x) (hx : a.eval x = .func (.func f) #[] vs.toArray) (hb : bodied P f = true) (w : World) :
    (execOp a.eval o).run P w = .ok (.enter f (ca.args.toList.map a.eval ++ vs).toArray) w := by
  have : Array.map a.eval ca.args ++ vs.toArray = (ca.args.toList.map a.eval ++ vs).toArray := by rw [← Array.toList_inj]; simp
  simp only [execOp, ho, resolve, hc, Sem.run_bind, hx, Deferred.ofValue, Sem.run_pure, Result.andThen_ok, invoke]
  simp only [Array.empty_append]
  rw [this]
  exact bodied_run hb _ w

theorem dp_cald {o : Oper} {ca : Call} {x0 : Operand} {y : Rf} {ys : List Rf} {x : AV} {p : Option Pend} (hce : CallOk P ce) (hbd : HasBody P ce) (ho : o.op = .call ca) (hc : ca.callee = .value x0) (hg : Good C w)
    (h0 : VR C w.heap (r y) (a.eval x0)) (hx : VRL C w.heap (ys.map r) (ca.args.toList.map a.eval)) (he : ev ce σ nl ps r (.cald y ys) = some (x, p)) : Does P o a w (PostP C w x) ∧ p = none := by
  simp only [ev] at he
  cases hy : r y <;> simp only [hy] at he <;> try (simp at he; done)
  rename_i f caps
  cases hp : pcl ce f (ys.map r ++ caps) with
  | none => simp [hp] at he
  | some x' =>
    simp [hp] at he; obtain ⟨rfl, rfl⟩ := he
    rw [hy] at h0
    unfold VR at h0
    obtain ⟨vs, e, hl⟩ := h0
    have hb : bodied P f = true := by
      unfold pcl at hp
      split at hp <;> try (simp at hp; done)
      cases hc' : ce f ((ys.map r ++ caps).map wk) [] with
      | none => simp only [hc'] at hp; simp at hp
      | some q => exact hbd _ _ _ _ hc'
    exact ⟨Does.call (call_dyn ho hc e hb w) (pcl_ok hce hp hg (hx.append hl)), rfl⟩

theorem tbl_row {m : String} : ∀ {tbl : List (Nat × Nat)} {t f : Nat}, tblIs P m tbl = true → lookT tbl t = some f → ∀ (w : World) (v : Value), (method (P.types.size + Made.depth) t v m).run P w = .ok (f, v) w
  | [], t, f, _, h => by simp [lookT] at h
  | (t', f') :: rest, t, f, ht, h => by
    simp only [tblIs, Bool.and_eq_true] at ht
    simp only [lookT] at h
    by_cases e : t' = t
    · subst e
      simp at h; subst h
      intro w v
      obtain ⟨n, hn⟩ : ∃ n, P.types.size + Made.depth = n + 1 := ⟨P.types.size + Made.depth - 1, by have : 0 < Made.depth := by decide
                                                                                                    omega⟩
      rw [hn]
      have h1 := ht.1
      cases hi : P.info? t' with
      | none => simp [hi] at h1
      | some i =>
        simp only [hi] at h1
        cases hm : i.methods.find? (fun x => x.name == m) with
        | none => simp [hm] at h1
        | some x =>
          simp only [hm, Bool.and_eq_true] at h1
          obtain ⟨hp, h1⟩ := h1
          have hpe : x.path = #[] := by simpa using hp
          cases hf : x.func with
          | none => simp [hf] at h1
          | some gp =>
            obtain ⟨g, ptr⟩ := gp
            simp only [hf, Bool.and_eq_true, beq_iff_eq] at h1
            obtain ⟨rfl, h1⟩ := h1
            cases hu : P.underlying t' with
            | none => simp [hu] at h1
            | some d =>
              simp only [hu] at h1
              have hr : (receiverAt t' (.val v) ptr (if x.path.isEmpty then some ((m.splitOn ".").getLastD m) else none)).run P w = .ok v w := by
                unfold receiverAt
                simp only [Sem.run_bind, run_underlying hu, Result.andThen_ok]
                cases d <;> cases ptr <;> simp_all [Place.get]
              simp only [method, Sem.run_bind, run_typeInfo w hi, Result.andThen_ok, hm, hpe, follow, Sem.run_pure, hf]
              rw [hpe] at hr
              simp only [hr, Result.andThen_ok, Sem.run_pure]
    · have e' : (t' == t) = false := by simpa using e
      simp only [e', Bool.false_eq_true, if_false] at h
      exact tbl_row ht.2 h

theorem call_inv {o : Oper} {ca : Call} {x0 : Operand} {m : String} {tbl : List (Nat × Nat)} {t f : Nat} {v : Value} (ho : o.op = .call ca) (hc : ca.callee = .invoke x0 m) (hx : a.eval x0 = .iface t v)
    (ht : tblIs P m tbl = true) (hl : lookT tbl t = some f) (hb : bodied P f = true) (w : World) :
    (execOp a.eval o).run P w = .ok (.enter f (v :: ca.args.toList.map a.eval).toArray) w := by
  have hm := tbl_row ht hl w v
  have h1 : (#[Value.iface t v] ++ Array.map a.eval ca.args)[0]? = some (.iface t v) := by rw [Array.getElem?_append_left (by show 0 < 1; omega)]; rfl
  have h2 : (#[Value.iface t v] ++ Array.map a.eval ca.args).extract 1 (#[Value.iface t v] ++ Array.map a.eval ca.args).size = Array.map a.eval ca.args := by
    rw [← Array.toList_inj]; simp; rw [List.take_of_length_le (by simp)]
  have h3 : #[v] ++ Array.map a.eval ca.args = (v :: ca.args.toList.map a.eval).toArray := by rw [← Array.toList_inj]; simp
  simp only [execOp, ho, resolve, hc, Sem.run_bind, Sem.run_pure, Result.andThen_ok, invoke, hx, h1, h2, callMethod, program, Sem.run, hm]
  rw [h3]
  exact bodied_run hb _ w

theorem dp_inv {o : Oper} {ca : Call} {x0 : Operand} {m : String} {tbl : List (Nat × Nat)} {y : Rf} {ys : List Rf} {x : AV} {p : Option Pend} (hce : CallOk P ce) (hbd : HasBody P ce) (ho : o.op = .call ca) (hc : ca.callee = .invoke x0 m) (ht : tblIs P m tbl = true) (hg : Good C w)
    (h0 : VR C w.heap (r y) (a.eval x0)) (hx : VRL C w.heap (ys.map r) (ca.args.toList.map a.eval)) (he : ev ce σ nl ps r (.inv y tbl ys) = some (x, p)) : Does P o a w (PostP C w x) ∧ p = none := by
  simp only [ev] at he
  cases hy : r y <;> simp only [hy] at he <;> try (simp at he; done)
  rename_i t q
  cases hl : lookT tbl t with
  | none => simp [hl] at he
  | some f =>
    simp only [hl] at he
    cases hp : pcl ce f (q :: ys.map r) with
    | none => simp [hp] at he
    | some x' =>
      simp [hp] at he; obtain ⟨rfl, rfl⟩ := he
      rw [hy] at h0
      unfold VR at h0
      obtain ⟨v, e, hq⟩ := h0
      have hb : bodied P f = true := by
        unfold pcl at hp
        split at hp <;> try (simp at hp; done)
        cases hc' : ce f ((q :: ys.map r).map wk) [] with
        | none => simp only [hc'] at hp; simp at hp
        | some q => exact hbd _ _ _ _ hc'
      exact ⟨Does.call (call_inv ho hc e ht hl hb w) (pcl_ok hce hp hg ⟨v, _, rfl, hq, hx⟩), rfl⟩

/-- A value laid into a new block that nobody will write. -/
theorem new_imm {x : AV} {v : Value} (hg : Good C w) (hn : noLoc x = true) (hv : VR C w.heap x v) (t : TypeId) : PostP C w (.pimm x) (.pointer (some ⟨w.heap.size, 0, none⟩)) (pushW w (.cells v.cells t)) := by
  obtain ⟨h1, h2⟩ := push_imm hg v.cells t
  refine ⟨_, h1, h2, ?_⟩
  unfold VR
  exact ⟨hn, w.heap.size, 0, v.cells, t, (0, 0), v, rfl, .inr rfl, push_new w _, VR.mono h2.ev _ _ hv, fun j hj => by simp⟩

theorem dp_bxi {o : Oper} {t : TypeId} {x0 : Operand} {y : Rf} {x : AV} {p : Option Pend} (ho : o.op = .box t x0) (hg : Good C w) (h0 : VR C w.heap (r y) (a.eval x0)) (he : ev ce σ nl ps r (.bxi y) = some (x, p)) :
    Does P o a w (PostP C w x) ∧ p = none := by
  simp only [ev] at he
  split at he <;> simp at he
  rename_i hn
  obtain ⟨rfl, rfl⟩ := he
  refine ⟨Does.val (v := .pointer (some ⟨w.heap.size, 0, none⟩)) (w' := pushW w (.cells (a.eval x0).cells t)) ?_ (new_imm hg hn h0 t), rfl⟩
  simp only [execOp, ho, Instr.box, Sem.run_bind, run_newVar, Result.andThen_ok, Sem.run_pure]
end
end Ab
