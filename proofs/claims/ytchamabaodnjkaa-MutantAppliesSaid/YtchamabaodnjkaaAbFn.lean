/- Functions do what the interpreter says. Condition: the check of each function. -/
import Derived.Test.YtchamabaodnjkaaAbExec
set_option linter.all false
namespace Ab
open Go
variable {P : Program}

def okRes (P : Program) (sl : List Nat) : List ResultVar → List (Nat × Option (Option Nat)) → Bool
  | [], [] => true
  | .tmp t :: r, (k, none) :: s => sl[k]? == some t && okRes P sl r s
  | .cell a ty :: r, (k, some kd) :: s => sl[k]? == some a && kindIs P ty kd && okRes P sl r s
  | _, _ => false

/-- A function of the program is this small text. -/
def okFn (P : Program) (f : Nat) (fn : Fn) (sl : List Nat) : Bool :=
  match P.funcs[f]? with
  | some pf => bodied P f && (match pf.body with
    | some c => okC P sl pf.ntmps fn.body c && okRes P sl pf.results.toList fn.res && decide (fn.np ≤ pf.ntmps) && (List.range sl.length).all fun k => decide (fn.np ≤ k) || sl[k]? == some k
    | none => false)
  | none => false

/-- A function that is known by what it answers. -/
def PrimOkV (P : Program) (f : Nat) (p : CE → List AV → Option AV) : Prop :=
  bodied P f = true ∧ ∀ ce, CallOk P ce → HasBody P ce → ∀ args x, p ce args = some x → ∀ (C : Ctx) (w : World) (vs : List Value), Good C w → VRL C w.heap args vs → Calls P f vs.toArray w fun e w' => ∃ v, e = .returned v ∧ PostP C w x v w'

/-- The same of one that may turn blocks. -/
def PrimOk (P : Program) (f : Nat) (p : CE → List AV → List Blk → Option (AV × List Blk)) : Prop :=
  bodied P f = true ∧ ∀ ce, CallOk P ce → HasBody P ce → ∀ args σ r σ', p ce args σ = some (r, σ') → ∀ (ids : Nat → Nat) (I : Nat → Prop) (w : World) (vs : List Value), Good (ctxOf σ ids I) w → VRL (ctxOf σ ids I) w.heap args vs →
    Calls P f vs.toArray w fun e w' => ∃ v ids' I', e = .returned v ∧ Good (ctxOf σ' ids' I') w' ∧ VR (ctxOf σ' ids' I') w'.heap r v ∧ Step (ctxOf σ ids I) w (ctxOf σ' ids' I') w'
theorem vPrim_ok {f : Nat} {p : CE → List AV → Option AV} (h : PrimOkV P f p) : PrimOk P f (vPrim p) := by
  refine ⟨h.1, fun ce h1 h2 args σ r σ' hp ids I w vs hg hv => ?_⟩
  simp only [vPrim, Option.map_eq_some_iff, Prod.mk.injEq] at hp
  obtain ⟨v, hp, rfl, rfl⟩ := hp
  refine (h.2 ce h1 h2 args v hp (ctxOf σ ids I) w vs hg hv).mono ?_
  rintro e w' ⟨v', rfl, I', h1, h2, h3⟩
  exact ⟨v', ids, I', rfl, h1, h3, h2⟩

theorem next_ok {s : Sem Value} {w : World} {v : Value} (h : (do let x ← s; pure (Next.value x) : Sem Next).run P w = .ok (.value v) w) : s.run P w = .ok v w := by
  simp only [Sem.run_bind] at h
  cases hs : s.run P w with
  | ok a w' => rw [hs] at h; simp [Result.andThen] at h; obtain ⟨rfl, rfl⟩ := h; rfl
  | halt x w' => rw [hs] at h; simp [Result.andThen] at h

theorem res_cell {C : Ctx} {w : World} {σ : List Blk} {x y : AV} {p : Option Pend} {kd : Option Nat} {ty : TypeId} {v : Value} (hk : kindIs P ty kd = true) (hg : Good C w) (hup : ∀ b u B, upto σ b u = some B → ∃ id, C.own b u = some (B, id)) (hx : VR C w.heap x v)
    (he : ev (fun _ _ _ => none) σ 0 [] (fun _ => x) (.ld (.v 0) kd) = some (y, p)) : ∃ z, (do loadVar ty (← asAddr v) : Sem Value).run P w = .ok z w ∧ VR C w.heap y z := by
  obtain ⟨⟨z, h1, h2⟩, _⟩ := pl_ld (P := P) (ρ := fun _ => v) (o := ⟨none, .load ty (.tmp 0), 0, "", #[], none⟩) (w := w) (C := C) rfl hk hg hup hx he
  have h3 := next_ok (s := Instr.loadAt ty v) h1
  refine ⟨z, ?_, h2⟩
  have hp : ∃ a, v = .pointer (some a) := by
    simp only [ev] at he
    cases x <;> try (simp at he; done)
    · unfold VR at hx; obtain ⟨_, blk, off, _, _, _, _, e, _⟩ := hx; exact ⟨_, e⟩
    · unfold VR at hx; obtain ⟨⟨blk, e⟩, _⟩ := hx; exact ⟨_, e⟩
  obtain ⟨a, rfl⟩ := hp
  rw [← h3]
  simp only [Instr.loadAt, Instr.sureAddr, asAddr, Sem.run_bind, Sem.run_pure, Result.andThen_ok]

def resRun (tmps : Array Value) : ResultVar → Sem Value
  | .tmp t => pure (tmps.getD t undef)
  | .cell a t => do loadVar t (← asAddr (tmps.getD a undef))
theorem results_eq (pf : Func) (tmps : Array Value) : Go.results pf tmps = (do
    let vs ← pf.results.mapM (resRun tmps)
    pure (if h : vs.size = 1 then vs[0] else .tuple vs)) := by
  unfold Go.results
  congr 2

theorem res_list {sl : List Nat} {nt : Nat} {ds : List Deferred} {s : St} {ids : Nat → Nat} {I : Nat → Prop} {a : Act} {w : World} (h : Rel sl nt ds s (ctxOf s.σ ids I) a w) :
    ∀ (rs : List ResultVar) (qs : List (Nat × Option (Option Nat))) (xs : List AV), okRes P sl rs qs = true → mapO (resOf s) qs = some xs →
      ∃ vs, (rs.mapM (resRun a.tmps)).run P w = .ok vs w ∧ VRL (ctxOf s.σ ids I) w.heap xs vs
  | [], [], xs, _, hm => by
    simp [mapO] at hm; subst hm
    exact ⟨[], by simp, rfl⟩
  | .tmp t :: rs, (k, none) :: qs, xs, hok, hm => by
    simp only [okRes, Bool.and_eq_true, beq_iff_eq] at hok
    simp only [mapO, resOf] at hm
    cases hr : mapO (resOf s) qs with
    | none => simp [hr] at hm
    | some ys =>
      simp [hr] at hm; subst hm
      obtain ⟨vs, h1, h2⟩ := res_list h rs qs ys hok.2 hr
      exact ⟨_ :: vs, by simp [List.mapM_cons, resRun, h1], _, _, rfl, h.vars k t hok.1, h2⟩
  | .cell q ty :: rs, (k, some kd) :: qs, xs, hok, hm => by
    simp only [okRes, Bool.and_eq_true, beq_iff_eq] at hok
    simp only [mapO, resOf] at hm
    cases he : ev (fun _ _ _ => none) s.σ 0 [] (fun _ => nth s.vars k) (.ld (.v 0) kd) with
    | none => simp [he] at hm
    | some yp =>
      obtain ⟨y, p⟩ := yp
      simp only [he] at hm
      cases hr : mapO (resOf s) qs with
      | none => simp [hr] at hm
      | some ys =>
        simp [hr] at hm; subst hm
        obtain ⟨vs, h1, h2⟩ := res_list h rs qs ys hok.2 hr
        obtain ⟨z, g1, g2⟩ := res_cell hok.1.2 h.good (fun b u B hu => ⟨_, upto_own ids I hu⟩) (h.vars k q hok.1.1) he
        refine ⟨z :: vs, ?_, _, _, rfl, g2, h2⟩
        rw [List.mapM_cons, Sem.run_bind, show (resRun a.tmps (.cell q ty)).run P w = .ok z w from g1]
        simp [h1]
  | [], _ :: _, _, hok, _ => by simp [okRes] at hok
  | .tmp _ :: _, [], _, hok, _ => by simp [okRes] at hok
  | .cell .. :: _, [], _, hok, _ => by simp [okRes] at hok
  | .tmp _ :: _, (_, some _) :: _, _, hok, _ => by simp [okRes] at hok
  | .cell .. :: _, (_, none) :: _, _, hok, _ => by simp [okRes] at hok

theorem callN_ok {G : Nat → Option Fn} {Q : Prims} {n : Nat} (hm : P.follows .mixedOrders = true) (hG : ∀ f fn, G f = some fn → ∃ sl, okFn P f fn sl = true) (hQ : ∀ f p, Q f = some p → PrimOk P f p) : ∀ d, CallOk P (callN G Q n d) ∧ HasBody P (callN G Q n d)
  | 0 => ⟨fun f args σ r σ' h => by simp [callN] at h, fun f args σ r h => by simp [callN] at h⟩
  | d + 1 => by
    obtain ⟨ih1, ih2⟩ := callN_ok (n := n) hm hG hQ d
    refine ⟨fun f args σ r σ' h ids I w vs hg hv => ?_, fun f args σ r h => ?_⟩
    · simp only [callN] at h
      cases hq : Q f with
      | some p =>
        simp only [hq] at h
        exact (hQ f p hq).2 _ ih1 ih2 args σ r σ' h ids I w vs hg hv
      | none =>
        simp only [hq] at h
        cases hgf : G f with
        | none => simp [hgf] at h
        | some fn =>
          simp only [hgf] at h
          split at h
          case isFalse => simp at h
          rename_i hlen
          simp only [beq_iff_eq] at hlen
          cases he : exec n (callN G Q n d) fn.body { vars := args ++ List.replicate (fn.nv - fn.np) .und, fl := none, σ } with
          | none => simp [he] at h
          | some es =>
            obtain ⟨e, s⟩ := es
            simp only [he] at h
            obtain ⟨sl, hok⟩ := hG f fn hgf
            unfold okFn at hok
            cases hpf : P.funcs[f]? with
            | none => simp [hpf] at hok
            | some pf =>
              simp only [hpf, Bool.and_eq_true] at hok
              obtain ⟨_, hok⟩ := hok
              cases hbody : pf.body with
              | none => simp [hbody] at hok
              | some c =>
                simp only [hbody, Bool.and_eq_true, decide_eq_true_eq, List.all_eq_true, List.mem_range, Bool.or_eq_true, beq_iff_eq] at hok
                obtain ⟨⟨⟨o1, o2⟩, o3⟩, o4⟩ := hok
                have hvl : vs.length = fn.np := (VRL.length hv).trans hlen
                have hrel : Rel sl pf.ntmps [] { vars := args ++ List.replicate (fn.nv - fn.np) .und, fl := none, σ } (ctxOf σ ids I) { tmps := vs.toArray ++ Array.replicate (pf.ntmps - vs.toArray.size) undef, defers := [] } w := by
                  refine ⟨hg, by simp; omega, rfl, fun k t hk => ?_, fun _ _ q => by simp at q⟩
                  have hkl : k < sl.length := (List.getElem?_eq_some_iff.1 hk).1
                  rcases o4 k hkl with hge | heq
                  · have : nth (args ++ List.replicate (fn.nv - fn.np) .und) k = .und := by
                      rw [nth_eq, List.getElem?_append_right (by omega), List.getElem?_replicate]
                      split <;> rfl
                    rw [this]; unfold VR; trivial
                  · by_cases hkn : k < fn.np
                    · rw [heq] at hk; simp at hk; subst hk
                      have hka : k < args.length := by omega
                      obtain ⟨v, k1, k2⟩ := hv.get k _ (List.getElem?_eq_getElem hka)
                      have e1 : nth (args ++ List.replicate (fn.nv - fn.np) .und) k = args[k] := by
                        rw [nth_eq, List.getElem?_append_left hka, List.getElem?_eq_getElem hka]; rfl
                      have e2 : (vs.toArray ++ Array.replicate (pf.ntmps - vs.toArray.size) undef).getD k undef = v := by
                        rw [Array.getD_eq_getD_getElem?, Array.getElem?_append_left (by simp; omega), List.getElem?_toArray, k1]; rfl
                      rw [e1]
                      show VR _ _ _ ((vs.toArray ++ Array.replicate (pf.ntmps - vs.toArray.size) undef).getD k undef)
                      rw [e2]; exact k2
                    · have : nth (args ++ List.replicate (fn.nv - fn.np) .und) k = .und := by
                        rw [nth_eq, List.getElem?_append_right (by omega), List.getElem?_replicate]
                        split <;> rfl
                      rw [this]; unfold VR; trivial
                have hre : results fn s = some r ∧ s.σ = σ' ∧ ∀ j, e ≠ .exit j := by
                  cases e with
                  | exit j => simp at h
                  | nor =>
                    simp only [Option.map_eq_some_iff, Prod.mk.injEq] at h
                    obtain ⟨q, h1, rfl, h2⟩ := h
                    exact ⟨h1, h2, fun j q => by simp at q⟩
                  | ret =>
                    simp only [Option.map_eq_some_iff, Prod.mk.injEq] at h
                    obtain ⟨q, h1, rfl, h2⟩ := h
                    exact ⟨h1, h2, fun j q => by simp at q⟩
                obtain ⟨hr, rfl, hne⟩ := hre
                refine calls_of_wp hpf hbody (exec_wp (sl := sl) (nt := pf.ntmps) (ds := []) hm ih1 ih2 fn.body c _ e s ids I _ w _ o1 he hrel fun ids' I' a' w' h' st' => ?_)
                have key : a'.defers = [] ∧ ∃ v, (Go.results pf a'.tmps).run P w' = .ok v w' ∧ ∃ v1 ids' I', Ending.returned v = .returned v1 ∧ Good (ctxOf s.σ ids' I') w' ∧ VR (ctxOf s.σ ids' I') w'.heap r v1 ∧ Step (ctxOf σ ids I) w (ctxOf s.σ ids' I') w' := by
                  refine ⟨h'.defers, ?_⟩
                  unfold results at hr
                  cases hxs : mapO (resOf s) fn.res with
                  | none => simp [hxs] at hr
                  | some xs =>
                    obtain ⟨zs, g1, g2⟩ := res_list h' pf.results.toList fn.res xs o2 hxs
                    refine ⟨if hz : zs.toArray.size = 1 then zs.toArray[0] else .tuple zs.toArray, ?_, _, ids', I', rfl, h'.good, ?_, st'⟩
                    · rw [results_eq, Sem.run_bind, Array.mapM_eq_mapM_toList, Sem.run_map, g1]
                      rfl
                    · simp only [hxs] at hr
                      have hl := VRL.length g2
                      have many : ∀ l, xs = l → l.length ≠ 1 → r = .tup l → VR (ctxOf s.σ ids' I') w'.heap r (if hz : zs.toArray.size = 1 then zs.toArray[0] else .tuple zs.toArray) := fun l e1 e2 e3 => by
                        subst e1; subst e3
                        rw [dif_neg (by simp; omega)]
                        unfold VR
                        exact ⟨zs, rfl, g2⟩
                      cases xs with
                      | nil => exact many [] rfl (by simp) (by simpa using hr.symm)
                      | cons x t =>
                        cases t with
                        | nil =>
                          simp at hr; subst hr
                          obtain ⟨v, t, e1, e2, e3⟩ := g2
                          have e3 : t = [] := e3
                          subst e3; subst e1
                          simpa using e2
                        | cons y t => exact many (x :: y :: t) rfl (by simp) (by simpa using hr.symm)
                cases e with
                | exit j => exact absurd rfl (hne j)
                | nor => exact key
                | ret => exact key
    · simp only [callN] at h
      cases hq : Q f with
      | some p => exact (hQ f p hq).1
      | none =>
        simp only [hq] at h
        cases hgf : G f with
        | none => simp [hgf] at h
        | some fn =>
          obtain ⟨sl, hok⟩ := hG f fn hgf
          unfold okFn at hok
          cases hpf : P.funcs[f]? with
          | none => simp [hpf] at hok
          | some pf =>
            simp only [hpf, Bool.and_eq_true] at hok
            exact hok.1
end Ab
