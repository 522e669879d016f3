/- slices.Clone at lists of lists: the copy is a new block. Condition: the function's small text. -/
import Derived.Test.YtbpkebkldaifgaaAbClone
import Derived.Test.YtbpkebkldaifgaaAbSortD
set_option linter.all false
namespace Ab
open Go
variable {P : Program}
theorem one_cells0 {l : List AV} (h : l.all isOne = true) : (l.map wk1).flatMap AV.cells = l.map wk1 ∧ fitAll 1 (l.map wk1) = true := by
  induction l with
  | nil => exact ⟨rfl, rfl⟩
  | cons x r ih =>
    simp only [List.all_cons, Bool.and_eq_true] at h
    obtain ⟨h1, h2⟩ := ih h.2
    simp only [List.map_cons, List.flatMap_cons, h1, fitAll, h2, Bool.and_true]
    cases x <;> simp_all [isOne, wk1, AV.cells, notUnd]
theorem VRI.wk1 {C : Ctx} {H : Array Obj} {c : Array Value} {st : Nat} : ∀ {l : List AV} {off : Nat}, VRI C H c st l off → VRI C H c st (l.map Ab.wk1) off
  | [], _, _ => trivial
  | x :: r, off, ⟨⟨v, h1, h2⟩, h3⟩ => ⟨⟨v, h1.wk1, h2⟩, VRI.wk1 h3⟩
theorem cloneS_evW {σ : List Blk} {y : AV} {r : List AV} (hfit : fitAll 1 (y :: r) = true) (hc : (y :: r).flatMap AV.cells = y :: r) (hb : (y :: r).length ≤ big) :
    evW (fun _ _ _ => none) σ (rv [.imm true (y :: r), .und] [.imm true (y :: r), .arr []]) (.appw (.t 1) (.t 0) none) = some (.sl σ.length (y :: r).length 0 (y :: r).length, σ ++ [⟨none, y :: r, .live⟩]) := by
  have h1 : srcCells σ none (.imm true (y :: r)) = some ((y :: r).length, y :: r) := by
    simp only [srcCells, kst]; rw [if_pos hfit, hc]
  have e : evW (fun _ _ _ => none) σ (rv [.imm true (y :: r), .und] [.imm true (y :: r), .arr []]) (.appw (.t 1) (.t 0) none) =
      (match srcCells σ none (.imm true (y :: r)) with
        | none => none
        | some (n, cs) => if n == 0 then some (if noLocs ([] : List AV) then .imm true [] else .arr [], σ) else if fitAll (kst none) [] && decide (([] : List AV).length + n ≤ big) then some (.sl σ.length (([] : List AV).flatMap AV.cells ++ cs).length 0 (([] : List AV).length + n), σ ++ [⟨none, ([] : List AV).flatMap AV.cells ++ cs, .live⟩]) else none) := rfl
  have hb' : (([] : List AV).length + (y :: r).length : Nat) ≤ big := by rw [List.length_nil, Nat.zero_add]; exact hb
  rw [e, h1]
  show (if (r.length + 1 == 0) = true then _ else _) = _
  rw [if_neg (by simp), if_pos (by simp only [fitAll, Bool.true_and, decide_eq_true_eq]; exact hb')]
  simp
theorem cloneS_some {t : Nat} {σ : List Blk} {y : AV} {r : List AV} (hfit : fitAll 1 (y :: r) = true) (hc : (y :: r).flatMap AV.cells = y :: r) (hb : (y :: r).length ≤ big) :
    exec 9 (fun _ _ _ => none) (cloneFn t).body ⟨[.imm true (y :: r), .und], none, σ⟩ = some (.ret, ⟨[.und, .sl σ.length (y :: r).length 0 (y :: r).length], none, σ ++ [⟨none, y :: r, .live⟩]⟩) := by
  have hev := cloneS_evW (σ := σ) hfit hc hb
  simp only [cloneFn, exec, runReg, lines, line1, want, ev, IOp.isW, IOp.isE, ↓reduceIte, Bool.false_eq_true, rv, nth, beq_self_eq_true, fitAll, List.map_nil]
  simp only [kills, outs, setN, nth, ↓reduceIte, Bool.false_eq_true, beq_self_eq_true, hev]
theorem cloneS_nil (t : Nat) (σ : List Blk) : exec 9 (fun _ _ _ => none) (cloneFn t).body ⟨[.snil, .und], none, σ⟩ = some (.ret, ⟨[.und, .snil], none, σ⟩) := by
  simp [cloneFn, exec, runReg, lines, line1, want, ev, IOp.isW, IOp.isE, rv, nth, kills, outs, setN]
theorem cloneS_emp (t : Nat) (σ : List Blk) : exec 9 (fun _ _ _ => none) (cloneFn t).body ⟨[.imm true [], .und], none, σ⟩ = some (.ret, ⟨[.und, .imm true []], none, σ⟩) := by
  simp [cloneFn, exec, runReg, lines, line1, want, ev, evW, IOp.isW, IOp.isE, rv, nth, kills, outs, setN, srcCells, fitAll, noLocs]
theorem cloneS_call (f t : Nat) (σ : List Blk) : ∀ x s r, exec 9 (fun _ _ _ => none) (cloneFn t).body ⟨[x, .und], none, σ⟩ = some (.ret, s) → Ab.results (cloneFn t) s = some r →
      callN (fun g => if g = f then some (cloneFn t) else none) (fun _ => none) 9 1 f [x] σ = some (r, s.σ) := fun x s r h1 h3 => by
    have h0 : callN (fun g => if g = f then some (cloneFn t) else none) (fun _ => none) 9 0 = fun _ _ _ => none := rfl
    unfold callN
    rw [h0]
    simp only [if_true]
    rw [show ({ vars := [x] ++ List.replicate ((cloneFn t).nv - (cloneFn t).np) .und, fl := none, σ := σ } : St) = ⟨[x, .und], none, σ⟩ from rfl]
    rw [h1, if_pos (show ([x].length == (cloneFn t).np) = true from rfl)]
    simp only [h3, Option.map_some]
/-- **slices.Clone, the copy owned.** -/
theorem cloneS_ok {f t : Nat} {sl : List Nat} (hm : P.follows .mixedOrders = true) (hok : okFn P f (cloneFn t) sl = true) : PrimOk P f pCloneS := by
  have hb : bodied P f = true := by
    unfold okFn at hok
    cases hf : P.funcs[f]? with
    | none => simp [hf] at hok
    | some pf => simp only [hf, Bool.and_eq_true] at hok; exact hok.1
  refine ⟨hb, fun ce _ _ args σ r σ' hp ids I w vs hg hv => ?_⟩
  have hce : CallOk P (callN (fun g => if g = f then some (cloneFn t) else none) (fun _ => none) 9 1) :=
    (callN_ok hm (fun g fn h => by
      by_cases e : g = f
      · subst e; simp at h; subst h; exact ⟨sl, hok⟩
      · simp [e] at h) (fun _ _ h => by simp at h) 1).1
  have hnil : ∀ v, v = .slice none 0 0 → Calls P f [v].toArray w fun e w' => ∃ v ids' I', e = .returned v ∧ Good (ctxOf σ ids' I') w' ∧ VR (ctxOf σ ids' I') w'.heap (.imm false []) v ∧ Step (ctxOf σ ids I) w (ctxOf σ ids' I') w' := fun v e => by
    refine (hce f [.snil] σ .snil σ (cloneS_call f t σ .snil _ .snil (cloneS_nil t σ) rfl) ids I w [v] hg ⟨v, [], rfl, e, rfl⟩).mono ?_
    rintro e w' ⟨v, ids', I', rfl, k1, k2, k3⟩
    exact ⟨v, ids', I', rfl, k1, VR.wk1 (x := .snil) k2, k3⟩
  unfold pCloneS at hp
  split at hp
  · simp only [Option.some.injEq, Prod.mk.injEq] at hp
    obtain ⟨rfl, rfl⟩ := hp
    obtain ⟨v, s, rfl, hx, rfl⟩ := hv
    exact hnil v hx
  · rename_i nn
    simp only [Option.some.injEq, Prod.mk.injEq] at hp
    obtain ⟨rfl, rfl⟩ := hp
    obtain ⟨v, s, rfl, hx, rfl⟩ := hv
    by_cases hn : v = .slice none 0 0
    · exact hnil v hn
    · have hx' : VR (ctxOf σ ids I) w.heap (.imm true []) v := by
        unfold VR at hx ⊢
        refine ⟨rfl, ?_⟩
        rcases hx.2 with ⟨h1, a, h2, _⟩ | h
        · refine .inl ⟨rfl, a, h2, fun _ => ?_⟩
          cases a with
          | none => exact absurd h2 hn
          | some q => rfl
        · exact .inr h
      refine (hce f [.imm true []] σ (.imm true []) σ (cloneS_call f t σ (.imm true []) _ (.imm true []) (cloneS_emp t σ) rfl) ids I w [v] hg ⟨v, [], rfl, hx', rfl⟩).mono ?_
      rintro e w' ⟨v, ids', I', rfl, k1, k2, k3⟩
      exact ⟨v, ids', I', rfl, k1, VR.wk1 (x := .imm true []) k2, k3⟩
  · rename_i nn x l
    split at hp
    · rename_i hc
      simp only [Bool.and_eq_true, decide_eq_true_eq] at hc
      obtain ⟨⟨c1, c2⟩, c3⟩ := hc
      simp only [Option.some.injEq, Prod.mk.injEq] at hp
      obtain ⟨rfl, rfl⟩ := hp
      obtain ⟨v, s, rfl, hx, rfl⟩ := hv
      obtain ⟨o1, o2⟩ := one_cells0 c1
      have hx' : VR (ctxOf σ ids I) w.heap (.imm true ((x :: l).map wk1)) v := by
        unfold VR at hx ⊢
        refine ⟨noLocs_wk1 c2, ?_⟩
        rcases hx.2 with ⟨h1, _⟩ | ⟨blk, off, cap, st, c, el, fz, e, k1, k2, k3, k4⟩
        · simp at h1
        · exact .inr ⟨blk, off, cap, st, c, el, fz, by simpa using e, by simpa using k1, k2, k3, VRI.wk1 k4⟩
      have := cloneS_some (t := t) (σ := σ) (y := wk1 x) (r := l.map wk1) o2 o1 (by simpa using c3)
      refine (hce f [.imm true ((x :: l).map wk1)] σ _ _ (cloneS_call f t σ _ _ (.sl σ.length (x :: l).length 0 (x :: l).length) this (by simp [Ab.results, cloneFn, mapO, resOf, nth])) ids I w [v] hg ⟨v, [], rfl, hx', rfl⟩)
    · simp at hp
  · simp at hp
end Ab
