/- A copy of a slice (the library's slices.Clone), known by what it answers, though it asks whether its argument is nil. Condition: the function's small text. slices.Clone at lists of lists: the copy is a new block. Condition: the function's small text. Condition: none. -/
import Derived.Test.YtkchnhfeebkogaaAbC
import Derived.Test.YtkchnhfeebkogaaAbL
import Derived.Test.YtkchnhfeebkogaaAbSortM
set_option linter.all false
namespace Ab
open Go
variable {P : Program}
def pcl0 (ce : CE) (f : Nat) (args : List AV) : Option AV :=
  if noLocs args then
    match ce f args [] with
    | some (v, σ) => viewT σ false v
    | none => none
  else none
theorem zBuh {ce : CE} (hce : CallOk P ce) {f : Nat} {args : List AV} {x : AV} (h : pcl0 ce f args = some x) {C : Ctx} {w : World} (hg : Good C w) {vs : List Value} (hv : VRL C w.heap args vs) :
    Calls P f vs.toArray w fun e w' => ∃ v, e = .returned v ∧ PostP C w x v w' := by
  unfold pcl0 at h
  split at h <;> try (simp at h; done)
  rename_i hn
  cases hc : ce f args [] with
  | none => simp [hc] at h
  | some rs =>
    obtain ⟨v0, σ'⟩ := rs
    simp only [hc] at h
    have hv0 : VRL (ctxOf [] (fun _ => 0) C.I) w.heap args vs := (VRL.free (show ISub C w.heap (ctxOf [] (fun _ => 0) C.I) w.heap from ⟨fun _ h => h, fun _ _ => rfl⟩) _ _ hn hv)
    refine (hce f _ [] v0 σ' hc (fun _ => 0) C.I w vs (zgS9 hg _) hv0).mono ?_
    rintro e w' ⟨v, ids', I', rfl, hg1, hr, hs⟩
    refine ⟨v, rfl, ?_⟩
    let I2 : Nat → Prop := fun k => I' k ∨ owned (ctxOf σ' ids' I') k
    have hvw := zXfU (C2 := { C with I := I2 }) (fun b u B hb => ⟨_, z1nM ids' I' hb⟩) hg1 (fr := false) ⟨fun _ k hk => .inl hk, fun k hk => .inr hk⟩ h hr
    obtain ⟨h1, h2⟩ := hg.growI hs.size (fun k hk => hs.frame k hk zONh) I2 (fun k hk => .inl (hs.ev.imm k hk)) (fun k hk => hk.elim (hg1.I k) hg1.lt)
      (fun k hk => hk.elim (fun h => (hs.immOrig k h).elim .inl (fun h => h.elim (fun h => absurd h zONh) .inr)) (fun h => (hs.ownOrig k h).elim (fun h => absurd h zONh) .inr)) hs.os hs.tape hs.output
    exact ⟨I2, h1, h2, hvw⟩
def cloneFn (t : Nat) : Fn := { np := 1, nv := 2, res := [(1, none)], body :=
  (.seq (.reg ⟨[⟨.mv (.c (.snil)), none, false⟩], [], [1], none⟩)
   (.seq (.seq (.reg ⟨[⟨.mv (.v 0), none, false⟩, ⟨.bnl false (.t 0), none, false⟩], [], [], some (t, 0)⟩)
   (.cond t (.seq (.reg ⟨[⟨.mv (.c (.snil)), none, false⟩], [(1, 0)], [0], none⟩) .ret) .skip))
   (.seq (.reg ⟨[⟨.lita [] 1, none, false⟩, ⟨.mv (.v 0), none, false⟩, ⟨.appw (.t 1) (.t 0) none, none, false⟩, ⟨.mv (.t 0), none, false⟩], [(1, 0)], [0], none⟩) .ret))) }
theorem z7CT {l : List AV} (h : l.all isScalar = true) : l.flatMap AV.cells = l := by
  induction l with
  | nil => rfl
  | cons x r ih =>
    simp only [List.all_cons, Bool.and_eq_true] at h
    rw [List.flatMap_cons, ih h.2]
    cases x <;> simp_all [isScalar, AV.cells]
theorem zOL1 {l : List AV} (h : l.all isScalar = true) : fitAll 1 l = true := by
  induction l with
  | nil => rfl
  | cons x r ih =>
    simp only [List.all_cons, Bool.and_eq_true] at h
    simp only [fitAll, ih h.2, Bool.and_true]
    cases x <;> simp_all [isScalar, AV.cells, notUnd]
theorem z9AL {σ : List Blk} {n : Nat} {l : List AV} (h : l.all isScalar = true) : mapO (view σ false (n + 1)) l = some l := by
  induction l with
  | nil => rfl
  | cons x r ih =>
    simp only [List.all_cons, Bool.and_eq_true] at h
    have hx : view σ false (n + 1) x = some x := by cases x <;> simp_all [isScalar, view]
    simp only [mapO, hx, ih h.2]
theorem zhvb : ∀ (l : List AV), chunk none l.length l = l
  | [] => rfl
  | x :: r => by simp only [List.length_cons, chunk, zhvb r]
theorem zlF1 {σ : List Blk} {fr : Bool} {f b u off len : Nat} {B : Blk} {l : List AV} (h : upto σ b u = some B) (h2 : off + len * kst B.k ≤ B.cells.length) (h3 : mapO (view σ fr f) (chunk B.k len (B.cells.drop off)) = some l) : view σ fr (f + 1) (.sl b u off len) = some (.imm false l) := by
  unfold view
  simp only [h]
  rw [if_pos h2, h3]
theorem zUcN (f t : Nat) : ∀ x e s r, exec 9 (fun _ _ _ => none) (cloneFn t).body ⟨[x, .und], none, []⟩ = some (e, s) → (∀ j, e ≠ .exit j) → Ab.results (cloneFn t) s = some r →
      callN (fun g => if g = f then some (cloneFn t) else none) (fun _ => none) 9 1 f [x] [] = some (r, s.σ) := fun x e s r h1 h2 h3 => by
    have h0 : callN (fun g => if g = f then some (cloneFn t) else none) (fun _ => none) 9 0 = fun _ _ _ => none := rfl
    unfold callN
    rw [h0]
    simp only [if_true]
    rw [show ({ vars := [x] ++ List.replicate ((cloneFn t).nv - (cloneFn t).np) .und, fl := none, σ := [] } : St) = ⟨[x, .und], none, []⟩ from rfl]
    rw [h1, if_pos (show ([x].length == (cloneFn t).np) = true from rfl)]
    cases e with
    | exit j => exact absurd rfl (h2 j)
    | nor => simp only [h3, Option.map_some]
    | ret => simp only [h3, Option.map_some]
theorem z6j4 (t : Nat) : exec 9 (fun _ _ _ => none) (cloneFn t).body ⟨[.snil, .und], none, []⟩ = some (.ret, ⟨[.und, .snil], none, []⟩) := by
  simp [cloneFn, exec, runReg, lines, line1, want, ev, IOp.isW, IOp.isE, rv, nth, kills, outs, setN]
theorem zJM4 (t : Nat) : exec 9 (fun _ _ _ => none) (cloneFn t).body ⟨[.imm true [], .und], none, []⟩ = some (.ret, ⟨[.und, .imm true []], none, []⟩) := by
  simp [cloneFn, exec, runReg, lines, line1, want, ev, evW, IOp.isW, IOp.isE, rv, nth, kills, outs, setN, srcCells, fitAll, noLocs]
theorem zA5q {y : AV} {r : List AV} (hfit : fitAll (kst none) (y :: r) = true) (hc : (y :: r).flatMap AV.cells = y :: r) (hb : (y :: r).length ≤ big) :
    evW (fun _ _ _ => none) [] (rv [.imm true (y :: r), .und] [.imm true (y :: r), .arr []]) (.appw (.t 1) (.t 0) none) = some (.sl 0 (y :: r).length 0 (y :: r).length, [⟨none, y :: r, .live⟩]) := by
  have h1 : srcCells [] none (.imm true (y :: r)) = some ((y :: r).length, y :: r) := by
    simp only [srcCells]; rw [if_pos hfit, hc]
  have e : evW (fun _ _ _ => none) [] (rv [.imm true (y :: r), .und] [.imm true (y :: r), .arr []]) (.appw (.t 1) (.t 0) none) =
      (match srcCells [] none (.imm true (y :: r)) with
        | none => none
        | some (n, cs) => if n == 0 then some (if noLocs ([] : List AV) then .imm true [] else .arr [], []) else if fitAll (kst none) [] && decide (([] : List AV).length + n ≤ big) then some (.sl ([] : List Blk).length (([] : List AV).flatMap AV.cells ++ cs).length 0 (([] : List AV).length + n), [] ++ [⟨none, ([] : List AV).flatMap AV.cells ++ cs, .live⟩]) else none) := rfl
  have hb' : (([] : List AV).length + (y :: r).length : Nat) ≤ big := by rw [List.length_nil, Nat.zero_add]; exact hb
  rw [e, h1]
  show (if (r.length + 1 == 0) = true then _ else _) = _
  rw [if_neg (by simp), if_pos (by simp only [fitAll, Bool.true_and, decide_eq_true_eq]; exact hb')]
  simp
theorem zRss {t : Nat} {y : AV} {r : List AV} (hfit : fitAll (kst none) (y :: r) = true) (hc : (y :: r).flatMap AV.cells = y :: r) (hb : (y :: r).length ≤ big) :
    exec 9 (fun _ _ _ => none) (cloneFn t).body ⟨[.imm true (y :: r), .und], none, []⟩ = some (.ret, ⟨[.und, .sl 0 (y :: r).length 0 (y :: r).length], none, [⟨none, y :: r, .live⟩]⟩) := by
  have hev := zA5q hfit hc hb
  simp only [cloneFn, exec, runReg, lines, line1, want, ev, IOp.isW, IOp.isE, ↓reduceIte, Bool.false_eq_true, rv, nth, beq_self_eq_true, fitAll, List.map_nil]
  simp only [kills, outs, setN, nth, ↓reduceIte, Bool.false_eq_true, beq_self_eq_true, hev]
theorem zFRw {f t : Nat} {sl : List Nat} (hm : P.follows .mixedOrders = true) (hok : okFn P f (cloneFn t) sl = true) : PrimOkV P f pClone1 := by
  have hb : bodied P f = true := by
    unfold okFn at hok
    cases hf : P.funcs[f]? with
    | none => simp [hf] at hok
    | some pf => simp only [hf, Bool.and_eq_true] at hok; exact hok.1
  refine ⟨hb, fun ce _ _ args x hp C w vs hg hv => ?_⟩
  have hce : CallOk P (callN (fun g => if g = f then some (cloneFn t) else none) (fun _ => none) 9 1) :=
    (zk5y hm (fun g fn h => by
      by_cases e : g = f
      · subst e; simp at h; subst h; exact ⟨sl, hok⟩
      · simp [e] at h) (fun _ _ h => by simp at h) 1).1
  have hcall := zUcN f t
  have hnil : pcl0 (callN (fun g => if g = f then some (cloneFn t) else none) (fun _ => none) 9 1) f [.snil] = some (.imm false []) := by
    unfold pcl0
    rw [hcall .snil .ret ⟨[.und, .snil], none, []⟩ .snil (z6j4 t) (fun _ h => by cases h) rfl]
    rfl
  have hsome : ∀ l : List AV, l.all isScalar = true → l.length ≤ big → pcl0 (callN (fun g => if g = f then some (cloneFn t) else none) (fun _ => none) 9 1) f [.imm true l] = some (.imm false l) := fun l hl hb => by
    have hfit : (fitAll (kst none) l) = true := zOL1 hl
    have hc := z7CT hl
    cases l with
    | nil =>
      unfold pcl0
      rw [hcall (.imm true []) .ret ⟨[.und, .imm true []], none, []⟩ (.imm true []) (zJM4 t) (fun _ h => by cases h) rfl]
      rfl
    | cons y r =>
      have hch := zhvb (y :: r)
      unfold pcl0
      rw [hcall (.imm true (y :: r)) .ret ⟨[.und, .sl 0 (y :: r).length 0 (y :: r).length], none, [⟨none, y :: r, .live⟩]⟩ (.sl 0 (y :: r).length 0 (y :: r).length) (zRss hfit hc hb) (fun _ h => by cases h) rfl]
      have hvw := z9AL (σ := [⟨none, y :: r, .live⟩]) (n := 10) hl
      have hup : upto [⟨none, y :: r, .live⟩] 0 (y :: r).length = some ⟨none, y :: r, .live⟩ := by simp [upto, blk]
      have hv1 := zlF1 (fr := false) (off := 0) (len := (y :: r).length) (f := 11) hup (by simp [kst]) (by rw [List.drop_zero, hch]; exact hvw)
      simp only [noLocs, noLoc, Bool.and_true, if_true, viewT, vd]
      exact hv1
  unfold pClone1 at hp
  split at hp
  · rename_i nn l
    split at hp <;> simp at hp
    rename_i hl
    subst hp
    simp only [Bool.and_eq_true, decide_eq_true_eq] at hl
    obtain ⟨v, s, rfl, hx, hs⟩ := hv
    have hs : s = [] := hs
    subst hs
    by_cases hnl : v = .slice none 0 0
    · have hl0 : l = [] := by
        unfold VR at hx
        rcases hx.2 with h | ⟨blk, off, cap, st, c, el, fz, e, _⟩
        · exact h.1
        · rw [hnl] at e; simp at e
      subst hl0
      exact zBuh hce hnil hg ⟨v, [], rfl, hnl, rfl⟩
    · refine zBuh hce (hsome l hl.1 hl.2) hg ⟨v, [], rfl, ?_, rfl⟩
      unfold VR at hx ⊢
      refine ⟨hx.1, ?_⟩
      rcases hx.2 with ⟨h1, a, h2, _⟩ | h
      · refine .inl ⟨h1, a, h2, fun _ => ?_⟩
        cases a with
        | none => exact absurd h2 hnl
        | some q => rfl
      · exact .inr h
  · simp at hp; subst hp
    obtain ⟨v, s, rfl, hx, hs⟩ := hv
    exact zBuh hce hnil hg ⟨v, s, rfl, hx, hs⟩
  · simp at hp
theorem zFCs {f t : Nat} {sl : List Nat} (hm : P.follows .mixedOrders = true) (hok : okFn P f (cloneFn t) sl = true) : PrimOk P f (vPrim pClone1) := z4Wz (zFRw hm hok)
theorem zSbr : ∀ a b : CE, CE.le a b → ∀ args v, pClone1 a args = some v → pClone1 b args = some v := fun _ _ _ _ _ h => h
end Ab
namespace Ab
open Go
variable {P : Program}
theorem zNDv {l : List AV} (h : l.all isOne = true) : (l.map wk1).flatMap AV.cells = l.map wk1 ∧ fitAll 1 (l.map wk1) = true := by
  induction l with
  | nil => exact ⟨rfl, rfl⟩
  | cons x r ih =>
    simp only [List.all_cons, Bool.and_eq_true] at h
    obtain ⟨h1, h2⟩ := ih h.2
    simp only [List.map_cons, List.flatMap_cons, h1, fitAll, h2, Bool.and_true]
    cases x <;> simp_all [isOne, wk1, AV.cells, notUnd]
theorem VRI.wk1 {C : Ctx} {H : Array Obj} {c : Array Value} {st : Nat} : ∀ {l : List AV} {off : Nat}, VRI C H c st l off → VRI C H c st (l.map Ab.wk1) off
  | [], _, _ => trivial
  | x :: r, off, ⟨⟨v, h1, h2⟩, h3⟩ => ⟨⟨v, h1.wk1, h2⟩, VRI.wk1 h3⟩
theorem zCOy {σ : List Blk} {y : AV} {r : List AV} (hfit : fitAll 1 (y :: r) = true) (hc : (y :: r).flatMap AV.cells = y :: r) (hb : (y :: r).length ≤ big) :
    evW (fun _ _ _ => none) σ (rv [.imm true (y :: r), .und] [.imm true (y :: r), .arr []]) (.appw (.t 1) (.t 0) none) = some (.sl σ.length (y :: r).length 0 (y :: r).length, σ ++ [⟨none, y :: r, .live⟩]) := by
  have h1 : srcCells σ none (.imm true (y :: r)) = some ((y :: r).length, y :: r) := by
    simp only [srcCells, kst]; rw [if_pos hfit, hc]
  have e : evW (fun _ _ _ => none) σ (rv [.imm true (y :: r), .und] [.imm true (y :: r), .arr []]) (.appw (.t 1) (.t 0) none) =
      (match srcCells σ none (.imm true (y :: r)) with
        | none => none
        | some (n, cs) => if n == 0 then some (if noLocs ([] : List AV) then .imm true [] else .arr [], σ) else if fitAll (kst none) [] && decide (([] : List AV).length + n ≤ big) then some (.sl σ.length (([] : List AV).flatMap AV.cells ++ cs).length 0 (([] : List AV).length + n), σ ++ [⟨none, ([] : List AV).flatMap AV.cells ++ cs, .live⟩]) else none) := rfl
  have hb' : (([] : List AV).length + (y :: r).length : Nat) ≤ big := by rw [List.length_nil, Nat.zero_add]; exact hb
  rw [e, h1]
  show (if (r.length + 1 == 0) = true then _ else _) = _
  rw [if_neg (by simp), if_pos (by simp only [fitAll, Bool.true_and, decide_eq_true_eq]; exact hb')]
  simp
theorem ze31 {t : Nat} {σ : List Blk} {y : AV} {r : List AV} (hfit : fitAll 1 (y :: r) = true) (hc : (y :: r).flatMap AV.cells = y :: r) (hb : (y :: r).length ≤ big) :
    exec 9 (fun _ _ _ => none) (cloneFn t).body ⟨[.imm true (y :: r), .und], none, σ⟩ = some (.ret, ⟨[.und, .sl σ.length (y :: r).length 0 (y :: r).length], none, σ ++ [⟨none, y :: r, .live⟩]⟩) := by
  have hev := zCOy (σ := σ) hfit hc hb
  simp only [cloneFn, exec, runReg, lines, line1, want, ev, IOp.isW, IOp.isE, ↓reduceIte, Bool.false_eq_true, rv, nth, beq_self_eq_true, fitAll, List.map_nil]
  simp only [kills, outs, setN, nth, ↓reduceIte, Bool.false_eq_true, beq_self_eq_true, hev]
theorem ztLT (t : Nat) (σ : List Blk) : exec 9 (fun _ _ _ => none) (cloneFn t).body ⟨[.snil, .und], none, σ⟩ = some (.ret, ⟨[.und, .snil], none, σ⟩) := by
  simp [cloneFn, exec, runReg, lines, line1, want, ev, IOp.isW, IOp.isE, rv, nth, kills, outs, setN]
theorem z4vC (t : Nat) (σ : List Blk) : exec 9 (fun _ _ _ => none) (cloneFn t).body ⟨[.imm true [], .und], none, σ⟩ = some (.ret, ⟨[.und, .imm true []], none, σ⟩) := by
  simp [cloneFn, exec, runReg, lines, line1, want, ev, evW, IOp.isW, IOp.isE, rv, nth, kills, outs, setN, srcCells, fitAll, noLocs]
theorem z9yK (f t : Nat) (σ : List Blk) : ∀ x s r, exec 9 (fun _ _ _ => none) (cloneFn t).body ⟨[x, .und], none, σ⟩ = some (.ret, s) → Ab.results (cloneFn t) s = some r →
      callN (fun g => if g = f then some (cloneFn t) else none) (fun _ => none) 9 1 f [x] σ = some (r, s.σ) := fun x s r h1 h3 => by
    have h0 : callN (fun g => if g = f then some (cloneFn t) else none) (fun _ => none) 9 0 = fun _ _ _ => none := rfl
    unfold callN
    rw [h0]
    simp only [if_true]
    rw [show ({ vars := [x] ++ List.replicate ((cloneFn t).nv - (cloneFn t).np) .und, fl := none, σ := σ } : St) = ⟨[x, .und], none, σ⟩ from rfl]
    rw [h1, if_pos (show ([x].length == (cloneFn t).np) = true from rfl)]
    simp only [h3, Option.map_some]
theorem zx1G {f t : Nat} {sl : List Nat} (hm : P.follows .mixedOrders = true) (hok : okFn P f (cloneFn t) sl = true) : PrimOk P f pCloneS := by
  have hb : bodied P f = true := by
    unfold okFn at hok
    cases hf : P.funcs[f]? with
    | none => simp [hf] at hok
    | some pf => simp only [hf, Bool.and_eq_true] at hok; exact hok.1
  refine ⟨hb, fun ce _ _ args σ r σ' hp ids I w vs hg hv => ?_⟩
  have hce : CallOk P (callN (fun g => if g = f then some (cloneFn t) else none) (fun _ => none) 9 1) :=
    (zk5y hm (fun g fn h => by
      by_cases e : g = f
      · subst e; simp at h; subst h; exact ⟨sl, hok⟩
      · simp [e] at h) (fun _ _ h => by simp at h) 1).1
  have hnil : ∀ v, v = .slice none 0 0 → Calls P f [v].toArray w fun e w' => ∃ v ids' I', e = .returned v ∧ Good (ctxOf σ ids' I') w' ∧ VR (ctxOf σ ids' I') w'.heap (.imm false []) v ∧ Step (ctxOf σ ids I) w (ctxOf σ ids' I') w' := fun v e => by
    refine (hce f [.snil] σ .snil σ (z9yK f t σ .snil _ .snil (ztLT t σ) rfl) ids I w [v] hg ⟨v, [], rfl, e, rfl⟩).mono ?_
    rintro e w' ⟨v, ids', I', rfl, k1, k2, k3⟩
    exact ⟨v, ids', I', rfl, k1, VR.wk1 (x := .snil) k2, k3⟩
  unfold pCloneS at hp
  split at hp
  · simp only [Option.some.injEq, Prod.mk.injEq] at hp
    obtain ⟨rfl, rfl⟩ := hp
    obtain ⟨v, s, rfl, hx, rfl⟩ := hv
    exact hnil v hx
  · rename_i nn
    simp only [Option.some.injEq, Prod.mk.injEq] at hp
    obtain ⟨rfl, rfl⟩ := hp
    obtain ⟨v, s, rfl, hx, rfl⟩ := hv
    by_cases hn : v = .slice none 0 0
    · exact hnil v hn
    · have hx' : VR (ctxOf σ ids I) w.heap (.imm true []) v := by
        unfold VR at hx ⊢
        refine ⟨rfl, ?_⟩
        rcases hx.2 with ⟨h1, a, h2, _⟩ | h
        · refine .inl ⟨rfl, a, h2, fun _ => ?_⟩
          cases a with
          | none => exact absurd h2 hn
          | some q => rfl
        · exact .inr h
      refine (hce f [.imm true []] σ (.imm true []) σ (z9yK f t σ (.imm true []) _ (.imm true []) (z4vC t σ) rfl) ids I w [v] hg ⟨v, [], rfl, hx', rfl⟩).mono ?_
      rintro e w' ⟨v, ids', I', rfl, k1, k2, k3⟩
      exact ⟨v, ids', I', rfl, k1, VR.wk1 (x := .imm true []) k2, k3⟩
  · rename_i nn x l
    split at hp
    · rename_i hc
      simp only [Bool.and_eq_true, decide_eq_true_eq] at hc
      obtain ⟨⟨c1, c2⟩, c3⟩ := hc
      simp only [Option.some.injEq, Prod.mk.injEq] at hp
      obtain ⟨rfl, rfl⟩ := hp
      obtain ⟨v, s, rfl, hx, rfl⟩ := hv
      obtain ⟨o1, o2⟩ := zNDv c1
      have hx' : VR (ctxOf σ ids I) w.heap (.imm true ((x :: l).map wk1)) v := by
        unfold VR at hx ⊢
        refine ⟨zXBf c2, ?_⟩
        rcases hx.2 with ⟨h1, _⟩ | ⟨blk, off, cap, st, c, el, fz, e, k1, k2, k3, k4⟩
        · simp at h1
        · exact .inr ⟨blk, off, cap, st, c, el, fz, by simpa using e, by simpa using k1, k2, k3, VRI.wk1 k4⟩
      have := ze31 (t := t) (σ := σ) (y := wk1 x) (r := l.map wk1) o2 o1 (by simpa using c3)
      refine (hce f [.imm true ((x :: l).map wk1)] σ _ _ (z9yK f t σ _ _ (.sl σ.length (x :: l).length 0 (x :: l).length) this (by simp [Ab.results, cloneFn, mapO, resOf, nth])) ids I w [v] hg ⟨v, [], rfl, hx', rfl⟩)
    · simp at hp
  · simp at hp
end Ab
