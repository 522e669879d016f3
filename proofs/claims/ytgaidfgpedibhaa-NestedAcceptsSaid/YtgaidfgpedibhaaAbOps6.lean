/- The operations that may turn blocks: stores, appends one behind the other, calls that are handed the blocks. Condition: the callees answer as the interpreter says. -/
import Derived.Test.YtgaidfgpedibhaaAbOps5
set_option linter.all false
namespace Ab
open Go
variable {P : Program}

/-- A value, with the blocks σ' behind it. -/
def PostW (σ : List Blk) (ids : Nat → Nat) (I : Nat → Prop) (w : World) (x : AV) (σ' : List Blk) (v : Value) (w' : World) : Prop :=
  ∃ ids' I', Good (ctxOf σ' ids' I') w' ∧ Step (ctxOf σ ids I) w (ctxOf σ' ids' I') w' ∧ VR (ctxOf σ' ids' I') w'.heap x v

theorem take_set {c : Array Value} {off : Nat} {vals : List Value} (hfit : off + vals.length ≤ c.size) :
    (c.toList.take off ++ vals ++ c.toList.drop (off + vals.length)).toArray.size = c.size ∧ ∀ i, (c.toList.take off ++ vals ++ c.toList.drop (off + vals.length)).toArray[i]? = if off ≤ i ∧ i < off + vals.length then vals[i - off]? else c[i]? := by
  refine ⟨by simp; omega, fun i => ?_⟩
  simp only [List.getElem?_toArray]
  by_cases h1 : i < off
  · rw [if_neg (by omega), List.append_assoc, List.getElem?_append_left (by simp; omega), List.getElem?_take_of_lt h1]; simp
  · by_cases h2 : i < off + vals.length
    · rw [if_pos ⟨by omega, h2⟩, List.getElem?_append_left (by simp; omega), List.getElem?_append_right (by simp; omega)]
      congr 1; simp; omega
    · rw [if_neg (by omega), List.getElem?_append_right (by simp; omega), List.getElem?_drop]
      simp
      congr 1; omega

section
variable {a : Act} {ρ : Operand → Value} {r : Rf → AV} {w : World} {C : Ctx} {R : Operand → Rf → Bool} {ce : CE} {σ : List Blk} {nl : Nat} {ps : List Pend}

/-- Cells in use of an owned block are written. -/
theorem post_write {B : Blk} {b id off : Nat} {new : List AV} {c : Array Value} {el : TypeId} {vals : List Value} (hg : Good C w) (ho : C.own b B.cells.length = some (B, id)) (hl : B.st = .live)
    (honly : ∀ u' B' id', C.own b u' = some (B', id') → u' = B.cells.length) (hH : w.heap[id]? = some (.cells c el (0, 0))) (hfit : off + new.length ≤ B.cells.length) (hvl : vals.length = new.length)
    (hv : ∀ (i : Nat) q, new[i]? = some q → ∃ y, vals[i]? = some y ∧ VR C w.heap q y ∧ y.oneCell' = true) :
    Good { C with own := fun b' u' => if b' = b ∧ u' = B.cells.length then some (⟨B.k, putAt B.cells off new, B.st⟩, id) else C.own b' u' } (w.setRow id (c.toList.take off ++ vals ++ c.toList.drop (off + vals.length)).toArray) ∧
    Step C w { C with own := fun b' u' => if b' = b ∧ u' = B.cells.length then some (⟨B.k, putAt B.cells off new, B.st⟩, id) else C.own b' u' } (w.setRow id (c.toList.take off ++ vals ++ c.toList.drop (off + vals.length)).toArray) := by
  have hown : owned C id := ⟨b, _, B, ho, hl⟩
  obtain ⟨n1, c0, el0, n2, n3, n4⟩ := hg.live b _ B id ho hl
  rw [hH] at n2
  simp only [Option.some.injEq, Obj.cells.injEq] at n2
  obtain ⟨rfl, rfl, _⟩ := n2
  obtain ⟨hs, hget⟩ := take_set (c := c) (off := off) (vals := vals) (by omega)
  generalize (c.toList.take off ++ vals ++ c.toList.drop (off + vals.length)).toArray = c' at *
  obtain ⟨pl, pg⟩ := putAt_get B.cells new off hfit
  obtain ⟨_, _, hnul, hnd⟩ := hg.ent b _ B id ho
  generalize hC' : ({ C with own := fun b' u' => if b' = b ∧ u' = B.cells.length then some (⟨B.k, putAt B.cells off new, B.st⟩, id) else C.own b' u' } : Ctx) = C'
  have hown' : ∀ b' u', C'.own b' u' = if b' = b ∧ u' = B.cells.length then some (⟨B.k, putAt B.cells off new, B.st⟩, id) else C.own b' u' := fun b' u' => by subst hC'; rfl
  have hI' : C'.I = C.I := by subst hC'; rfl
  have hlim' : C'.lim = C.lim := by subst hC'; rfl
  have ev := setRow_evol (c' := c') hg hown hH hs C' (fun k h => by rw [hI']; exact h) (fun b u h => by rw [hlim']; exact h) (fun b' u' B' i hlm ho' => by
    rw [hown'] at ho'
    by_cases e : b' = b ∧ u' = B.cells.length
    · rw [if_pos e] at ho'
      simp at ho'; obtain ⟨rfl, rfl⟩ := ho'
      exact ⟨B, by rw [e.1, e.2]; exact ho, rfl, rfl⟩
    · rw [if_neg e] at ho'
      exact ⟨B', ho', rfl, rfl⟩)
  have hnewid : (w.setRow id c').heap[id]? = some (.cells c' el (0, 0)) := setRow_heap w id c c' el (0, 0) hH
  have hback : ∀ b' u' B' i, C'.own b' u' = some (B', i) → B'.st = .live → ∃ u'' B'', C.own b' u'' = some (B'', i) ∧ B''.st = .live := by
    intro b' u' B' i ho' hl'
    rw [hown'] at ho'
    by_cases e : b' = b ∧ u' = B.cells.length
    · rw [if_pos e] at ho'
      simp at ho'; obtain ⟨rfl, rfl⟩ := ho'
      exact ⟨_, B, by rw [e.1]; exact ho, hl⟩
    · rw [if_neg e] at ho'
      exact ⟨u', B', ho', hl'⟩
  refine ⟨⟨fun k hk => by rw [setRow_size]; rw [hI'] at hk; exact hg.I k hk, fun b' u' B' i ho' => ?_, fun b' u' B' i ho' hl' => ?_, fun b1 u1 B1 i1 b2 u2 B2 i2 k1 l1 k2 l2 hne => ?_⟩,
    ⟨ev, by rw [setRow_size]; exact Nat.le_refl _, fun k hk hno => setRow_other w id c' fun e => hno (e ▸ hown), fun k hk => ?_, fun k hk => .inl (by rw [hI'] at hk; exact hk), rfl, rfl, rfl⟩⟩
  · rw [hlim']
    rw [hown'] at ho'
    by_cases e : b' = b ∧ u' = B.cells.length
    · rw [if_pos e] at ho'
      simp at ho'; obtain ⟨rfl, rfl⟩ := ho'
      refine ⟨by rw [e.1, e.2]; exact (hg.ent b _ B id ho).1, by rw [e.2]; exact pl.symm, fun h => ?_, hnd⟩
      have h0 := hnul h
      have : new = [] := by
        have : new.length = 0 := by rw [h0] at hfit; simp at hfit; simp [hfit]
        exact List.eq_nil_of_length_eq_zero this
      have hz : (putAt B.cells off new).length = 0 := by rw [pl, h0]; rfl
      exact List.eq_nil_of_length_eq_zero hz
    · rw [if_neg e] at ho'
      exact hg.ent b' u' B' i ho'
  · rw [hI']
    rw [hown'] at ho'
    by_cases e : b' = b ∧ u' = B.cells.length
    · rw [if_pos e] at ho'
      simp at ho'; obtain ⟨rfl, rfl⟩ := ho'
      refine ⟨n1, c', el, hnewid, by rw [hs]; show (putAt B.cells off new).length ≤ _; omega, fun i q hi => ?_⟩
      have hi' : (putAt B.cells off new)[i]? = some q := hi
      rw [pg] at hi'
      rw [hget]
      by_cases hin : off ≤ i ∧ i < off + new.length
      · rw [if_pos hin] at hi'
        obtain ⟨y, m1, m2, m3⟩ := hv _ q hi'
        exact ⟨y, by rw [if_pos (by omega)]; exact m1, VR.mono ev _ _ m2, m3⟩
      · rw [if_neg hin] at hi'
        obtain ⟨y, m1, m2, m3⟩ := n4 i q hi'
        exact ⟨y, by rw [if_neg (by omega)]; exact m1, VR.mono ev _ _ m2, m3⟩
    · rw [if_neg e] at ho'
      obtain ⟨j1, c1, el1, j2, j3, j4⟩ := hg.live b' u' B' i ho' hl'
      by_cases hi : i = id
      · subst hi
        have hbb : b' = b := Decidable.byContradiction fun h => hg.apart b' u' B' i b _ B i ho' hl' ho hl h rfl
        subst hbb
        exact absurd ⟨rfl, honly u' B' i ho'⟩ e
      · refine ⟨j1, c1, el1, by rw [setRow_other w id c' hi]; exact j2, j3, fun i' q hq => ?_⟩
        obtain ⟨y, m1, m2, m3⟩ := j4 i' q hq
        exact ⟨y, m1, VR.mono ev _ _ m2, m3⟩
  · obtain ⟨_, _, q1, q2⟩ := hback b1 u1 B1 i1 k1 l1
    obtain ⟨_, _, q3, q4⟩ := hback b2 u2 B2 i2 k2 l2
    exact hg.apart _ _ _ _ _ _ _ _ q1 q2 q3 q4 hne
  · obtain ⟨b', u', B', ho', hl'⟩ := hk
    obtain ⟨u'', B'', q1, q2⟩ := hback b' u' B' k ho' hl'
    exact .inl ⟨b', u'', B'', q1, q2⟩

theorem ctxOf_only {ids : Nat → Nat} {I : Nat → Prop} {b u : Nat} {B : Blk} (h : blk σ b = some B) : ∀ u' B' id', (ctxOf σ ids I).own b u' = some (B', id') → u' = B.cells.length := fun u' B' id' h' => by
  obtain ⟨h1, h2, h3⟩ := own_upto h'
  rw [h] at h2
  simp at h2; subst h2
  simp only [ctxOf, h] at h'
  cases hs : B.st <;> simp only [hs] at h' <;> first
    | (split at h' <;> simp_all)
    | simp at h'
theorem upto_blk {b u : Nat} {B : Blk} (h : upto σ b u = some B) : blk σ b = some B ∧ B.cells.length = u ∧ B.st ≠ .dead := by
  unfold upto at h
  cases hb : blk σ b with
  | none => simp [hb] at h
  | some B' =>
    simp only [hb] at h
    cases hs : B'.st <;> simp only [hs] at h <;> first
      | (simp at h; done)
      | (by_cases hu : B'.cells.length = u
         · simp [hu] at h; subst h; exact ⟨rfl, hu, by rw [hs]; simp⟩
         · simp [hu] at h)

theorem blk_set {b b' : Nat} {B : Blk} (h : b < σ.length) : blk (setB σ b B) b' = if b' = b then some B else blk σ b' := by
  rw [blk_eq, setB_eq, blk_eq, List.getElem?_set]
  by_cases e : b' = b
  · subst e; simp [h]
  · rw [if_neg (fun h' => e h'.symm), if_neg e]

/-- A block of the list is replaced. -/
theorem ctxOf_set {ids : Nat → Nat} {I : Nat → Prop} {b : Nat} {B B' : Blk} {id' : Nat} (hb : blk σ b = some B) (hnd : B'.st ≠ .dead) : ∀ b1 u1 e, (ctxOf (setB σ b B') (fun q => if q = b then id' else ids q) I).own b1 u1 = some e →
    (if b1 = b ∧ u1 = B'.cells.length then some (B', id') else (ctxOf σ ids I).own b1 u1) = some e := fun b1 u1 e h => by
  have hlt : b < σ.length := by rw [blk_eq] at hb; exact (List.getElem?_eq_some_iff.1 hb).1
  simp only [ctxOf, blk_set hlt] at h ⊢
  by_cases e1 : b1 = b
  · subst e1
    simp only [if_true] at h
    cases hs : B'.st with
    | dead => exact absurd hs hnd
    | nul =>
      by_cases hu : B'.cells.length = u1
      · simp only [hu, if_true] at h
        rw [if_pos ⟨rfl, hu.symm⟩]; exact h
      · simp [hu] at h
    | live =>
      by_cases hu : B'.cells.length = u1
      · simp only [hu, if_true] at h
        rw [if_pos ⟨rfl, hu.symm⟩]; exact h
      · simp [hu] at h
  · rw [if_neg (fun h' => e1 h'.1)]
    simp only [if_neg e1] at h
    exact h
theorem ctxOf_set_lim {ids ids' : Nat → Nat} {I : Nat → Prop} {b : Nat} {B B' : Blk} (hb : blk σ b = some B) (hle : B.cells.length ≤ B'.cells.length) : ∀ b1 u1, (ctxOf σ ids I).lim b1 u1 → (ctxOf (setB σ b B') ids' I).lim b1 u1 := fun b1 u1 ⟨B1, h1, h2⟩ => by
  have hlt : b < σ.length := by rw [blk_eq] at hb; exact (List.getElem?_eq_some_iff.1 hb).1
  simp only [ctxOf, blk_set hlt]
  by_cases e1 : b1 = b
  · subst e1
    rw [hb] at h1; simp at h1; subst h1
    exact ⟨B', by simp, by omega⟩
  · exact ⟨B1, by rw [if_neg e1]; exact h1, h2⟩

theorem dw_st {ids : Nat → Nat} {I : Nat → Prop} {o : Oper} {t : TypeId} {p x : Operand} {p' x' : Rf} {n : Nat} {z : AV} {σ' : List Blk} (ho : o.op = .store t p x) (hn : sizeIs P t n = true) (hg : Good (ctxOf σ ids I) w)
    (hp : VR (ctxOf σ ids I) w.heap (r p') (a.eval p)) (hx : VR (ctxOf σ ids I) w.heap (r x') (a.eval x)) (he : evW ce σ r (.st p' x' n) = some (z, σ')) : Does P o a w (PostW σ ids I w z σ') := by
  simp only [evW] at he
  cases hp' : r p' <;> simp only [hp'] at he <;> try (simp at he; done)
  rename_i b u off
  cases hu : upto σ b u with
  | none => simp [hu] at he
  | some B =>
    simp only [hu] at he
    split at he
    case isFalse => simp at he
    rename_i hc
    simp only [Bool.and_eq_true, beq_iff_eq, decide_eq_true_eq] at hc
    obtain ⟨⟨⟨c1, c2⟩, c3⟩, c4⟩ := hc
    simp only [Option.some.injEq, Prod.mk.injEq] at he
    obtain ⟨rfl, rfl⟩ := he
    obtain ⟨hb, hul, hnd⟩ := upto_blk hu
    have hs : B.st = .live := by revert c3; cases B.st <;> simp [BSt.isLive]
    have hown := upto_own ids I hu
    subst hul
    rw [hp'] at hp
    unfold VR at hp
    have e := hp.2.2 B _ hown hs
    obtain ⟨_, c, el, hH, hle, hcells⟩ := hg.live b _ B _ hown hs
    have hsol := notUnd_iff c4
    have hsz := VR.size hsol hx
    have hv := cells_of hsol hx
    obtain ⟨g1, g2⟩ := post_write (vals := (a.eval x).cells.toList) (new := (r x').cells) (off := off) hg hown hs (ctxOf_only (u := 0) hb) hH (by omega) (by simpa using hsz) (fun i q hi => by
      obtain ⟨y, k1, k2, k3⟩ := hv i q hi
      exact ⟨y, by rw [Array.getElem?_toList]; exact k1, k2, k3⟩)
    obtain ⟨pl, _⟩ := putAt_get B.cells (r x').cells off (by omega)
    have hset := ctxOf_set (ids := ids) (I := I) (id' := ids b) (B' := ⟨B.k, putAt B.cells off (r x').cells, B.st⟩) hb hnd
    have hids : (fun q => if q = b then ids b else ids q) = ids := by funext q; split <;> simp_all
    rw [hids] at hset
    obtain ⟨f1, f2⟩ := Good.shrink (C2 := ctxOf (setB σ b ⟨B.k, putAt B.cells off (r x').cells, B.st⟩) ids I) g1 rfl (fun b1 u1 e1 h1 => by
      have := hset b1 u1 e1 h1
      simp only [pl] at this
      exact this) (fun b1 u1 h1 => ctxOf_set_lim (ids := ids) (I := I) hb (by show _ ≤ (putAt B.cells off (r x').cells).length; omega) b1 u1 h1)
    have hone : ∀ v ∈ (a.eval x).cells.toList, v.oneCell' = true := (VR.cells hsol hx).2
    have hstore := run_storeCells_at P (ids b) off el (a.eval x).cells.toList 0 c w hH (by simp; omega) hone
    refine Does.skip (w' := w.setRow (ids b) (c.toList.take off ++ (a.eval x).cells.toList ++ c.toList.drop (off + (a.eval x).cells.toList.length)).toArray) ?_ ⟨ids, I, f1, g2.trans f2, by unfold VR; trivial⟩
    have hsi := info_size hn w
    simp only [execOp, ho, Instr.storeAt, e, Instr.sureAddr, storeVar, Sem.run_bind, Sem.run_pure, Result.andThen_ok, hsi]
    rw [if_neg (by rw [hsz, c1]; simp)]
    simp only [Nat.add_zero] at hstore
    rw [hstore]
    rfl
end
end Ab
