/- append as an operation of a phase. Condition: none. -/
import Derived.Test.YtgaidfgpedibhaaAbAppend
set_option linter.all false
namespace Ab
open Go
variable {P : Program}

theorem setRow_other (w : World) (g : Nat) (c : Array Value) {k : Nat} (h : k ≠ g) : (w.setRow g c).heap[k]? = w.heap[k]? := by
  simp only [World.setRow, Array.getElem?_modify]
  rw [if_neg (by omega)]
theorem setRow_size (w : World) (g : Nat) (c : Array Value) : (w.setRow g c).heap.size = w.heap.size := by simp [World.setRow]

/-- The cells of an owned block are written, its size the same. -/
theorem setRow_evol {C : Ctx} {w : World} (hg : Good C w) {id : Nat} {c c' : Array Value} {el : TypeId} (hid : owned C id) (hH : w.heap[id]? = some (.cells c el (0, 0))) (hs : c'.size = c.size) (C' : Ctx) (hI : ∀ k, C.I k → C'.I k) (hlim : ∀ b u, C.lim b u → C'.lim b u)
    (hown : ∀ b u B' i, C.lim b u → C'.own b u = some (B', i) → ∃ B, C.own b u = some (B, i) ∧ B.st = B'.st ∧ B.k = B'.k) : Evol C w.heap C' (w.setRow id c').heap := by
  refine ⟨hI, fun k hk => setRow_other w id c' fun e => hg.notI hid (e ▸ hk), hlim, fun b u B' i hl ho => ?_⟩
  obtain ⟨B, h1, h2, h3⟩ := hown b u B' i hl ho
  refine ⟨B, h1, h2, h3, fun q el' hq => ?_⟩
  by_cases e : i = id
  · subst e
    rw [hH] at hq
    simp only [Option.some.injEq, Obj.cells.injEq] at hq
    obtain ⟨rfl, rfl, _⟩ := hq
    exact ⟨c', setRow_heap w i c c' el (0, 0) hH, hs⟩
  · exact ⟨q, by rw [setRow_other w id c' e]; exact hq, rfl⟩

section
variable {a : Act} {ρ : Operand → Value} {r : Rf → AV} {w : World} {C : Ctx} {R : Operand → Rf → Bool} {ce : CE} {σ : List Blk} {nl : Nat} {ps : List Pend}

theorem call_builtin {o : Oper} {ca : Call} {bi : Builtin} (ho : o.op = .call ca) (hc : ca.callee = .builtin bi) (w : World) :
    (execOp a.eval o).run P w = (builtin bi ca.argTypes o.type (ca.args.map fun | .const _ => true | _ => false) (ca.args.map a.eval)).run P w := by
  simp only [execOp, ho, resolve, hc, Sem.run_bind, Sem.run_pure, Result.andThen_ok, invoke]
  rfl

theorem append_does {o : Oper} {ca : Call} {s x : Operand} {t t' : TypeId} {Post : Value → World → Prop} {v : Value} {w' : World} (ho : o.op = .call ca) (hc : ca.callee = .builtin .append) (ha : ca.args.toList = [s, x]) (hat : ca.argTypes.toList = [t, t'])
    (h : (Builtin.append_ #[t, t'] o.type #[a.eval s, a.eval x]).run P w = .ok v w') (hp : Post v w') : Does P o a w Post := by
  have ha' : ca.args = #[s, x] := by rw [← Array.toList_inj]; simpa using ha
  have hat' : ca.argTypes = #[t, t'] := by rw [← Array.toList_inj]; simpa using hat
  refine Does.val (v := v) (w' := w') ?_ hp
  rw [call_builtin ho hc]
  simp only [builtin, ha', hat', Sem.run_bind]
  have : Array.map a.eval #[s, x] = #[a.eval s, a.eval x] := by simp
  rw [this, h]
  simp

/-- A new block behind an append: what was in use, then what is added. -/
theorem grown_block {cells cs : List AV} {olds vals : List Value} {rest : Array Value} {H : Array Obj} (h1 : olds.length = cells.length) (h2 : vals.length = cs.length)
    (ho : ∀ (i : Nat) q, cells[i]? = some q → ∃ y, olds[i]? = some y ∧ VR C H q y ∧ y.oneCell' = true) (hv : ∀ (i : Nat) q, cs[i]? = some q → ∃ y, vals[i]? = some y ∧ VR C H q y ∧ y.oneCell' = true) :
    (cells ++ cs).length ≤ (olds.toArray ++ vals.toArray ++ rest).size ∧ ∀ (i : Nat) q, (cells ++ cs)[i]? = some q → ∃ y, (olds.toArray ++ vals.toArray ++ rest)[i]? = some y ∧ VR C H q y ∧ y.oneCell' = true := by
  refine ⟨by simp; omega, fun i q hi => ?_⟩
  have hlt := (List.getElem?_eq_some_iff.1 hi).1
  simp at hlt
  rw [Array.getElem?_append_left (by simp; omega)]
  by_cases hl : i < cells.length
  · rw [List.getElem?_append_left hl] at hi
    obtain ⟨y, g1, g2⟩ := ho i q hi
    exact ⟨y, by rw [Array.getElem?_append_left (by simp; omega)]; simpa using g1, g2⟩
  · rw [List.getElem?_append_right (by omega)] at hi
    obtain ⟨y, g1, g2⟩ := hv _ q hi
    exact ⟨y, by rw [Array.getElem?_append_right (by simp; omega)]; simpa [h1] using g1, g2⟩

theorem drew_heap (w : World) : w.drew.heap = w.heap := rfl

/-- The new block of an append that grew, as an entry (b, cells ++ cs). -/
theorem post_grown {B : Blk} {b : Nat} {c : Array Value} {el : TypeId} (hg : Good C w) (hb : ¬ C.lim b B.cells.length) (hst : B.st = .live) (hle : B.cells.length ≤ c.size) (hc : ∀ (i : Nat) x, B.cells[i]? = some x → ∃ y, c[i]? = some y ∧ VR C w.heap x y ∧ y.oneCell' = true) :
    Good (addOwn C b B.cells.length (B, w.heap.size)) (pushW w.drew (.cells c el)) ∧ Step C w (addOwn C b B.cells.length (B, w.heap.size)) (pushW w.drew (.cells c el)) := by
  have h1 : Good C w.drew := hg.heap rfl
  obtain ⟨g1, g2⟩ := push_own h1 B hb c el hst hle hc
  exact ⟨g1, (Step.heap (C := C) (w := w) (w' := w.drew) rfl rfl rfl rfl).trans g2⟩

/-- Written behind the cells in use. -/
theorem post_fits {B : Blk} {b id : Nat} {cs : List AV} {c : Array Value} {el : TypeId} {vals : List Value} (hg : Good C w) (ho : C.own b B.cells.length = some (B, id)) (hl : B.st = .live) (hnew : ¬ C.lim b (B.cells ++ cs).length)
    (honly : ∀ u' B' id', C.own b u' = some (B', id') → u' = B.cells.length) (hH : w.heap[id]? = some (.cells c el (0, 0))) (hfit : B.cells.length + vals.length ≤ c.size) (hvl : vals.length = cs.length)
    (hv : ∀ (i : Nat) q, cs[i]? = some q → ∃ y, vals[i]? = some y ∧ VR C w.heap q y ∧ y.oneCell' = true) :
    Good (addOwn C b (B.cells ++ cs).length (⟨B.k, B.cells ++ cs, .live⟩, id)) (w.setRow id (c.toList.take B.cells.length ++ vals ++ c.toList.drop (B.cells.length + vals.length)).toArray) ∧
    Step C w (addOwn C b (B.cells ++ cs).length (⟨B.k, B.cells ++ cs, .live⟩, id)) (w.setRow id (c.toList.take B.cells.length ++ vals ++ c.toList.drop (B.cells.length + vals.length)).toArray) := by
  have hown : owned C id := ⟨b, _, B, ho, hl⟩
  generalize hc' : (c.toList.take B.cells.length ++ vals ++ c.toList.drop (B.cells.length + vals.length)).toArray = c'
  have hs : c'.size = c.size := by subst hc'; simp; omega
  have hget : ∀ i, c'[i]? = if B.cells.length ≤ i ∧ i < B.cells.length + vals.length then vals[i - B.cells.length]? else c[i]? := fun i => by
    subst hc'
    simp only [List.getElem?_toArray]
    by_cases h1 : i < B.cells.length
    · rw [if_neg (by omega), List.append_assoc, List.getElem?_append_left (by simp; omega), List.getElem?_take_of_lt h1]; simp
    · by_cases h2 : i < B.cells.length + vals.length
      · rw [if_pos ⟨by omega, h2⟩, List.getElem?_append_left (by simp; omega), List.getElem?_append_right (by simp; omega)]
        congr 1; simp; omega
      · rw [if_neg (by omega), List.getElem?_append_right (by simp; omega), List.getElem?_drop]
        simp
        congr 1; omega
  have ev := setRow_evol (c' := c') hg hown hH hs (addOwn C b (B.cells ++ cs).length (⟨B.k, B.cells ++ cs, .live⟩, id)) (fun _ h => h) (fun _ _ h => .inr h) (fun b' u' B' i hlm ho' => by
    have hne : ¬ (b' = b ∧ u' = (B.cells ++ cs).length) := fun ⟨e1, e2⟩ => hnew (e1 ▸ e2 ▸ hlm)
    simp only [addOwn, if_neg hne] at ho'
    exact ⟨B', ho', rfl, rfl⟩)
  obtain ⟨n1, c0, el0, n2, n3, n4⟩ := hg.live b _ B id ho hl
  rw [hH] at n2
  simp only [Option.some.injEq, Obj.cells.injEq] at n2
  obtain ⟨rfl, rfl, _⟩ := n2
  have hnewid : (w.setRow id c').heap[id]? = some (.cells c' el (0, 0)) := setRow_heap w id c c' el (0, 0) hH
  refine ⟨⟨fun k hk => by rw [setRow_size]; exact hg.I k hk, fun b' u' B' i ho' => ?_, fun b' u' B' i ho' hl' => ?_, fun b1 u1 B1 i1 b2 u2 B2 i2 k1 l1 k2 l2 hne => ?_⟩,
    ⟨ev, by rw [setRow_size]; exact Nat.le_refl _, fun k hk hno => setRow_other w id c' fun e => hno (e ▸ hown), fun k hk => ?_, fun k hk => .inl hk, rfl, rfl, rfl⟩⟩
  · by_cases e : b' = b ∧ u' = (B.cells ++ cs).length
    · simp only [addOwn, if_pos e] at ho'
      simp at ho'; obtain ⟨rfl, rfl⟩ := ho'
      exact ⟨.inl e, e.2, fun h => by simp at h, by simp⟩
    · simp only [addOwn, if_neg e] at ho'
      obtain ⟨j1, j2, j3, j4⟩ := hg.ent b' u' B' i ho'
      exact ⟨.inr j1, j2, j3, j4⟩
  · by_cases e : b' = b ∧ u' = (B.cells ++ cs).length
    · simp only [addOwn, if_pos e] at ho'
      simp at ho'; obtain ⟨rfl, rfl⟩ := ho'
      refine ⟨n1, c', el, hnewid, by rw [hs]; simp; omega, fun i q hi => ?_⟩
      rw [hget]
      by_cases h1 : i < B.cells.length
      · have hi' : (B.cells ++ cs)[i]? = some q := hi
        rw [List.getElem?_append_left h1] at hi'
        obtain ⟨y, m1, m2, m3⟩ := n4 i q hi'
        exact ⟨y, by rw [if_neg (by omega)]; exact m1, VR.mono ev _ _ m2, m3⟩
      · have hi' : (B.cells ++ cs)[i]? = some q := hi
        rw [List.getElem?_append_right (by omega)] at hi'
        have hlt := (List.getElem?_eq_some_iff.1 hi').1
        obtain ⟨y, m1, m2, m3⟩ := hv _ q hi'
        exact ⟨y, by rw [if_pos ⟨by omega, by omega⟩]; exact m1, VR.mono ev _ _ m2, m3⟩
    · simp only [addOwn, if_neg e] at ho'
      obtain ⟨j1, c1, el1, j2, j3, j4⟩ := hg.live b' u' B' i ho' hl'
      by_cases hi : i = id
      · subst hi
        have hbb : b' = b := Decidable.byContradiction fun h => hg.apart b' u' B' i b _ B i ho' hl' ho hl h rfl
        subst hbb
        have hu := honly u' B' i ho'
        have hlen := (hg.ent b' u' B' i ho').2.1
        rw [hH] at j2
        simp only [Option.some.injEq, Obj.cells.injEq] at j2
        obtain ⟨rfl, rfl, _⟩ := j2
        refine ⟨j1, c', el, hnewid, by omega, fun i' q hq => ?_⟩
        have hlt := (List.getElem?_eq_some_iff.1 hq).1
        obtain ⟨y, m1, m2, m3⟩ := j4 i' q hq
        exact ⟨y, by rw [hget, if_neg (by omega)]; exact m1, VR.mono ev _ _ m2, m3⟩
      · refine ⟨j1, c1, el1, by rw [setRow_other w id c' hi]; exact j2, j3, fun i' q hq => ?_⟩
        obtain ⟨y, m1, m2, m3⟩ := j4 i' q hq
        exact ⟨y, m1, VR.mono ev _ _ m2, m3⟩
  · have hb : ∀ b' u' B' i, (addOwn C b (B.cells ++ cs).length (⟨B.k, B.cells ++ cs, .live⟩, id)).own b' u' = some (B', i) → B'.st = .live → ∃ u'' B'', C.own b' u'' = some (B'', i) ∧ B''.st = .live := by
      intro b' u' B' i ho' hl'
      by_cases e : b' = b ∧ u' = (B.cells ++ cs).length
      · simp only [addOwn, if_pos e] at ho'
        simp at ho'; obtain ⟨rfl, rfl⟩ := ho'
        exact ⟨_, B, by rw [e.1]; exact ho, hl⟩
      · simp only [addOwn, if_neg e] at ho'
        exact ⟨u', B', ho', hl'⟩
    obtain ⟨_, _, q1, q2⟩ := hb b1 u1 B1 i1 k1 l1
    obtain ⟨_, _, q3, q4⟩ := hb b2 u2 B2 i2 k2 l2
    exact hg.apart _ _ _ _ _ _ _ _ q1 q2 q3 q4 hne
  · obtain ⟨b', u', B', ho', hl'⟩ := hk
    by_cases e : b' = b ∧ u' = (B.cells ++ cs).length
    · simp only [addOwn, if_pos e] at ho'
      simp at ho'; obtain ⟨rfl, rfl⟩ := ho'
      exact .inl hown
    · simp only [addOwn, if_neg e] at ho'
      exact .inl ⟨b', u', B', ho', hl'⟩
end
end Ab
