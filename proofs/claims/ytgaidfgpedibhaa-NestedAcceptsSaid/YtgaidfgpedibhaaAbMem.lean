/- What new blocks, stores and calls do to what is known of memory. Condition: none. -/
import Derived.Test.YtgaidfgpedibhaaAbPlain2
set_option linter.all false
namespace Ab
open Go
variable {P : Program}

/-- The operation, in this state, yields a value and a world of which Post holds. -/
def Does (P : Program) (o : Oper) (a : Act) (w : World) (Post : Value → World → Prop) : Prop :=
  ∀ (K : Act → World → Prop) (Q : Exit → Act → World → Prop), (∀ v w', Post v w' → K (a.put o.dst v) w') → o.wp P a w K Q

theorem Does.val {o : Oper} {a : Act} {w w' : World} {v : Value} {Post : Value → World → Prop} (h : (execOp a.eval o).run P w = .ok (.value v) w') (hp : Post v w') : Does P o a w Post := fun K Q hk => by
  unfold Oper.wp; rw [h]; exact hk _ _ hp
theorem Does.skip {o : Oper} {a : Act} {w w' : World} {Post : Value → World → Prop} (h : (execOp a.eval o).run P w = .ok .skip w') (hp : Post undef w') : Does P o a w Post := fun K Q hk => by
  unfold Oper.wp; rw [h]; exact hk _ _ hp
theorem Does.call {o : Oper} {a : Act} {w : World} {f : FuncId} {args : Array Value} {Post : Value → World → Prop} (h : (execOp a.eval o).run P w = .ok (.enter f args) w)
    (hc : Calls P f args w fun e w' => ∃ v, e = .returned v ∧ Post v w') : Does P o a w Post := fun K Q hk => by
  unfold Oper.wp; rw [h]
  show Calls P f args w _
  exact hc.mono fun e w' ⟨v, he, hp⟩ => by subst he; exact hk _ _ hp
theorem Does.mono {o : Oper} {a : Act} {w : World} {Post Post' : Value → World → Prop} (h : Does P o a w Post) (hp : ∀ v w', Post v w' → Post' v w') : Does P o a w Post' :=
  fun K Q hk => h K Q fun v w' h' => hk v w' (hp v w' h')

/-- A new block. -/
def pushW (w : World) (o : Obj) : World := { w with heap := w.heap.push o }
theorem push_old (w : World) (o : Obj) {k : Nat} (h : k < w.heap.size) : (pushW w o).heap[k]? = w.heap[k]? := by
  show (w.heap.push o)[k]? = _
  rw [Array.getElem?_push, if_neg (by omega)]
theorem push_new (w : World) (o : Obj) : (pushW w o).heap[w.heap.size]? = some o := by
  show (w.heap.push o)[w.heap.size]? = _
  simp
theorem run_newRow (w : World) (el : TypeId) (cs : Array Value) : (newRow el cs).run P w = .ok ⟨w.heap.size, 0, none⟩ (pushW w (.cells cs el)) := rfl
theorem run_newVar (w : World) (t : TypeId) (v : Value) : (newVar t v).run P w = .ok ⟨w.heap.size, 0, none⟩ (pushW w (.cells v.cells t)) := rfl

/-- A world in which what was below is as it was. -/
theorem Good.grow {C : Ctx} {w w' : World} (hg : Good C w) (hs : w.heap.size ≤ w'.heap.size) (hsame : ∀ k, k < w.heap.size → w'.heap[k]? = w.heap[k]?) : Good C w' ∧ Evol C w.heap C w'.heap := by
  have ev : Evol C w.heap C w'.heap := by
    refine ⟨fun _ h => h, fun k hk => hsame k (hg.I k hk), fun _ _ h => h, fun b u B' id _ ho => ⟨B', ho, rfl, rfl, fun c el hc => ⟨c, ?_, rfl⟩⟩⟩
    rw [hsame id (Array.getElem?_eq_some_iff.1 hc).1]; exact hc
  refine ⟨⟨fun k hk => Nat.lt_of_lt_of_le (hg.I k hk) hs, hg.ent, fun b u B id ho hl => ?_, hg.apart⟩, ev⟩
  obtain ⟨h1, c, el, h2, h3, h4⟩ := hg.live b u B id ho hl
  refine ⟨h1, c, el, by rw [hsame id (Array.getElem?_eq_some_iff.1 h2).1]; exact h2, h3, fun i x hi => ?_⟩
  obtain ⟨y, g1, g2, g3⟩ := h4 i x hi
  exact ⟨y, g1, VR.mono ev _ _ g2, g3⟩

/-- The same, and some of what is new is never written. -/
theorem Good.growI {C : Ctx} {w w' : World} (hg : Good C w) (hs : w.heap.size ≤ w'.heap.size) (hsame : ∀ k, k < w.heap.size → w'.heap[k]? = w.heap[k]?) (I' : Nat → Prop) (h1 : ∀ k, C.I k → I' k) (h2 : ∀ k, I' k → k < w'.heap.size)
    (h3 : ∀ k, I' k → C.I k ∨ w.heap.size ≤ k) (ho : w'.os = w.os) (ht : w'.tape = w.tape) (hout : w'.output = w.output) : Good { C with I := I' } w' ∧ Step C w { C with I := I' } w' := by
  have ev : Evol C w.heap { C with I := I' } w'.heap := by
    refine ⟨h1, fun k hk => hsame k (hg.I k hk), fun _ _ h => h, fun b u B' id _ ho => ⟨B', ho, rfl, rfl, fun c el hc => ⟨c, ?_, rfl⟩⟩⟩
    rw [hsame id (Array.getElem?_eq_some_iff.1 hc).1]; exact hc
  refine ⟨⟨h2, hg.ent, fun b u B id ho hl => ?_, hg.apart⟩, ⟨ev, hs, fun k hk _ => hsame k hk, fun k hk => .inl hk, fun k hk => (h3 k hk).elim .inl (fun h => .inr (.inr h)), ho, ht, hout⟩⟩
  obtain ⟨g1, c, el, g2, g3, g4⟩ := hg.live b u B id ho hl
  have hlt := (Array.getElem?_eq_some_iff.1 g2).1
  refine ⟨fun hi => (h3 id hi).elim g1 (fun h => by omega), c, el, by rw [hsame id hlt]; exact g2, g3, fun i x hi => ?_⟩
  obtain ⟨y, k1, k2, k3⟩ := g4 i x hi
  exact ⟨y, k1, VR.mono ev _ _ k2, k3⟩

/-- A new block that nobody will write. -/
theorem push_imm {C : Ctx} {w : World} (hg : Good C w) (c : Array Value) (el : TypeId) : Good { C with I := fun k => C.I k ∨ k = w.heap.size } (pushW w (.cells c el)) ∧ Step C w { C with I := fun k => C.I k ∨ k = w.heap.size } (pushW w (.cells c el)) :=
  hg.growI (by simp [pushW]) (fun k hk => push_old w _ hk) _ (fun k hk => .inl hk) (fun k hk => hk.elim (fun h => by have := hg.I k h; simp [pushW]; omega) (fun h => by simp [pushW]; omega))
    (fun k hk => hk.elim .inl (fun h => .inr (by omega))) rfl rfl rfl

/-- What an operation's entry adds to what is owned. -/
def addOwn (C : Ctx) (b u : Nat) (e : Blk × Nat) : Ctx where
  I := C.I
  own := fun b' u' => if b' = b ∧ u' = u then some e else C.own b' u'
  lim := fun b' u' => (b' = b ∧ u' = u) ∨ C.lim b' u'

/-- A new owned block. -/
theorem push_own {C : Ctx} {w : World} (hg : Good C w) {b : Nat} (B : Blk) (hb : ¬ C.lim b B.cells.length) (c : Array Value) (el : TypeId) (hst : B.st = .live) (hle : B.cells.length ≤ c.size)
    (hc : ∀ (i : Nat) x, B.cells[i]? = some x → ∃ y, c[i]? = some y ∧ VR C w.heap x y ∧ y.oneCell' = true) :
    Good (addOwn C b B.cells.length (B, w.heap.size)) (pushW w (.cells c el)) ∧ Step C w (addOwn C b B.cells.length (B, w.heap.size)) (pushW w (.cells c el)) := by
  have ev : Evol C w.heap (addOwn C b B.cells.length (B, w.heap.size)) (pushW w (.cells c el)).heap := by
    refine ⟨fun _ h => h, fun k hk => push_old w _ (hg.I k hk), fun _ _ h => .inr h, fun b' u' B' id hl ho => ?_⟩
    have hne : ¬ (b' = b ∧ u' = B.cells.length) := fun ⟨e1, e2⟩ => hb (e1 ▸ e2 ▸ hl)
    simp only [addOwn, if_neg hne] at ho
    refine ⟨B', ho, rfl, rfl, fun c' el' hc' => ⟨c', ?_, rfl⟩⟩
    rw [push_old w _ (Array.getElem?_eq_some_iff.1 hc').1]; exact hc'
  have hlt : ∀ k, owned C k → k < w.heap.size := fun k hk => hg.lt hk
  refine ⟨⟨fun k hk => by have := hg.I k hk; simp [pushW]; omega, fun b' u' B' id ho => ?_, fun b' u' B' id ho hl => ?_, fun b1 u1 B1 i1 b2 u2 B2 i2 h1 l1 h2 l2 hne => ?_⟩,
    ⟨ev, by simp [pushW], fun k hk _ => push_old w _ hk, fun k hk => ?_, fun k hk => .inl hk, rfl, rfl, rfl⟩⟩
  · by_cases he : b' = b ∧ u' = B.cells.length
    · simp only [addOwn, if_pos he] at ho
      simp at ho; obtain ⟨rfl, rfl⟩ := ho
      exact ⟨.inl he, he.2, fun h => by rw [hst] at h; simp at h, by rw [hst]; simp⟩
    · simp only [addOwn, if_neg he] at ho
      obtain ⟨k1, k2, k3, k4⟩ := hg.ent b' u' B' id ho
      exact ⟨.inr k1, k2, k3, k4⟩
  · by_cases he : b' = b ∧ u' = B.cells.length
    · simp only [addOwn, if_pos he] at ho
      simp at ho; obtain ⟨rfl, rfl⟩ := ho
      refine ⟨fun hi => Nat.lt_irrefl _ (hg.I _ hi), c, el, push_new w _, hle, fun i x hi => ?_⟩
      obtain ⟨y, k1, k2, k3⟩ := hc i x hi
      exact ⟨y, k1, VR.mono ev _ _ k2, k3⟩
    · simp only [addOwn, if_neg he] at ho
      obtain ⟨k1, c', el', k2, k3, k4⟩ := hg.live b' u' B' id ho hl
      refine ⟨k1, c', el', by rw [push_old w _ (Array.getElem?_eq_some_iff.1 k2).1]; exact k2, k3, fun i x hi => ?_⟩
      obtain ⟨y, j1, j2, j3⟩ := k4 i x hi
      exact ⟨y, j1, VR.mono ev _ _ j2, j3⟩
  · by_cases e1 : b1 = b ∧ u1 = B.cells.length <;> by_cases e2 : b2 = b ∧ u2 = B.cells.length
    · exact absurd (e1.1.trans e2.1.symm) hne
    · simp only [addOwn, if_pos e1] at h1; simp only [addOwn, if_neg e2] at h2
      simp at h1; obtain ⟨rfl, rfl⟩ := h1
      have := hlt i2 ⟨b2, u2, B2, h2, l2⟩; omega
    · simp only [addOwn, if_neg e1] at h1; simp only [addOwn, if_pos e2] at h2
      simp at h2; obtain ⟨rfl, rfl⟩ := h2
      have := hlt i1 ⟨b1, u1, B1, h1, l1⟩; omega
    · simp only [addOwn, if_neg e1] at h1; simp only [addOwn, if_neg e2] at h2
      exact hg.apart b1 u1 B1 i1 b2 u2 B2 i2 h1 l1 h2 l2 hne
  · obtain ⟨b', u', B', ho, hl⟩ := hk
    by_cases he : b' = b ∧ u' = B.cells.length
    · simp only [addOwn, if_pos he] at ho
      simp at ho; right; omega
    · simp only [addOwn, if_neg he] at ho
      exact .inl ⟨b', u', B', ho, hl⟩
end Ab
