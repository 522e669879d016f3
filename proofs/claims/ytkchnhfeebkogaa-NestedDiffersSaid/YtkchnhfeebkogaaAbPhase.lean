/- Memory, and each operation that makes, lengthens or turns blocks, is what the small language says. Condition: the callees answer as the interpreter says. Two more operations of Go's: the capacity of a nil slice, and clear. One operation of a phase, whatever it is. Condition: the callees answer as the interpreter says. Condition: none. -/
import Derived.Test.YtkchnhfeebkogaaAbM
import Derived.Great.BuildSlice
import Derived.Laws.CopyRow
import Derived.Laws.BytesString
set_option linter.all false
namespace Ab
open Go
variable {P : Program}
def Does (P : Program) (o : Oper) (a : Act) (w : World) (Post : Value → World → Prop) : Prop :=
  ∀ (K : Act → World → Prop) (Q : Exit → Act → World → Prop), (∀ v w', Post v w' → K (a.put o.dst v) w') → o.wp P a w K Q
theorem Does.val {o : Oper} {a : Act} {w w' : World} {v : Value} {Post : Value → World → Prop} (h : (execOp a.eval o).run P w = .ok (.value v) w') (hp : Post v w') : Does P o a w Post := fun K Q hk => by
  unfold Oper.wp; rw [h]; exact hk _ _ hp
theorem Does.skip {o : Oper} {a : Act} {w w' : World} {Post : Value → World → Prop} (h : (execOp a.eval o).run P w = .ok .skip w') (hp : Post undef w') : Does P o a w Post := fun K Q hk => by
  unfold Oper.wp; rw [h]; exact hk _ _ hp
theorem Does.call {o : Oper} {a : Act} {w : World} {f : FuncId} {args : Array Value} {Post : Value → World → Prop} (h : (execOp a.eval o).run P w = .ok (.enter f args) w)
    (hc : Calls P f args w fun e w' => ∃ v, e = .returned v ∧ Post v w') : Does P o a w Post := fun K Q hk => by
  unfold Oper.wp; rw [h]
  show Calls P f args w _
  exact hc.mono fun e w' ⟨v, he, hp⟩ => by subst he; exact hk _ _ hp
theorem Does.mono {o : Oper} {a : Act} {w : World} {Post Post' : Value → World → Prop} (h : Does P o a w Post) (hp : ∀ v w', Post v w' → Post' v w') : Does P o a w Post' :=
  fun K Q hk => h K Q fun v w' h' => hk v w' (hp v w' h')
def pushW (w : World) (o : Obj) : World := { w with heap := w.heap.push o }
theorem zQh6 (w : World) (o : Obj) {k : Nat} (h : k < w.heap.size) : (pushW w o).heap[k]? = w.heap[k]? := by
  show (w.heap.push o)[k]? = _
  rw [Array.getElem?_push, if_neg (by omega)]
theorem zew4 (w : World) (o : Obj) : (pushW w o).heap[w.heap.size]? = some o := by
  show (w.heap.push o)[w.heap.size]? = _
  simp
theorem zpaT (w : World) (el : TypeId) (cs : Array Value) : (newRow el cs).run P w = .ok ⟨w.heap.size, 0, none⟩ (pushW w (.cells cs el)) := rfl
theorem z4r6 (w : World) (t : TypeId) (v : Value) : (newVar t v).run P w = .ok ⟨w.heap.size, 0, none⟩ (pushW w (.cells v.cells t)) := rfl
theorem Good.grow {C : Ctx} {w w' : World} (hg : Good C w) (hs : w.heap.size ≤ w'.heap.size) (hsame : ∀ k, k < w.heap.size → w'.heap[k]? = w.heap[k]?) : Good C w' ∧ Evol C w.heap C w'.heap := by
  have ev : Evol C w.heap C w'.heap := by
    refine ⟨fun _ h => h, fun k hk => hsame k (hg.I k hk), fun _ _ h => h, fun b u B' id _ ho => ⟨B', ho, rfl, rfl, fun c el hc => ⟨c, ?_, rfl⟩⟩⟩
    rw [hsame id (Array.getElem?_eq_some_iff.1 hc).1]; exact hc
  refine ⟨⟨fun k hk => Nat.lt_of_lt_of_le (hg.I k hk) hs, hg.ent, fun b u B id ho hl => ?_, hg.apart, fun b u B id es ho hl => hg.maps_keep (fun _ h => h) (fun k hk => hsame k (hg.I k hk)) ho hl (hsame id (hg.lt ⟨b, u, B, ho, z9Su hl⟩)) (hg.maps b u B id es ho hl).1⟩, ev⟩
  obtain ⟨h1, c, el, h2, h3, h4⟩ := hg.live b u B id ho hl
  refine ⟨h1, c, el, by rw [hsame id (Array.getElem?_eq_some_iff.1 h2).1]; exact h2, h3, fun i x hi => ?_⟩
  obtain ⟨y, g1, g2, g3⟩ := h4 i x hi
  exact ⟨y, g1, VR.mono ev _ _ g2, g3⟩
theorem Good.growI {C : Ctx} {w w' : World} (hg : Good C w) (hs : w.heap.size ≤ w'.heap.size) (hsame : ∀ k, k < w.heap.size → w'.heap[k]? = w.heap[k]?) (I' : Nat → Prop) (h1 : ∀ k, C.I k → I' k) (h2 : ∀ k, I' k → k < w'.heap.size)
    (h3 : ∀ k, I' k → C.I k ∨ w.heap.size ≤ k) (ho : w'.os = w.os) (ht : w'.tape = w.tape ∧ w.drawn ≤ w'.drawn) (hout : w'.output = w.output) : Good { C with I := I' } w' ∧ Step C w { C with I := I' } w' := by
  have ev : Evol C w.heap { C with I := I' } w'.heap := by
    refine ⟨h1, fun k hk => hsame k (hg.I k hk), fun _ _ h => h, fun b u B' id _ ho => ⟨B', ho, rfl, rfl, fun c el hc => ⟨c, ?_, rfl⟩⟩⟩
    rw [hsame id (Array.getElem?_eq_some_iff.1 hc).1]; exact hc
  refine ⟨⟨h2, hg.ent, fun b u B id ho hl => ?_, hg.apart, fun b u B id es ho hl => hg.maps_keep h1 (fun k hk => hsame k (hg.I k hk)) ho hl (hsame id (hg.lt ⟨b, u, B, ho, z9Su hl⟩)) (fun hi => (h3 id hi).elim (hg.maps b u B id es ho hl).1 (fun h => by have := hg.lt ⟨b, u, B, ho, z9Su hl⟩; omega))⟩, ⟨ev, hs, fun k hk _ => hsame k hk, fun k hk => .inl hk, fun k hk => (h3 k hk).elim .inl (fun h => .inr (.inr h)), ho, ht, hout⟩⟩
  obtain ⟨g1, c, el, g2, g3, g4⟩ := hg.live b u B id ho hl
  have hlt := (Array.getElem?_eq_some_iff.1 g2).1
  refine ⟨fun hi => (h3 id hi).elim g1 (fun h => by omega), c, el, by rw [hsame id hlt]; exact g2, g3, fun i x hi => ?_⟩
  obtain ⟨y, k1, k2, k3⟩ := g4 i x hi
  exact ⟨y, k1, VR.mono ev _ _ k2, k3⟩
theorem z6xf {C : Ctx} {w : World} (hg : Good C w) (c : Array Value) (el : TypeId) : Good { C with I := fun k => C.I k ∨ k = w.heap.size } (pushW w (.cells c el)) ∧ Step C w { C with I := fun k => C.I k ∨ k = w.heap.size } (pushW w (.cells c el)) :=
  hg.growI (by simp [pushW]) (fun k hk => zQh6 w _ hk) _ (fun k hk => .inl hk) (fun k hk => hk.elim (fun h => by have := hg.I k h; simp [pushW]; omega) (fun h => by simp [pushW]; omega))
    (fun k hk => hk.elim .inl (fun h => .inr (by omega))) rfl ⟨rfl, Nat.le_refl _⟩ rfl
def addOwn (C : Ctx) (b u : Nat) (e : Blk × Nat) : Ctx where
  I := C.I
  own := fun b' u' => if b' = b ∧ u' = u then some e else C.own b' u'
  lim := fun b' u' => (b' = b ∧ u' = u) ∨ C.lim b' u'
theorem zj2x {C : Ctx} {w : World} (hg : Good C w) {b : Nat} (B : Blk) (hb : ¬ C.lim b B.cells.length) (c : Array Value) (el : TypeId) (hst : B.st = .live) (hle : B.cells.length ≤ c.size)
    (hc : ∀ (i : Nat) x, B.cells[i]? = some x → ∃ y, c[i]? = some y ∧ VR C w.heap x y ∧ y.oneCell' = true) :
    Good (addOwn C b B.cells.length (B, w.heap.size)) (pushW w (.cells c el)) ∧ Step C w (addOwn C b B.cells.length (B, w.heap.size)) (pushW w (.cells c el)) := by
  have ev : Evol C w.heap (addOwn C b B.cells.length (B, w.heap.size)) (pushW w (.cells c el)).heap := by
    refine ⟨fun _ h => h, fun k hk => zQh6 w _ (hg.I k hk), fun _ _ h => .inr h, fun b' u' B' id hl ho => ?_⟩
    have hne : ¬ (b' = b ∧ u' = B.cells.length) := fun ⟨e1, e2⟩ => hb (e1 ▸ e2 ▸ hl)
    simp only [addOwn, if_neg hne] at ho
    refine ⟨B', ho, rfl, rfl, fun c' el' hc' => ⟨c', ?_, rfl⟩⟩
    rw [zQh6 w _ (Array.getElem?_eq_some_iff.1 hc').1]; exact hc'
  have hlt : ∀ k, owned C k → k < w.heap.size := fun k hk => hg.lt hk
  refine ⟨⟨fun k hk => by have := hg.I k hk; simp [pushW]; omega, fun b' u' B' id ho => ?_, fun b' u' B' id ho hl => ?_, fun b1 u1 B1 i1 b2 u2 B2 i2 h1 l1 h2 l2 hne => ?_, fun b' u' B' id es ho hl => ?_⟩,
    ⟨ev, by simp [pushW], fun k hk _ => zQh6 w _ hk, fun k hk => ?_, fun k hk => .inl hk, rfl, ⟨rfl, Nat.le_refl _⟩, rfl⟩⟩
  · by_cases he : b' = b ∧ u' = B.cells.length
    · simp only [addOwn, if_pos he] at ho
      simp at ho; obtain ⟨rfl, rfl⟩ := ho
      exact ⟨.inl he, he.2, fun h => by rw [hst] at h; simp at h, by rw [hst]; simp⟩
    · simp only [addOwn, if_neg he] at ho
      obtain ⟨k1, k2, k3, k4⟩ := hg.ent b' u' B' id ho
      exact ⟨.inr k1, k2, k3, k4⟩
  · by_cases he : b' = b ∧ u' = B.cells.length
    · simp only [addOwn, if_pos he] at ho
      simp at ho; obtain ⟨rfl, rfl⟩ := ho
      refine ⟨fun hi => Nat.lt_irrefl _ (hg.I _ hi), c, el, zew4 w _, hle, fun i x hi => ?_⟩
      obtain ⟨y, k1, k2, k3⟩ := hc i x hi
      exact ⟨y, k1, VR.mono ev _ _ k2, k3⟩
    · simp only [addOwn, if_neg he] at ho
      obtain ⟨k1, c', el', k2, k3, k4⟩ := hg.live b' u' B' id ho hl
      refine ⟨k1, c', el', by rw [zQh6 w _ (Array.getElem?_eq_some_iff.1 k2).1]; exact k2, k3, fun i x hi => ?_⟩
      obtain ⟨y, j1, j2, j3⟩ := k4 i x hi
      exact ⟨y, j1, VR.mono ev _ _ j2, j3⟩
  · by_cases e1 : b1 = b ∧ u1 = B.cells.length <;> by_cases e2 : b2 = b ∧ u2 = B.cells.length
    · exact absurd (e1.1.trans e2.1.symm) hne
    · simp only [addOwn, if_pos e1] at h1; simp only [addOwn, if_neg e2] at h2
      simp at h1; obtain ⟨rfl, rfl⟩ := h1
      have := hlt i2 ⟨b2, u2, B2, h2, l2⟩; omega
    · simp only [addOwn, if_neg e1] at h1; simp only [addOwn, if_pos e2] at h2
      simp at h2; obtain ⟨rfl, rfl⟩ := h2
      have := hlt i1 ⟨b1, u1, B1, h1, l1⟩; omega
    · simp only [addOwn, if_neg e1] at h1; simp only [addOwn, if_neg e2] at h2
      exact hg.apart b1 u1 B1 i1 b2 u2 B2 i2 h1 l1 h2 l2 hne
  · by_cases he : b' = b ∧ u' = B.cells.length
    · simp only [addOwn, if_pos he] at ho
      simp at ho; obtain ⟨rfl, rfl⟩ := ho
      rw [hst] at hl; simp at hl
    · simp only [addOwn, if_neg he] at ho
      exact hg.maps_keep (C' := addOwn C b B.cells.length (B, w.heap.size)) (w' := pushW w (.cells c el)) (fun _ h => h) (fun k hk => zQh6 w _ (hg.I k hk)) ho hl (zQh6 w _ (hlt id ⟨b', u', B', ho, z9Su hl⟩)) (hg.maps b' u' B' id es ho hl).1
  · obtain ⟨b', u', B', ho, hl⟩ := hk
    by_cases he : b' = b ∧ u' = B.cells.length
    · simp only [addOwn, if_pos he] at ho
      simp at ho; right; omega
    · simp only [addOwn, if_neg he] at ho
      exact .inl ⟨b', u', B', ho, hl⟩
theorem zT19 {C : Ctx} {w : World} (hg : Good C w) {b : Nat} (hb : ¬ C.lim b 0) :
    Good (addOwn C b 0 (⟨some 0, [], .map []⟩, w.heap.size)) (pushW w (.map #[] 0)) ∧ Step C w (addOwn C b 0 (⟨some 0, [], .map []⟩, w.heap.size)) (pushW w (.map #[] 0)) := by
  have ev : Evol C w.heap (addOwn C b 0 (⟨some 0, [], .map []⟩, w.heap.size)) (pushW w (.map #[] 0)).heap := by
    refine ⟨fun _ h => h, fun k hk => zQh6 w _ (hg.I k hk), fun _ _ h => .inr h, fun b' u' B' id hl ho => ?_⟩
    have hne : ¬ (b' = b ∧ u' = 0) := fun ⟨e1, e2⟩ => hb (e1 ▸ e2 ▸ hl)
    simp only [addOwn, if_neg hne] at ho
    refine ⟨B', ho, rfl, rfl, fun c' el' hc' => ⟨c', ?_, rfl⟩⟩
    rw [zQh6 w _ (Array.getElem?_eq_some_iff.1 hc').1]; exact hc'
  have hlt : ∀ k, owned C k → k < w.heap.size := fun k hk => hg.lt hk
  refine ⟨⟨fun k hk => by have := hg.I k hk; simp [pushW]; omega, fun b' u' B' id ho => ?_, fun b' u' B' id ho hl => ?_, fun b1 u1 B1 i1 b2 u2 B2 i2 h1 l1 h2 l2 hne => ?_, fun b' u' B' id es ho hl => ?_⟩,
    ⟨ev, by simp [pushW], fun k hk _ => zQh6 w _ hk, fun k hk => ?_, fun k hk => .inl hk, rfl, ⟨rfl, Nat.le_refl _⟩, rfl⟩⟩
  · by_cases he : b' = b ∧ u' = 0
    · simp only [addOwn, if_pos he] at ho
      simp at ho; obtain ⟨rfl, rfl⟩ := ho
      exact ⟨.inl he, he.2, fun h => by simp at h, by simp⟩
    · simp only [addOwn, if_neg he] at ho
      obtain ⟨k1, k2, k3, k4⟩ := hg.ent b' u' B' id ho
      exact ⟨.inr k1, k2, k3, k4⟩
  · by_cases he : b' = b ∧ u' = 0
    · simp only [addOwn, if_pos he] at ho
      simp at ho; obtain ⟨rfl, rfl⟩ := ho
      simp at hl
    · simp only [addOwn, if_neg he] at ho
      obtain ⟨k1, c', el', k2, k3, k4⟩ := hg.live b' u' B' id ho hl
      refine ⟨k1, c', el', by rw [zQh6 w _ (Array.getElem?_eq_some_iff.1 k2).1]; exact k2, k3, fun i x hi => ?_⟩
      obtain ⟨y, j1, j2, j3⟩ := k4 i x hi
      exact ⟨y, j1, VR.mono ev _ _ j2, j3⟩
  · by_cases e1 : b1 = b ∧ u1 = 0 <;> by_cases e2 : b2 = b ∧ u2 = 0
    · exact absurd (e1.1.trans e2.1.symm) hne
    · simp only [addOwn, if_pos e1] at h1; simp only [addOwn, if_neg e2] at h2
      simp at h1; obtain ⟨rfl, rfl⟩ := h1
      have := hlt i2 ⟨b2, u2, B2, h2, l2⟩; omega
    · simp only [addOwn, if_neg e1] at h1; simp only [addOwn, if_pos e2] at h2
      simp at h2; obtain ⟨rfl, rfl⟩ := h2
      have := hlt i1 ⟨b1, u1, B1, h1, l1⟩; omega
    · simp only [addOwn, if_neg e1] at h1; simp only [addOwn, if_neg e2] at h2
      exact hg.apart b1 u1 B1 i1 b2 u2 B2 i2 h1 l1 h2 l2 hne
  · by_cases he : b' = b ∧ u' = 0
    · simp only [addOwn, if_pos he] at ho
      simp at ho; obtain ⟨rfl, rfl⟩ := ho
      simp at hl; subst hl
      exact ⟨fun hi => Nat.lt_irrefl _ (hg.I _ hi), #[], 0, zew4 w _, rfl⟩
    · simp only [addOwn, if_neg he] at ho
      exact hg.maps_keep (C' := addOwn C b 0 (⟨some 0, [], .map []⟩, w.heap.size)) (w' := pushW w (.map #[] 0)) (fun _ h => h) (fun k hk => zQh6 w _ (hg.I k hk)) ho hl (zQh6 w _ (hlt id ⟨b', u', B', ho, z9Su hl⟩)) (hg.maps b' u' B' id es ho hl).1
  · obtain ⟨b', u', B', ho, hl⟩ := hk
    by_cases he : b' = b ∧ u' = 0
    · simp only [addOwn, if_pos he] at ho
      simp at ho; right; omega
    · simp only [addOwn, if_neg he] at ho
      exact .inl ⟨b', u', B', ho, hl⟩
end Ab
set_option linter.all false
namespace Ab
open Go
variable {P : Program}
def CallOk (P : Program) (ce : CE) : Prop :=
  ∀ f args σ r σ', ce f args σ = some (r, σ') → ∀ (ids : Nat → Nat) (I : Nat → Prop) (w : World) (vs : List Value), Good (ctxOf σ ids I) w → VRL (ctxOf σ ids I) w.heap args vs →
    Calls P f vs.toArray w fun e w' => ∃ v ids' I', e = .returned v ∧ Good (ctxOf σ' ids' I') w' ∧ VR (ctxOf σ' ids' I') w'.heap r v ∧ Step (ctxOf σ ids I) w (ctxOf σ' ids' I') w'
def PostP (C : Ctx) (w : World) (x : AV) (v : Value) (w' : World) : Prop :=
  ∃ I', Good { C with I := I' } w' ∧ Step C w { C with I := I' } w' ∧ VR { C with I := I' } w'.heap x v
theorem PostP.same {C : Ctx} {w : World} {x : AV} {v : Value} (hg : Good C w) (h : VR C w.heap x v) : PostP C w x v w := ⟨C.I, hg, Step.refl _ _, h⟩
theorem zgS9 {C : Ctx} {w : World} (hg : Good C w) (ids : Nat → Nat) : Good (ctxOf [] ids C.I) w :=
  ⟨hg.I, fun b u B id h => by simp [ctxOf, blk] at h, fun b u B id h => by simp [ctxOf, blk] at h, fun b u B id b' u' B' id' h => by simp [ctxOf, blk] at h, fun b u B id es h => by simp [ctxOf, blk] at h⟩
theorem zONh {ids : Nat → Nat} {I : Nat → Prop} {k : Nat} : ¬ owned (ctxOf [] ids I) k := fun ⟨b, u, B, h, _⟩ => by simp [ctxOf, blk] at h
theorem zLEz {ce : CE} (hce : CallOk P ce) {f : Nat} {args : List AV} {x : AV} (h : pcl ce f args = some x) {C : Ctx} {w : World} (hg : Good C w) {vs : List Value} (hv : VRL C w.heap args vs) :
    Calls P f vs.toArray w fun e w' => ∃ v, e = .returned v ∧ PostP C w x v w' := by
  unfold pcl at h
  split at h <;> try (simp at h; done)
  rename_i hn
  cases hc : ce f (args.map wk) [] with
  | none => simp [hc] at h
  | some rs =>
    obtain ⟨v0, σ'⟩ := rs
    simp only [hc] at h
    have hv0 : VRL (ctxOf [] (fun _ => 0) C.I) w.heap (args.map wk) vs := (VRL.free (show ISub C w.heap (ctxOf [] (fun _ => 0) C.I) w.heap from ⟨fun _ h => h, fun _ _ => rfl⟩) _ _ hn hv).wk
    refine (hce f _ [] v0 σ' hc (fun _ => 0) C.I w vs (zgS9 hg _) hv0).mono ?_
    rintro e w' ⟨v, ids', I', rfl, hg1, hr, hs⟩
    refine ⟨v, rfl, ?_⟩
    let I2 : Nat → Prop := fun k => I' k ∨ owned (ctxOf σ' ids' I') k
    have hvw := zXfU (C2 := { C with I := I2 }) (fun b u B hb => ⟨_, z1nM ids' I' hb⟩) hg1 (fr := false) ⟨fun _ k hk => .inl hk, fun k hk => .inr hk⟩ h hr
    obtain ⟨h1, h2⟩ := hg.growI hs.size (fun k hk => hs.frame k hk zONh) I2 (fun k hk => .inl (hs.ev.imm k hk)) (fun k hk => hk.elim (hg1.I k) hg1.lt)
      (fun k hk => hk.elim (fun h => (hs.immOrig k h).elim .inl (fun h => h.elim (fun h => absurd h zONh) .inr)) (fun h => (hs.ownOrig k h).elim (fun h => absurd h zONh) .inr)) hs.os hs.tape hs.output
    exact ⟨I2, h1, h2, hvw⟩
theorem zTUY {ce : CE} (hce : CallOk P ce) {σ : List Blk} {f : Nat} {args vs' : List AV} {v0 x : AV} {σ' : List Blk} (h1 : mapO (view σ false vd) args = some vs') (h2 : ce f vs' [] = some (v0, σ')) (h3 : viewT σ' true v0 = some x)
    {C : Ctx} {w : World} (hg : Good C w) (hup : ∀ b u B, upto σ b u = some B → ∃ id, C.own b u = some (B, id)) {vs : List Value} (hv : VRL C w.heap args vs) :
    Calls P f vs.toArray w fun e w' => ∃ v, e = .returned v ∧ PostP C w x v w' := by
  let I0 : Nat → Prop := fun k => C.I k ∨ owned C k
  have hg0 : Good (ctxOf [] (fun _ => 0) I0) w :=
    ⟨fun k hk => hk.elim (hg.I k) hg.lt, fun b u B id h => by simp [ctxOf, blk] at h, fun b u B id h => by simp [ctxOf, blk] at h, fun b u B id b' u' B' id' h => by simp [ctxOf, blk] at h, fun b u B id es h => by simp [ctxOf, blk] at h⟩
  have hv0 : VRL (ctxOf [] (fun _ => 0) I0) w.heap vs' vs :=
    (zQoi (fun x y v hx hv => zQUp (C2 := ctxOf [] (fun _ => 0) I0) hup hg (fr := false) ⟨fun _ k hk => .inl hk, fun k hk => .inr hk⟩ vd x y v hx hv) h1 hv).2
  refine (hce f vs' [] v0 σ' h2 (fun _ => 0) I0 w vs hg0 hv0).mono ?_
  rintro e w' ⟨v, ids', I', rfl, hg1, hr, hs⟩
  refine ⟨v, rfl, ?_⟩
  let I2 : Nat → Prop := fun k => C.I k ∨ owned (ctxOf σ' ids' I') k
  have hvw := zXfU (C2 := { C with I := I2 }) (fun b u B hb => ⟨_, z1nM ids' I' hb⟩) hg1 (fr := true) ⟨fun h => by simp at h, fun k hk => .inr hk⟩ h3 hr
  obtain ⟨g1, g2⟩ := hg.growI hs.size (fun k hk => hs.frame k hk zONh) I2 (fun k hk => .inl hk) (fun k hk => hk.elim (fun h => Nat.lt_of_lt_of_le (hg.I k h) hs.size) hg1.lt)
    (fun k hk => hk.elim .inl (fun h => (hs.ownOrig k h).elim (fun h => absurd h zONh) .inr)) hs.os hs.tape hs.output
  exact ⟨I2, g1, g2, hvw⟩
section
variable {a : Act} {r : Rf → AV} {w : World} {C : Ctx} {R : Operand → Rf → Bool} {ce : CE} {σ : List Blk} {nl : Nat} {ps : List Pend}
theorem Plain.does {o : Oper} {x : AV} (hg : Good C w) (h : Plain P a.eval o w C w.heap x) : Does P o a w (PostP C w x) := by
  obtain ⟨v, h1, h2⟩ := h
  exact Does.val h1 (PostP.same hg h2)
theorem ziZp {f : Nat} (h : bodied P f = true) (args : Array Value) (w : World) : (callFunc f args).run P w = .ok (.enter f args) w := by
  unfold bodied at h
  cases hf : P.funcs[f]? with
  | none => simp [hf] at h
  | some fn =>
    simp [hf] at h
    simp only [callFunc, Sem.run_bind, program, Sem.run, Result.andThen_ok, hf]
    rw [if_neg (by simpa using h.2)]
    cases hb : fn.body with
    | none => simp [hb] at h
    | some b => simp
theorem zFdo {o : Oper} {ca : Call} {f : Nat} (ho : o.op = .call ca) (hc : ca.callee = .value (.func f)) (hb : bodied P f = true) (w : World) :
    (execOp a.eval o).run P w = .ok (.enter f (ca.args.toList.map a.eval).toArray) w := by
  have : ca.args.map a.eval = (ca.args.toList.map a.eval).toArray := by rw [← Array.toList_inj]; simp
  simp only [execOp, ho, resolve, hc, Sem.run_bind, Act.eval, Deferred.ofValue, Sem.run_pure, Result.andThen_ok, invoke]
  simp only [Array.append_empty, Array.empty_append]
  rw [show Array.map a.eval ca.args = (ca.args.toList.map a.eval).toArray from this]
  exact ziZp hb _ w
theorem ziCo {o : Oper} {ca : Call} {f : Nat} {ys : List Rf} {x : AV} {p : Option Pend} (hce : CallOk P ce) (ho : o.op = .call ca) (hc : ca.callee = .value (.func f)) (hb : bodied P f = true) (hg : Good C w)
    (hx : VRL C w.heap (ys.map r) (ca.args.toList.map a.eval)) (he : ev ce σ nl ps r (.cal f ys) = some (x, p)) : Does P o a w (PostP C w x) ∧ p = none := by
  simp only [ev] at he
  cases hp : pcl ce f (ys.map r) with
  | none => simp [hp] at he
  | some x' =>
    simp [hp] at he; obtain ⟨rfl, rfl⟩ := he
    exact ⟨Does.call (zFdo ho hc hb w) (zLEz hce hp hg hx), rfl⟩
theorem zdwf {o : Oper} {ca : Call} {f : Nat} {ys : List Rf} {x : AV} {p : Option Pend} (hce : CallOk P ce) (ho : o.op = .call ca) (hc : ca.callee = .value (.func f)) (hb : bodied P f = true) (hg : Good C w)
    (hup : ∀ b u B, upto σ b u = some B → ∃ id, C.own b u = some (B, id))
    (hx : VRL C w.heap (ys.map r) (ca.args.toList.map a.eval)) (he : ev ce σ nl ps r (.cab f ys) = some (x, p)) : Does P o a w (PostP C w x) ∧ p = none := by
  simp only [ev] at he
  cases h1 : mapO (fun x => view σ false vd (r x)) ys with
  | none => simp [h1] at he
  | some vs' =>
    simp only [h1] at he
    cases h2 : ce f vs' [] with
    | none => simp [h2] at he
    | some q =>
      obtain ⟨v0, σ'⟩ := q
      simp only [h2] at he
      cases h3 : viewT σ' true v0 with
      | none => simp [h3] at he
      | some x' =>
        simp [h3] at he; obtain ⟨rfl, rfl⟩ := he
        have h1' : mapO (view σ false vd) (ys.map r) = some vs' := by
          rw [← h1]
          clear h1 h2 hx
          induction ys with
          | nil => rfl
          | cons y ys ih => simp only [List.map_cons, mapO, ih]
        exact ⟨Does.call (zFdo ho hc hb w) (zTUY hce h1' h2 h3 hg hup hx), rfl⟩
def HasBody (P : Program) (ce : CE) : Prop := ∀ f args σ r, ce f args σ = some r → bodied P f = true
theorem zSQu {o : Oper} {ca : Call} {f : Nat} {x : Operand} {vs : List Value} (ho : o.op = .call ca) (hc : ca.callee = .value x) (hx : a.eval x = .func (.func f) #[] vs.toArray) (hb : bodied P f = true) (w : World) :
    (execOp a.eval o).run P w = .ok (.enter f (ca.args.toList.map a.eval ++ vs).toArray) w := by
  have : Array.map a.eval ca.args ++ vs.toArray = (ca.args.toList.map a.eval ++ vs).toArray := by rw [← Array.toList_inj]; simp
  simp only [execOp, ho, resolve, hc, Sem.run_bind, hx, Deferred.ofValue, Sem.run_pure, Result.andThen_ok, invoke]
  simp only [Array.empty_append]
  rw [this]
  exact ziZp hb _ w
theorem z5t0 {o : Oper} {ca : Call} {x0 : Operand} {y : Rf} {ys : List Rf} {x : AV} {p : Option Pend} (hce : CallOk P ce) (hbd : HasBody P ce) (ho : o.op = .call ca) (hc : ca.callee = .value x0) (hg : Good C w)
    (h0 : VR C w.heap (r y) (a.eval x0)) (hx : VRL C w.heap (ys.map r) (ca.args.toList.map a.eval)) (he : ev ce σ nl ps r (.cald y ys) = some (x, p)) : Does P o a w (PostP C w x) ∧ p = none := by
  simp only [ev] at he
  cases hy : r y <;> simp only [hy] at he <;> try (simp at he; done)
  rename_i f caps
  cases hp : pcl ce f (ys.map r ++ caps) with
  | none => simp [hp] at he
  | some x' =>
    simp [hp] at he; obtain ⟨rfl, rfl⟩ := he
    rw [hy] at h0
    unfold VR at h0
    obtain ⟨vs, e, hl⟩ := h0
    have hb : bodied P f = true := by
      unfold pcl at hp
      split at hp <;> try (simp at hp; done)
      cases hc' : ce f ((ys.map r ++ caps).map wk) [] with
      | none => simp only [hc'] at hp; simp at hp
      | some q => exact hbd _ _ _ _ hc'
    exact ⟨Does.call (zSQu ho hc e hb w) (zLEz hce hp hg (hx.append hl)), rfl⟩
theorem z2tY {m : String} : ∀ {tbl : List (Nat × Nat)} {t f : Nat}, tblIs P m tbl = true → lookT tbl t = some f → ∀ (w : World) (v : Value), (method (P.types.size + Made.depth) t v m).run P w = .ok (f, v) w
  | [], t, f, _, h => by simp [lookT] at h
  | (t', f') :: rest, t, f, ht, h => by
    simp only [tblIs, Bool.and_eq_true] at ht
    simp only [lookT] at h
    by_cases e : t' = t
    · subst e
      simp at h; subst h
      intro w v
      obtain ⟨n, hn⟩ : ∃ n, P.types.size + Made.depth = n + 1 := ⟨P.types.size + Made.depth - 1, by have : 0 < Made.depth := by decide
                                                                                                    omega⟩
      rw [hn]
      have h1 := ht.1
      cases hi : P.info? t' with
      | none => simp [hi] at h1
      | some i =>
        simp only [hi] at h1
        cases hm : i.methods.find? (fun x => x.name == m) with
        | none => simp [hm] at h1
        | some x =>
          simp only [hm, Bool.and_eq_true] at h1
          obtain ⟨hp, h1⟩ := h1
          have hpe : x.path = #[] := by simpa using hp
          cases hf : x.func with
          | none => simp [hf] at h1
          | some gp =>
            obtain ⟨g, ptr⟩ := gp
            simp only [hf, Bool.and_eq_true, beq_iff_eq] at h1
            obtain ⟨rfl, h1⟩ := h1
            cases hu : P.underlying t' with
            | none => simp [hu] at h1
            | some d =>
              simp only [hu] at h1
              have hr : (receiverAt t' (.val v) ptr (if x.path.isEmpty then some ((m.splitOn ".").getLastD m) else none)).run P w = .ok v w := by
                unfold receiverAt
                simp only [Sem.run_bind, run_underlying hu, Result.andThen_ok]
                cases d <;> cases ptr <;> simp_all [Place.get]
              simp only [method, Sem.run_bind, run_typeInfo w hi, Result.andThen_ok, hm, hpe, follow, Sem.run_pure, hf]
              rw [hpe] at hr
              simp only [hr, Result.andThen_ok, Sem.run_pure]
    · have e' : (t' == t) = false := by simpa using e
      simp only [e', Bool.false_eq_true, if_false] at h
      exact z2tY ht.2 h
theorem zP5n {o : Oper} {ca : Call} {x0 : Operand} {m : String} {tbl : List (Nat × Nat)} {t f : Nat} {v : Value} (ho : o.op = .call ca) (hc : ca.callee = .invoke x0 m) (hx : a.eval x0 = .iface t v)
    (ht : tblIs P m tbl = true) (hl : lookT tbl t = some f) (hb : bodied P f = true) (w : World) :
    (execOp a.eval o).run P w = .ok (.enter f (v :: ca.args.toList.map a.eval).toArray) w := by
  have hm := z2tY ht hl w v
  have h1 : (#[Value.iface t v] ++ Array.map a.eval ca.args)[0]? = some (.iface t v) := by rw [Array.getElem?_append_left (by show 0 < 1; omega)]; rfl
  have h2 : (#[Value.iface t v] ++ Array.map a.eval ca.args).extract 1 (#[Value.iface t v] ++ Array.map a.eval ca.args).size = Array.map a.eval ca.args := by
    rw [← Array.toList_inj]; simp; rw [List.take_of_length_le (by simp)]
  have h3 : #[v] ++ Array.map a.eval ca.args = (v :: ca.args.toList.map a.eval).toArray := by rw [← Array.toList_inj]; simp
  simp only [execOp, ho, resolve, hc, Sem.run_bind, Sem.run_pure, Result.andThen_ok, invoke, hx, h1, h2, callMethod, program, Sem.run, hm]
  rw [h3]
  exact ziZp hb _ w
theorem zHhE {o : Oper} {ca : Call} {x0 : Operand} {m : String} {tbl : List (Nat × Nat)} {y : Rf} {ys : List Rf} {x : AV} {p : Option Pend} (hce : CallOk P ce) (hbd : HasBody P ce) (ho : o.op = .call ca) (hc : ca.callee = .invoke x0 m) (ht : tblIs P m tbl = true) (hg : Good C w)
    (h0 : VR C w.heap (r y) (a.eval x0)) (hx : VRL C w.heap (ys.map r) (ca.args.toList.map a.eval)) (he : ev ce σ nl ps r (.inv y tbl ys) = some (x, p)) : Does P o a w (PostP C w x) ∧ p = none := by
  simp only [ev] at he
  cases hy : r y <;> simp only [hy] at he <;> try (simp at he; done)
  rename_i t q
  cases hl : lookT tbl t with
  | none => simp [hl] at he
  | some f =>
    simp only [hl] at he
    cases hp : pcl ce f (q :: ys.map r) with
    | none => simp [hp] at he
    | some x' =>
      simp [hp] at he; obtain ⟨rfl, rfl⟩ := he
      rw [hy] at h0
      unfold VR at h0
      obtain ⟨v, e, hq⟩ := h0
      have hb : bodied P f = true := by
        unfold pcl at hp
        split at hp <;> try (simp at hp; done)
        cases hc' : ce f ((q :: ys.map r).map wk) [] with
        | none => simp only [hc'] at hp; simp at hp
        | some q => exact hbd _ _ _ _ hc'
      exact ⟨Does.call (zP5n ho hc e ht hl hb w) (zLEz hce hp hg ⟨v, _, rfl, hq, hx⟩), rfl⟩
theorem zanB {x : AV} {v : Value} (hg : Good C w) (hn : noLoc x = true) (hv : VR C w.heap x v) (t : TypeId) : PostP C w (.pimm x) (.pointer (some ⟨w.heap.size, 0, none⟩)) (pushW w (.cells v.cells t)) := by
  obtain ⟨h1, h2⟩ := z6xf hg v.cells t
  refine ⟨_, h1, h2, ?_⟩
  unfold VR
  exact ⟨hn, w.heap.size, 0, v.cells, t, (0, 0), v, rfl, .inr rfl, zew4 w _, VR.mono h2.ev _ _ hv, fun j hj => by simp⟩
theorem zrX4 {o : Oper} {t : TypeId} {x0 : Operand} {y : Rf} {x : AV} {p : Option Pend} (ho : o.op = .box t x0) (hg : Good C w) (h0 : VR C w.heap (r y) (a.eval x0)) (he : ev ce σ nl ps r (.bxi y) = some (x, p)) :
    Does P o a w (PostP C w x) ∧ p = none := by
  simp only [ev] at he
  split at he <;> simp at he
  rename_i hn
  obtain ⟨rfl, rfl⟩ := he
  refine ⟨Does.val (v := .pointer (some ⟨w.heap.size, 0, none⟩)) (w' := pushW w (.cells (a.eval x0).cells t)) ?_ (zanB hg hn h0 t), rfl⟩
  simp only [execOp, ho, Instr.box, Sem.run_bind, z4r6, Result.andThen_ok, Sem.run_pure]
end
end Ab
set_option linter.all false
namespace Ab
open Go
variable {P : Program}
section
variable {a : Act} {ρ : Operand → Value} {r : Rf → AV} {w : World} {C : Ctx} {R : Operand → Rf → Bool} {ce : CE} {σ : List Blk} {nl : Nat} {ps : List Pend}
theorem zV1Q (sz : Nat) : ∀ (vs : List Value) (k : Nat) (c : Array Value), (∀ v, v ∈ vs → v.cells.size = sz) → (k + vs.length) * sz ≤ c.size →
    ∃ c', Instr.fill (fun i => some (i * sz, sz)) c ((vs.zipIdx k).map fun p => (p.2, p.1)) = some c' ∧ c'.size = c.size ∧ (∀ i, i < k * sz → c'[i]? = c[i]?) ∧
      ∀ (i : Nat) v, vs[i]? = some v → ∀ j, j < sz → c'[(k + i) * sz + j]? = v.cells[j]?
  | [], k, c, _, _ => ⟨c, rfl, rfl, fun _ _ => rfl, fun i v h => by simp at h⟩
  | v :: vs, k, c, hv, hb => by
    have hs := hv v (by simp)
    have hk : k * sz + sz ≤ c.size := by
      have : (k + 1) * sz ≤ (k + (v :: vs).length) * sz := Nat.mul_le_mul_right _ (by simp)
      rw [Nat.add_mul] at this
      omega
    simp only [List.zipIdx_cons, List.map_cons, Instr.fill]
    rw [if_neg (by rw [hs]; simp; omega)]
    have hf : ∀ i, (v.cells.zipIdx.foldl (fun cs (c, j) => cs.setIfInBounds (k * sz + j) c) c).size = c.size ∧ (v.cells.zipIdx.foldl (fun cs (c, j) => cs.setIfInBounds (k * sz + j) c) c)[i]? = if k * sz ≤ i ∧ i < k * sz + v.cells.size then v.cells[i - k * sz]? else c[i]? := fun i => by
      have := zB2t (k * sz) v.cells.toList 0 c i (by simp; omega)
      rw [← Array.foldl_toList]
      simp only [Array.toList_zipIdx]
      simpa using this
    obtain ⟨c', h1, h2, h3, h4⟩ := zV1Q sz vs (k + 1) (v.cells.zipIdx.foldl (fun cs (c, j) => cs.setIfInBounds (k * sz + j) c) c) (fun u hu => hv u (by simp [hu])) (by
      rw [(hf 0).1]
      have : (k + (v :: vs).length) = k + 1 + vs.length := by simp; omega
      rwa [this] at hb)
    refine ⟨c', h1, by rw [h2, (hf 0).1], fun i hi => ?_, fun i u hu j hj => ?_⟩
    · rw [h3 i (by rw [Nat.add_mul]; omega), (hf i).2, if_neg (by omega)]
    · cases i with
      | zero =>
        simp at hu; subst hu
        simp only [Nat.add_zero]
        rw [h3 _ (by rw [Nat.add_mul]; omega), (hf _).2, if_pos (by omega)]
        congr 1; omega
      | succ i =>
        have := h4 i u (by simpa using hu) j hj
        rw [show k + (i + 1) = k + 1 + i by omega]
        exact this
theorem zflE {st : Nat} : ∀ {l : List AV}, fitAll st l = true → ∀ x ∈ l, x.cells.length = st ∧ Solid x
  | [], _, x, hx => by simp at hx
  | y :: l, h, x, hx => by
    simp only [fitAll, Bool.and_eq_true, beq_iff_eq] at h
    rcases List.mem_cons.1 hx with rfl | hx
    · exact ⟨h.1.1, z2Kg h.1.2⟩
    · exact zflE h.2 x hx
theorem zRgy : ∀ {k : Nat} {ps : List (Nat × Operand)}, inOrder k ps = true → ∀ (f : Operand → Value), ps.map (fun p => (p.1, f p.2)) = ((ps.map fun p => f p.2).zipIdx k).map fun p => (p.2, p.1)
  | _, [], _, _ => rfl
  | k, (i, x) :: r, h, f => by
    simp only [inOrder, Bool.and_eq_true, beq_iff_eq] at h
    simp only [List.map_cons, List.zipIdx_cons, h.1]
    rw [zRgy h.2 f]
theorem VRL.get' {H : Array Obj} : ∀ {l : List AV} {vs : List Value}, VRL C H l vs → ∀ (i : Nat) v, vs[i]? = some v → ∃ x, l[i]? = some x ∧ VR C H x v
  | [], vs, h, i, v, hi => by rw [show vs = [] from h] at hi; simp at hi
  | x :: l, _, ⟨v0, s, e, hx, hr⟩, 0, v, hi => by rw [e] at hi; simp at hi; subst hi; exact ⟨x, rfl, hx⟩
  | x :: l, _, ⟨v0, s, e, hx, hr⟩, i + 1, v, hi => by rw [e] at hi; exact VRL.get' hr i v (by simpa using hi)
theorem zIaY {t e : TypeId} {n st : Nat} {xs : Array (Nat × Operand)} {ys : List Rf} (ht : sliceOf P t = some e) (hst : sizeIs P e st = true) (hz : hasZero P e = true) (hb : n * st ≤ 2 ^ 24) (hn : (n == xs.size) = true) (ho : inOrder 0 xs.toList = true)
    (hx : VRL C w.heap (ys.map r) ((xs.toList.map (·.2)).map ρ)) (hf : fitAll st (ys.map r) = true) :
    ∃ c : Array Value, (Instr.buildSlice t n (xs.map fun (i, x) => (i, ρ x))).run P w = .ok (.slice (some ⟨w.heap.size, 0, none⟩) ys.length ys.length) (pushW w (.cells c e)) ∧ c.size = ys.length * st ∧
      ∀ (i : Nat) x, (ys.map r)[i]? = some x → ∃ v, VR C w.heap x v ∧ v.cells.size = st ∧ Solid x ∧ ∀ j, j < st → c[i * st + j]? = v.cells[j]? := by
  have hlen : ys.length = n := by
    have h1 := VRL.length hx
    simp at h1 hn
    omega
  have hxs : (xs.map fun (i, x) => (i, ρ x)).toList = (((xs.toList.map (·.2)).map ρ).zipIdx 0).map fun p => (p.2, p.1) := by
    have := zRgy ho ρ
    simp only [Array.toList_map, List.map_map] at this ⊢
    exact this
  have hsz : ∀ v, v ∈ (xs.toList.map (·.2)).map ρ → v.cells.size = st := fun v hv => by
    obtain ⟨i, hi⟩ := List.getElem?_of_mem hv
    obtain ⟨x, h1, h2⟩ := VRL.get' hx i v hi
    obtain ⟨h3, h4⟩ := zflE hf x (List.mem_of_getElem? h1)
    rw [VR.size h4 h2, h3]
  obtain ⟨z, hz'⟩ : ∃ z, (zeroValue e).run P w = .ok z w := by
    unfold hasZero at hz
    cases hi : P.info? e with
    | none => simp [hi] at hz
    | some i =>
      simp only [hi] at hz
      cases hzz : i.zero with
      | none => simp [hzz] at hz
      | some z => exact ⟨z, by simp only [zeroValue, Sem.run_bind, run_typeInfo w hi, Result.andThen_ok, hzz, Sem.run_pure]⟩
  have hu := zsha ht w
  have hsi := zW9l hst w
  have hnl : ((xs.toList.map (·.2)).map ρ).length = n := by have := VRL.length hx; simp at this; simp; omega
  -- whatever the zero cells are
  have key : ∀ zc : Array Value, ∃ c, Instr.fill (fun i => some (i * st, st)) ((Array.range (n * st)).map fun q => zc[q % zc.size]!) (xs.map fun (i, x) => (i, ρ x)).toList = some c ∧ c.size = ys.length * st ∧
      ∀ (i : Nat) x, (ys.map r)[i]? = some x → ∃ v, VR C w.heap x v ∧ v.cells.size = st ∧ Solid x ∧ ∀ j, j < st → c[i * st + j]? = v.cells[j]? := fun zc => by
    obtain ⟨c, h1, h2, _, h4⟩ := zV1Q st ((xs.toList.map (·.2)).map ρ) 0 ((Array.range (n * st)).map fun q => zc[q % zc.size]!) hsz (by rw [hnl]; simp)
    refine ⟨c, by rw [hxs]; exact h1, by rw [h2, hlen]; simp, fun i x hi => ?_⟩
    obtain ⟨v, g1, g2⟩ := hx.get i x hi
    obtain ⟨h5, h6⟩ := zflE hf x (List.mem_of_getElem? hi)
    exact ⟨v, g2, by rw [VR.size h6 g2, h5], h6, fun j hj => by have := h4 i v g1 j hj; simpa using this⟩
  by_cases h0 : n * st = 0
  · obtain ⟨c, h1, h2, h3⟩ := key #[]
    refine ⟨c, ?_, h2, h3⟩
    simp only [Instr.buildSlice, Sem.run_bind, hu, hsi, Result.andThen_ok]
    rw [if_neg (by omega)]
    simp only [h0, if_true, Sem.run_bind, Sem.run_pure, Result.andThen_ok]
    simp only [h0] at h1
    simp only [h1, zpaT, Sem.run_bind, Sem.run_pure, Result.andThen_ok, hlen]
  · obtain ⟨c, h1, h2, h3⟩ := key z.cells
    refine ⟨c, ?_, h2, h3⟩
    simp only [Instr.buildSlice, Sem.run_bind, hu, hsi, Result.andThen_ok]
    rw [if_neg (by omega)]
    simp only [h0, if_false, Sem.run_bind, hz', Sem.run_pure, Result.andThen_ok]
    simp only [h1, zpaT, Sem.run_bind, Sem.run_pure, Result.andThen_ok, hlen]
theorem z4cs {o : Oper} {t e : TypeId} {n st : Nat} {xs : Array (Nat × Operand)} {ys : List Rf} {x : AV} {p : Option Pend} (ho : o.op = .buildSlice t n xs) (ht : sliceOf P t = some e) (hst : sizeIs P e st = true) (hz : hasZero P e = true) (hb : n * st ≤ 2 ^ 24) (hn : (n == xs.size) = true) (hio : inOrder 0 xs.toList = true)
    (hg : Good C w) (hx : VRL C w.heap (ys.map r) ((xs.toList.map (·.2)).map a.eval)) (he : ev ce σ nl ps r (.liti ys st) = some (x, p)) : Does P o a w (PostP C w x) ∧ p = none := by
  simp only [ev] at he
  split at he <;> simp at he
  rename_i hc
  obtain ⟨rfl, rfl⟩ := he
  simp only [Bool.and_eq_true] at hc
  obtain ⟨c, h1, h2, h3⟩ := zIaY ht hst hz hb hn hio hx hc.2
  refine ⟨Does.val (v := .slice (some ⟨w.heap.size, 0, none⟩) ys.length ys.length) (w' := pushW w (.cells c e)) ?_ ?_, rfl⟩
  · simp only [execOp, ho, Sem.run_bind, h1, Result.andThen_ok, Sem.run_pure]
  · obtain ⟨g1, g2⟩ := z6xf hg c e
    refine ⟨_, g1, g2, ?_⟩
    unfold VR
    refine ⟨hc.1, .inr ⟨w.heap.size, 0, ys.length, st, c, e, (0, 0), by simp, by simp, .inr rfl, zew4 w _, VRI.of fun i x hi => ?_⟩⟩
    obtain ⟨v, k1, k2, _, k3⟩ := h3 i x hi
    exact ⟨v, VR.mono g2.ev _ _ k1, k2, fun j hj => by rw [Nat.zero_add]; exact k3 j hj⟩
theorem zhWB {o : Oper} {t e : TypeId} {n st : Nat} {xs : Array (Nat × Operand)} {ys : List Rf} {x : AV} {p : Option Pend} (ho : o.op = .buildSlice t n xs) (ht : sliceOf P t = some e) (hst : sizeIs P e st = true) (hz : hasZero P e = true) (hb : n * st ≤ 2 ^ 24) (hn : (n == xs.size) = true) (hio : inOrder 0 xs.toList = true)
    (hg : Good C w) (hx : VRL C w.heap (ys.map r) ((xs.toList.map (·.2)).map a.eval)) (he : ev ce σ nl ps r (.lita ys st) = some (x, p)) : Does P o a w (PostP C w x) ∧ p = none := by
  simp only [ev] at he
  split at he <;> simp at he
  rename_i hc
  obtain ⟨rfl, rfl⟩ := he
  obtain ⟨c, h1, h2, h3⟩ := zIaY ht hst hz hb hn hio hx hc
  refine ⟨Does.val (v := .slice (some ⟨w.heap.size, 0, none⟩) ys.length ys.length) (w' := pushW w (.cells c e)) ?_ ?_, rfl⟩
  · simp only [execOp, ho, Sem.run_bind, h1, Result.andThen_ok, Sem.run_pure]
  · obtain ⟨g1, g2⟩ := z6xf hg c e
    refine ⟨_, g1, g2, ?_⟩
    unfold VR
    refine ⟨w.heap.size, 0, st, c, e, (0, 0), by simp, .inr rfl, zew4 w _, VRI.of fun i x hi => ?_⟩
    obtain ⟨v, k1, k2, _, k3⟩ := h3 i x hi
    exact ⟨v, VR.mono g2.ev _ _ k1, k2, fun j hj => by rw [Nat.zero_add]; exact k3 j hj⟩
def Ext (nl : Nat) : Option Pend → Ctx → Ctx → Prop
  | none, C, C' => C'.own = C.own ∧ C'.lim = C.lim
  | some (.new B), C, C' => ∃ id, C'.own = (addOwn C nl B.cells.length (B, id)).own ∧ C'.lim = (addOwn C nl B.cells.length (B, id)).lim
  | some (.news l), C, C' => ∃ ids : Nat → Nat, C'.own = (fun b u => if nl ≤ b ∧ b < nl + l.length then (ctxOf l ids C.I).own (b - nl) u else C.own b u) ∧ C'.lim = (fun b u => (nl ≤ b ∧ (ctxOf l ids C.I).lim (b - nl) u) ∨ C.lim b u)
  | some (.grow b cs), C, C' => ∃ B0 id0 id, cs ≠ [] ∧ C.own b B0.cells.length = some (B0, id0) ∧ C'.own = (addOwn C b (B0.cells ++ cs).length (⟨B0.k, B0.cells ++ cs, .live⟩, id)).own ∧ C'.lim = (addOwn C b (B0.cells ++ cs).length (⟨B0.k, B0.cells ++ cs, .live⟩, id)).lim
def PostE (nl : Nat) (C : Ctx) (w : World) (x : AV) (p : Option Pend) (v : Value) (w' : World) : Prop :=
  ∃ C', Good C' w' ∧ Step C w C' w' ∧ VR C' w'.heap x v ∧ Ext nl p C C'
theorem PostP.e {nl : Nat} {x : AV} {v : Value} {w' : World} (h : PostP C w x v w') : PostE nl C w x none v w' := by
  obtain ⟨I', h1, h2, h3⟩ := h
  exact ⟨_, h1, h2, h3, rfl, rfl⟩
theorem zblO {x : AV} {v : Value} {B : Blk} {c : Array Value} {el : TypeId} (hg : Good C w) (hb : ∀ u, ¬ C.lim nl u) (hst : B.st = .live) (hle : B.cells.length ≤ c.size)
    (hc : ∀ (i : Nat) x, B.cells[i]? = some x → ∃ y, c[i]? = some y ∧ VR C w.heap x y ∧ y.oneCell' = true)
    (hv : ∀ C', C'.own nl B.cells.length = some (B, w.heap.size) → C'.lim nl B.cells.length → VR C' (pushW w (.cells c el)).heap x v) : PostE nl C w x (some (.new B)) v (pushW w (.cells c el)) := by
  obtain ⟨h1, h2⟩ := zj2x hg B (hb _) c el hst hle hc
  exact ⟨_, h1, h2, hv _ (by simp [addOwn]) (.inl ⟨rfl, rfl⟩), w.heap.size, rfl, rfl⟩
theorem zhdq {x : AV} {v : Value} {H : Array Obj} (hu : Solid x) (h : VR C H x v) : ∀ (i : Nat) q, x.cells[i]? = some q → ∃ y, v.cells[i]? = some y ∧ VR C H q y ∧ y.oneCell' = true := fun i q hi => by
  obtain ⟨h1, h2⟩ := VR.cells hu h
  obtain ⟨y, g1, g2⟩ := h1.get i q hi
  rw [Array.getElem?_toList] at g1
  exact ⟨y, g1, g2, h2 y (by rw [Array.mem_toList_iff]; exact Array.mem_of_getElem? g1)⟩
theorem z3an {B : Blk} {id : Nat} {C' : Ctx} {H : Array Obj} {b u : Nat} (h1 : C'.own b u = some (B, id)) (h2 : C'.lim b u) : VR C' H (.ptr b u 0) (.pointer (some ⟨id, 0, none⟩)) := by
  unfold VR
  exact ⟨⟨id, rfl⟩, h2, fun B' id' h _ => by rw [h1] at h; simp at h; rw [h.2]⟩
theorem zVoA {B : Blk} {id : Nat} {C' : Ctx} {H : Array Obj} {b u len cap : Nat} {c : Array Value} {el : TypeId} (h1 : C'.own b u = some (B, id)) (h2 : C'.lim b u) (hs : B.st = .live) (hH : H[id]? = some (.cells c el (0, 0))) (hl : len ≤ cap)
    (hc : cap * kst B.k = c.size) : VR C' H (.sl b u 0 len) (.slice (some ⟨id, 0, none⟩) len cap) := by
  unfold VR
  refine ⟨⟨_, _, rfl, hl, fun _ => ⟨id, rfl⟩⟩, h2, fun B' id' h => ?_⟩
  rw [h1] at h; simp at h
  obtain ⟨rfl, rfl⟩ := h
  simp only [hs]
  exact ⟨c, el, 0, cap, hH, rfl, fun _ => rfl, hl, by omega⟩
theorem z4UK {o : Oper} {t : TypeId} {x0 : Operand} {y : Rf} {k : Option Nat} {x : AV} {p : Option Pend} (ho : o.op = .box t x0) (hg : Good C w) (hb : ∀ u, ¬ C.lim nl u) (h0 : VR C w.heap (r y) (a.eval x0))
    (he : ev ce σ nl ps r (.bxm y k) = some (x, p)) : Does P o a w (PostE nl C w x p) := by
  simp only [ev] at he
  split at he <;> simp at he
  rename_i hc
  simp only [Bool.and_eq_true, beq_iff_eq] at hc
  obtain ⟨rfl, rfl⟩ := he
  have hu := z2Kg hc.2
  refine Does.val (v := .pointer (some ⟨w.heap.size, 0, none⟩)) (w' := pushW w (.cells (a.eval x0).cells t)) ?_ (zblO hg hb rfl ?_ ?_ ?_)
  · simp only [execOp, ho, Instr.box, Sem.run_bind, z4r6, Result.andThen_ok, Sem.run_pure]
  · rw [VR.size hu h0]; exact Nat.le_refl _
  · exact zhdq hu h0
  · intro C' h1 h2
    simp only [hc.1] at h1 h2
    exact z3an h1 h2
theorem z8DQ {o : Oper} {t : TypeId} {z : List AV} {k : Option Nat} {x : AV} {p : Option Pend} (ho : o.op = .alloc t) (hz : zeroIs P t z = true) (hg : Good C w) (hb : ∀ u, ¬ C.lim nl u)
    (he : ev ce σ nl ps r (.alc z k) = some (x, p)) : Does P o a w (PostE nl C w x p) := by
  simp only [ev] at he
  split at he <;> simp at he
  rename_i hc
  simp only [beq_iff_eq] at hc
  obtain ⟨rfl, rfl⟩ := he
  obtain ⟨v, h1, h2, h3⟩ := zfjA (C := C) hz w
  refine Does.val (v := .pointer (some ⟨w.heap.size, 0, none⟩)) (w' := pushW w (.cells v.cells t)) ?_ (zblO hg hb rfl ?_ ?_ ?_)
  · simp only [execOp, ho, Instr.alloc, Sem.run_bind, h1, z4r6, Result.andThen_ok, Sem.run_pure]
  · have := VRL.length h2; simp at this; simp [this]
  · intro i q hi
    obtain ⟨y, g1, g2⟩ := h2.get i q hi
    rw [Array.getElem?_toList] at g1
    exact ⟨y, g1, g2, h3 y (by rw [Array.mem_toList_iff]; exact Array.mem_of_getElem? g1)⟩
  · intro C' k1 k2
    simp only [hc] at k1 k2
    exact z3an k1 k2
theorem zdvf {st : Nat} : ∀ {l : List AV}, (∀ x ∈ l, x.cells.length = st) → (l.flatMap AV.cells).length = l.length * st ∧ ∀ (i : Nat) x j, l[i]? = some x → j < st → (l.flatMap AV.cells)[i * st + j]? = x.cells[j]?
  | [], _ => ⟨by simp, fun i x j h => by simp at h⟩
  | y :: l, h => by
    obtain ⟨h1, h2⟩ := zdvf (l := l) fun x hx => h x (by simp [hx])
    have hy := h y (by simp)
    refine ⟨by simp only [List.flatMap_cons, List.length_append, h1, hy, List.length_cons]; rw [Nat.add_mul]; omega, fun i x j hi hj => ?_⟩
    simp only [List.flatMap_cons]
    cases i with
    | zero =>
      simp at hi; subst hi
      rw [List.getElem?_append_left (by omega)]; simp
    | succ i =>
      rw [List.getElem?_append_right (by rw [hy, Nat.add_mul]; omega), hy, ← h2 i x j (by simpa using hi) hj]
      congr 1
      rw [Nat.add_mul]; omega
theorem z6Qs {H : Array Obj} {st : Nat} {l : List AV} {c : Array Value} {off : Nat} (hst : ∀ x ∈ l, x.cells.length = st)
    (h : ∀ (i : Nat) x, l[i]? = some x → ∃ v, VR C H x v ∧ v.cells.size = st ∧ Solid x ∧ ∀ j, j < st → c[off + (i * st + j)]? = v.cells[j]?) :
    ∀ (i : Nat) q, (l.flatMap AV.cells)[i]? = some q → ∃ y, c[off + i]? = some y ∧ VR C H q y ∧ y.oneCell' = true := fun i q hi => by
  obtain ⟨h1, h2⟩ := zdvf hst
  have hlt := (List.getElem?_eq_some_iff.1 hi).1
  rw [h1] at hlt
  have hpos : 0 < st := by
    rcases Nat.eq_zero_or_pos st with h0 | h0
    · subst h0; simp at hlt
    · exact h0
  have hq : i / st < l.length := (Nat.div_lt_iff_lt_mul hpos).2 hlt
  have hr := Nat.mod_lt i hpos
  have e : i = i / st * st + i % st := by rw [Nat.mul_comm]; exact (Nat.div_add_mod i st).symm
  obtain ⟨v, g1, g2, g3, g4⟩ := h (i / st) l[i / st] (by simp [hq])
  rw [e] at hi ⊢
  rw [h2 (i / st) l[i / st] (i % st) (by simp [hq]) hr] at hi
  rw [g4 _ hr]
  exact zhdq g3 g1 _ q hi
theorem zCeM {o : Oper} {t e : TypeId} {n : Nat} {k : Option Nat} {xs : Array (Nat × Operand)} {ys : List Rf} {x : AV} {p : Option Pend} (ho : o.op = .buildSlice t n xs) (ht : sliceOf P t = some e) (hst : kindIs P e k = true) (hz : hasZero P e = true) (hb' : n * kst k ≤ 2 ^ 24) (hn : (n == xs.size) = true) (hio : inOrder 0 xs.toList = true)
    (hg : Good C w) (hb : ∀ u, ¬ C.lim nl u) (hx : VRL C w.heap (ys.map r) ((xs.toList.map (·.2)).map a.eval)) (he : ev ce σ nl ps r (.litm ys k) = some (x, p)) : Does P o a w (PostE nl C w x p) := by
  simp only [ev] at he
  split at he
  case isFalse => simp at he
  rename_i hc
  simp only [Option.some.injEq, Prod.mk.injEq] at he
  obtain ⟨rfl, rfl⟩ := he
  obtain ⟨c, h1, h2, h3⟩ := zIaY ht (zu6q hst) hz hb' hn hio hx hc
  have hall : ∀ x ∈ ys.map r, x.cells.length = kst k := fun x hx => (zflE hc x hx).1
  obtain ⟨f1, f2⟩ := zdvf hall
  refine Does.val (v := .slice (some ⟨w.heap.size, 0, none⟩) ys.length ys.length) (w' := pushW w (.cells c e)) ?_ (zblO hg hb rfl ?_ ?_ ?_)
  · simp only [execOp, ho, Sem.run_bind, h1, Result.andThen_ok, Sem.run_pure]
  · simp only [f1, h2]; simp
  · intro i q hi
    have := z6Qs (off := 0) hall (fun i x hi => by obtain ⟨v, g1, g2, g3, g4⟩ := h3 i x hi; exact ⟨v, g1, g2, g3, fun j hj => by rw [Nat.zero_add]; exact g4 j hj⟩) i q hi
    simpa using this
  · intro C' k1 k2
    exact zVoA k1 k2 rfl (zew4 w _) (Nat.le_refl _) h2.symm
end
end Ab
set_option linter.all false
namespace Ab
open Go
variable {P : Program}
theorem Good.heap {C : Ctx} {w w' : World} (hg : Good C w) (h : w'.heap = w.heap) : Good C w' :=
  ⟨by rw [h]; exact hg.I, hg.ent, by rw [h]; exact hg.live, hg.apart, by rw [h]; exact hg.maps⟩
theorem Step.heap {C : Ctx} {w w' : World} (h : w'.heap = w.heap) (ho : w'.os = w.os) (ht : w'.tape = w.tape ∧ w.drawn ≤ w'.drawn) (hout : w'.output = w.output) : Step C w C w' :=
  ⟨by rw [h]; exact Evol.refl _ _, by rw [h]; exact Nat.le_refl _, fun _ _ _ => by rw [h], fun _ h => .inl h, fun _ h => .inl h, ho, ht, hout⟩
section
variable {a : Act} {ρ : Operand → Value} {r : Rf → AV} {w : World} {C : Ctx} {R : Operand → Rf → Bool} {ce : CE} {σ : List Blk} {nl : Nat} {ps : List Pend}
theorem z9MN (z : List AV) : ∀ (n : Nat), (dupN n z).length = n * z.length ∧ ∀ i, i < n * z.length → (dupN n z)[i]? = z[i % z.length]?
  | 0 => ⟨by simp [dupN], fun i hi => by simp at hi⟩
  | n + 1 => by
    obtain ⟨h1, h2⟩ := z9MN z n
    have e : dupN (n + 1) z = z ++ dupN n z := by simp [dupN, List.replicate_succ]
    refine ⟨by rw [e, List.length_append, h1, Nat.add_mul]; omega, fun i hi => ?_⟩
    rw [e]
    by_cases hlt : i < z.length
    · rw [List.getElem?_append_left hlt, Nat.mod_eq_of_lt hlt]
    · rw [List.getElem?_append_right (by omega), h2 _ (by rw [Nat.add_mul] at hi; omega)]
      congr 1
      rw [Nat.mod_eq_sub_mod (by omega : z.length ≤ i)]
theorem zQBv {n : Int} (h0 : 0 ≤ n) (h : n ≤ big) : IntKind.i64.wrap n = n := by
  unfold big at h
  exact IntWalk.i64_in n ⟨by omega, by omega⟩
theorem zjGS {e : TypeId} (h : bytesOk P e = true) : ∃ i, P.info? e = some i ∧ i.bytes ≤ 4096 := by
  unfold bytesOk at h
  cases hi : P.info? e with
  | none => simp [hi] at h
  | some i => simp [hi] at h; exact ⟨i, rfl, h⟩
set_option maxRecDepth 100000 in
theorem z5Wk {o : Oper} {t e : TypeId} {l c : Operand} {l' c' : Rf} {z : List AV} {k : Option Nat} {x : AV} {p : Option Pend} (ho : o.op = .makeSlice t l c) (ht : sliceOf P t = some e) (hk : kindIs P e k = true) (hz : zeroIs P e z = true) (hby : bytesOk P e = true)
    (hg : Good C w) (hb : ∀ u, ¬ C.lim nl u) (hl : VR C w.heap (r l') (a.eval l)) (hc : VR C w.heap (r c') (a.eval c)) (he : ev ce σ nl ps r (.mks l' c' z k) = some (x, p)) : Does P o a w (PostE nl C w x p) := by
  simp only [ev] at he
  cases hl' : r l' <;> simp only [hl'] at he <;> try (simp at he; done)
  cases hc' : r c' <;> simp only [hc'] at he <;> try (simp at he; done)
  rename_i n m
  split at he
  case isFalse => simp at he
  rename_i hcond
  simp only [Option.some.injEq, Prod.mk.injEq] at he
  obtain ⟨rfl, rfl⟩ := he
  rw [hl'] at hl; rw [hc'] at hc
  have hl := hl.int_inv; have hc := hc.int_inv
  obtain ⟨h1, h2, h3, hzl⟩ := hcond
  obtain ⟨M, rfl⟩ := Int.eq_ofNat_of_zero_le (by omega : 0 ≤ m)
  obtain ⟨N, rfl⟩ := Int.eq_ofNat_of_zero_le h1
  obtain ⟨i, hi, hby⟩ := zjGS hby
  have hsz := zW9l (zu6q hk) w
  obtain ⟨zv, z1, z2, z3⟩ := zfjA (C := C) hz w
  have hzs : zv.cells.size = kst k := by have := VRL.length z2; simp at this; omega
  have hM : (M : Int) ≤ 1073741824 := h3
  have mulb : ∀ q : Nat, q ≤ 1073741824 → (i.bytes : Int) * (q : Int) ≤ 4398046511104 := fun q hq => by
    have h1 : i.bytes * q ≤ 4096 * 1073741824 := Nat.mul_le_mul hby hq
    have h2 : ((i.bytes * q : Nat) : Int) ≤ ((4398046511104 : Nat) : Int) := Int.ofNat_le.2 (by omega)
    rw [Int.natCast_mul] at h2
    omega
  have hbm := mulb M (by omega)
  let zc : Array Value := if M * kst k = 0 then #[] else zv.cells
  have hrun : (Instr.makeSlice t (a.eval l) (a.eval c)).run P w = .ok (.slice (some ⟨w.heap.size, 0, none⟩) N M) (pushW w (.cells ((Array.range (M * kst k)).map fun q => zc[q % zc.size]!) e)) := by
    rw [hl, hc]
    have ha : (askRoom (M * i.bytes)).run P w = .ok () w := by
      unfold askRoom roomBytes
      have : M * i.bytes ≤ 1073741824 * 4096 := Nat.mul_le_mul (by omega) hby
      rw [if_neg (by omega)]; rfl
    simp only [Instr.makeSlice, Sem.run_bind, zsha ht, Result.andThen_ok, asInt, asIntOf, Sem.run_pure, run_typeInfo w hi]
    rw [zQBv (by omega : (0 : Int) ≤ N) (by omega), zQBv (by omega : (0 : Int) ≤ M) h3]
    have hbm' : ¬ ((i.bytes : Int) * M > 2 ^ 48) := by
      have : (2 : Int) ^ 48 = 281474976710656 := by decide
      omega
    have hbn' : ¬ ((i.bytes : Int) * N > 2 ^ 48) := by
      have h48 : (2 : Int) ^ 48 = 281474976710656 := by decide
      have := mulb N (by omega)
      omega
    have c1 : ¬ ((M : Int) < 0) := by omega
    have c2 : ¬ ((N : Int) < 0) := by omega
    have c3 : ¬ ((N : Int) > (M : Int)) := by omega
    simp only [c1, c2, c3, hbm', decide_false, Bool.or_self, Bool.false_eq_true, if_false, or_self, Int.toNat_natCast]
    simp only [Sem.run_bind, ha, hsz, Result.andThen_ok]
    by_cases h0 : M * kst k = 0
    · simp only [h0, if_true, Sem.run_bind, Sem.run_pure, Result.andThen_ok, zpaT]
      simp [zc, h0]
    · simp only [h0, if_false, Sem.run_bind, z1, Sem.run_pure, Result.andThen_ok, zpaT]
      simp [zc, h0]
  simp only [Int.toNat_natCast]
  obtain ⟨d1, d2⟩ := z9MN z M
  rw [hzl] at d1 d2
  refine Does.val (v := .slice (some ⟨w.heap.size, 0, none⟩) N M) ?_ (zblO (c := (Array.range (M * kst k)).map fun q => zc[q % zc.size]!) (el := e) hg hb rfl ?_ ?_ ?_)
  · simp only [execOp, ho, Sem.run_bind, hrun, Result.andThen_ok, Sem.run_pure]
  · simp [d1]
  · intro j q hj
    have hlt := (List.getElem?_eq_some_iff.1 hj).1
    simp only [d1] at hlt
    have hj' : (dupN M z)[j]? = some q := hj
    rw [d2 j hlt] at hj'
    have hne : M * kst k ≠ 0 := by omega
    have hkp : 0 < kst k := Nat.pos_of_ne_zero fun h => hne (by rw [h]; simp)
    obtain ⟨y, g1, g2⟩ := z2.get (j % kst k) q hj'
    rw [Array.getElem?_toList] at g1
    refine ⟨y, ?_, g2, z3 y (by rw [Array.mem_toList_iff]; exact Array.mem_of_getElem? g1)⟩
    have : zc = zv.cells := by simp [zc, hne]
    rw [this, hzs]
    have hm := Nat.mod_lt j hkp
    rw [Array.getElem?_eq_getElem (by omega : j % kst k < zv.cells.size)] at g1
    simp at g1
    simp [hlt, getElem!_def, Array.getElem?_eq_getElem (by omega : j % kst k < zv.cells.size), g1]
  · intro C' k1 k2
    exact zVoA k1 k2 rfl (zew4 w _) (by omega) (by simp)
theorem z93d {o : Oper} {t : TypeId} {x : AV} {p : Option Pend} (ho : o.op = .makeMap t none) (hg : Good C w) (hb : ∀ u, ¬ C.lim nl u)
    (he : ev ce σ nl ps r .mkm = some (x, p)) : Does P o a w (PostE nl C w x p) := by
  simp only [ev, Option.some.injEq, Prod.mk.injEq] at he
  obtain ⟨rfl, rfl⟩ := he
  obtain ⟨h1, h2⟩ := zT19 hg (hb 0)
  refine Does.val (v := .map (some w.heap.size)) (w' := pushW w (.map #[] 0)) ?_ ⟨_, h1, h2, ?_, w.heap.size, rfl, rfl⟩
  · simp only [execOp, ho, Instr.makeMap, Sem.run_bind]
    rfl
  · unfold VR
    refine ⟨⟨_, rfl⟩, .inl ⟨rfl, rfl⟩, fun B id h _ => ?_⟩
    simp [addOwn] at h
    rw [← h.2]
theorem dn_nl {o : Oper} {x0 : Operand} {k : Option Nat} {x : AV} {p : Option Pend} (ho : o.op = .assign x0) (hn : nilOpd x0 = true) (hg : Good C w) (hb : ∀ u, ¬ C.lim nl u)
    (he : ev ce σ nl ps r (.nl k) = some (x, p)) : Does P o a w (PostE nl C w x p) := by
  simp only [ev] at he
  simp only [Option.some.injEq, Prod.mk.injEq] at he
  obtain ⟨rfl, rfl⟩ := he
  have hv : a.eval x0 = .slice none 0 0 := zLSU (ρ := a.eval) hn rfl
  refine Does.val (v := .slice none 0 0) (w' := w) (by simp only [execOp, ho, hv, Sem.run_pure]) ?_
  have ev' : Evol C w.heap (addOwn C nl 0 (⟨k, [], .nul⟩, 0)) w.heap := by
    refine ⟨fun _ h => h, fun _ _ => rfl, fun _ _ h => .inr h, fun b' u' B' id hl ho' => ?_⟩
    have hne : ¬ (b' = nl ∧ u' = 0) := fun ⟨e1, _⟩ => hb u' (e1 ▸ hl)
    simp only [addOwn, if_neg hne] at ho'
    exact ⟨B', ho', rfl, rfl, fun c el hc => ⟨c, hc, rfl⟩⟩
  refine ⟨addOwn C nl 0 (⟨k, [], .nul⟩, 0), ⟨hg.I, fun b' u' B' id ho' => ?_, fun b' u' B' id ho' hl => ?_, fun b1 u1 B1 i1 b2 u2 B2 i2 k1 l1 k2 l2 hne => ?_, fun b' u' B' id es ho' hl => ?_⟩,
    ⟨ev', Nat.le_refl _, fun _ _ _ => rfl, fun k' hk => ?_, fun _ h => .inl h, rfl, ⟨rfl, Nat.le_refl _⟩, rfl⟩, ?_, 0, rfl, rfl⟩
  · by_cases h : b' = nl ∧ u' = 0
    · simp only [addOwn, if_pos h] at ho'
      simp at ho'; obtain ⟨rfl, rfl⟩ := ho'
      exact ⟨.inl h, h.2, fun _ => rfl, by simp⟩
    · simp only [addOwn, if_neg h] at ho'
      obtain ⟨j1, j2, j3, j4⟩ := hg.ent b' u' B' id ho'
      exact ⟨.inr j1, j2, j3, j4⟩
  · by_cases h : b' = nl ∧ u' = 0
    · simp only [addOwn, if_pos h] at ho'
      simp at ho'; obtain ⟨rfl, rfl⟩ := ho'
      simp at hl
    · simp only [addOwn, if_neg h] at ho'
      obtain ⟨j1, c, el, j2, j3, j4⟩ := hg.live b' u' B' id ho' hl
      refine ⟨j1, c, el, j2, j3, fun i x hi => ?_⟩
      obtain ⟨y, m1, m2, m3⟩ := j4 i x hi
      exact ⟨y, m1, VR.mono ev' _ _ m2, m3⟩
  · by_cases e1 : b1 = nl ∧ u1 = 0
    · simp only [addOwn, if_pos e1] at k1; simp at k1; obtain ⟨rfl, rfl⟩ := k1; simp [BSt.lies] at l1
    · by_cases e2 : b2 = nl ∧ u2 = 0
      · simp only [addOwn, if_pos e2] at k2; simp at k2; obtain ⟨rfl, rfl⟩ := k2; simp [BSt.lies] at l2
      · simp only [addOwn, if_neg e1] at k1; simp only [addOwn, if_neg e2] at k2
        exact hg.apart b1 u1 B1 i1 b2 u2 B2 i2 k1 l1 k2 l2 hne
  · by_cases h : b' = nl ∧ u' = 0
    · simp only [addOwn, if_pos h] at ho'
      simp at ho'; obtain ⟨rfl, rfl⟩ := ho'; simp at hl
    · simp only [addOwn, if_neg h] at ho'
      exact hg.maps_keep (C' := addOwn C nl 0 (⟨k, [], .nul⟩, 0)) (fun _ h => h) (fun _ _ => rfl) ho' hl rfl (hg.maps b' u' B' id es ho' hl).1
  · obtain ⟨b', u', B', ho', hl⟩ := hk
    by_cases h : b' = nl ∧ u' = 0
    · simp only [addOwn, if_pos h] at ho'
      simp at ho'; obtain ⟨rfl, rfl⟩ := ho'; simp [BSt.lies] at hl
    · simp only [addOwn, if_neg h] at ho'
      exact .inl ⟨b', u', B', ho', hl⟩
  · unfold VR
    refine ⟨⟨none, 0, rfl, Nat.le_refl _, fun h => absurd h (Nat.lt_irrefl 0)⟩, .inl ⟨rfl, rfl⟩, fun B id h => ?_⟩
    simp [addOwn] at h
    obtain ⟨rfl, rfl⟩ := h
    exact ⟨rfl, rfl, rfl⟩
end
end Ab
set_option linter.all false
namespace Ab
open Go
variable {P : Program}
section
variable {w : World} {C : Ctx}
theorem zce2 {cs : List AV} {blk off : Nat} {c : Array Value} {el : TypeId} {fz : Nat × Nat} (h : w.heap[blk]? = some (.cells c el fz))
    (hc : ∀ (i : Nat) q, cs[i]? = some q → ∃ y, c[off + i]? = some y ∧ VR C w.heap q y ∧ y.oneCell' = true) :
    ∃ vals : List Value, (∀ w1 : World, w1.heap = w.heap → (loadCells ⟨blk, off, none⟩ cs.length).run P w1 = .ok vals.toArray w1) ∧ vals.length = cs.length ∧ ∀ (i : Nat) q, cs[i]? = some q → ∃ y, vals[i]? = some y ∧ VR C w.heap q y ∧ y.oneCell' = true := by
  refine ⟨(List.range cs.length).map fun j => (c[off + j]?).getD undef, fun w1 h1 => run_loadCells w1 _ _ _ fun j hj => ?_, by simp, fun i q hi => ?_⟩
  · obtain ⟨y, h2, _⟩ := hc j cs[j] (by simp [hj])
    rw [z9vx]
    simp [World.cell?, h1, h, h2]
  · obtain ⟨y, h1, h2⟩ := hc i q hi
    have hlt := (List.getElem?_eq_some_iff.1 hi).1
    exact ⟨y, by simp [hlt, h1], h2⟩
theorem zSuq {st : Nat} {l : List AV} (h : fitAll st l = true) : ∀ x ∈ l, x.cells.length = st := fun x hx => (zflE h x hx).1
theorem zMWO {σ : List Blk} {k : Option Nat} {X : AV} {v : Value} {n : Nat} {cs : List AV} (h : srcCells σ k X = some (n, cs)) (hg : Good C w) (hup : ∀ b u B, upto σ b u = some B → ∃ id, C.own b u = some (B, id)) (hv : VR C w.heap X v) :
    ∃ vals : List Value, (∃ q m, v = .slice q n m) ∧ (∀ w1 : World, w1.heap = w.heap → (Builtin.firstCells (kst k) n v).run P w1 = .ok vals.toArray w1) ∧ cs.length = n * kst k ∧ vals.length = cs.length ∧ ∀ (i : Nat) q, cs[i]? = some q → ∃ y, vals[i]? = some y ∧ VR C w.heap q y ∧ y.oneCell' = true := by
  have hnilA : ∀ (a : Option Addr) m (w1 : World), w1.heap = w.heap → (Builtin.firstCells (kst k) 0 (.slice a 0 m)).run P w1 = .ok ([] : List Value).toArray w1 := fun a m w1 _ => by
    cases a <;> simp [Builtin.firstCells, loadCells, loadCellsFrom]
  have hnil := hnilA none
  -- elements of an unwritten slice
  have himm : ∀ (l : List AV) (blk off st' cap : Nat) (c : Array Value) (el : TypeId) (fz : Nat × Nat), fitAll (kst k) l = true → v = .slice (some ⟨blk, off, none⟩) l.length cap → w.heap[blk]? = some (.cells c el fz) → VRI C w.heap c st' l off →
      ∃ vals : List Value, (∃ q m, v = .slice q l.length m) ∧ (∀ w1 : World, w1.heap = w.heap → (Builtin.firstCells (kst k) l.length v).run P w1 = .ok vals.toArray w1) ∧ (l.flatMap AV.cells).length = l.length * kst k ∧ vals.length = (l.flatMap AV.cells).length ∧ ∀ (i : Nat) q, (l.flatMap AV.cells)[i]? = some q → ∃ y, vals[i]? = some y ∧ VR C w.heap q y ∧ y.oneCell' = true := by
    intro l blk off st' cap c el fz hf e hH hl
    obtain ⟨f1, f2⟩ := zdvf (zSuq hf)
    have hc := z6Qs (C := C) (H := w.heap) (c := c) (off := off) (zSuq hf) (fun i x hi => by
      obtain ⟨val, g1, g2, g3⟩ := hl.get i x hi
      obtain ⟨h1, h2⟩ := zflE hf x (List.mem_of_getElem? hi)
      have hst : st' = kst k := by rw [← g2, VR.size h2 g1, h1]
      subst hst
      exact ⟨val, g1, g2, h2, fun j hj => by rw [← g3 j hj, Nat.add_assoc]⟩)
    obtain ⟨vals, k1, k2, k3⟩ := zce2 (P := P) hH hc
    exact ⟨vals, ⟨_, _, e⟩, fun w1 h1 => by rw [e]; simp only [Builtin.firstCells]; rw [← f1]; exact k1 w1 h1, f1, k2, k3⟩
  cases X <;> simp only [srcCells] at h <;> try (simp at h; done)
  · simp at h; obtain ⟨rfl, rfl⟩ := h
    have hv : v = .slice none 0 0 := hv
    subst hv
    exact ⟨[], ⟨_, _, rfl⟩, hnil 0, by simp, rfl, fun i q h => by simp at h⟩
  · rename_i nn l
    split at h
    case isFalse => simp at h
    rename_i hf
    simp only [Option.some.injEq, Prod.mk.injEq] at h; obtain ⟨rfl, rfl⟩ := h
    unfold VR at hv
    rcases hv.2 with ⟨rfl, _, rfl, _⟩ | ⟨blk, off, cap, st, c, el, fz, e, _, _, hH, hl⟩
    · exact ⟨[], ⟨_, _, rfl⟩, hnilA _ 0, by simp, rfl, fun i q h => by simp at h⟩
    · exact himm l blk off st cap c el fz hf e hH hl
  · rename_i l
    split at h
    case isFalse => simp at h
    rename_i hf
    simp only [Option.some.injEq, Prod.mk.injEq] at h; obtain ⟨rfl, rfl⟩ := h
    unfold VR at hv
    obtain ⟨blk, off, st, c, el, fz, e, _, hH, hl⟩ := hv
    exact himm l blk off st l.length c el fz hf e hH hl
  · rename_i b u off len
    cases hu : upto σ b u with
    | none => simp [hu] at h
    | some B =>
      simp only [hu] at h
      split at h
      case isFalse => simp at h
      rename_i hle
      simp only [Option.some.injEq, Prod.mk.injEq] at h; obtain ⟨rfl, rfl⟩ := h
      obtain ⟨id, ho⟩ := hup b u B hu
      obtain ⟨_, e1, e3, e4⟩ := hg.ent b u B id ho
      unfold VR at hv
      have hv := hv.2.2 B id ho
      have hlen : ((B.cells.drop off).take (len * kst k)).length = len * kst k := by simp; omega
      cases hs : B.st with
      | dead => exact absurd hs e4
      | map es => have := z85o hu; rw [hs] at this; simp [BSt.isMap] at this
      | nul =>
        simp only [hs] at hv
        obtain ⟨rfl, rfl, rfl⟩ := hv
        exact ⟨[], ⟨_, _, rfl⟩, hnil 0, by simp, by simp, fun i q h => by simp at h⟩
      | live =>
        simp only [hs] at hv
        obtain ⟨c, el, o, cap, g1, rfl, g3, g4, g5⟩ := hv
        obtain ⟨_, c', el', n2, n3, n4⟩ := hg.live b u B id ho hs
        rw [g1] at n2
        simp only [Option.some.injEq, Obj.cells.injEq] at n2
        obtain ⟨rfl, rfl, _⟩ := n2
        by_cases h0 : len = 0
        · subst h0
          refine ⟨[], ⟨_, _, rfl⟩, ?_, by simp, by simp, fun i q h => by simp at h⟩
          intro w1 _
          have := run_loadCells (P := P) w1 ⟨id, o, none⟩ 0 (fun _ => undef) (fun j hj => absurd hj (Nat.not_lt_zero j))
          simpa [Builtin.firstCells] using this
        · obtain rfl := g3 (by omega)
          obtain ⟨vals, k1, k2, k3⟩ := zce2 (P := P) (cs := (B.cells.drop o).take (len * kst k)) (off := o) g1 (fun i q hi => by
            have hlt := (List.getElem?_eq_some_iff.1 hi).1
            rw [hlen] at hlt
            rw [List.getElem?_take_of_lt hlt, List.getElem?_drop] at hi
            exact n4 (o + i) q hi)
          exact ⟨vals, ⟨_, _, rfl⟩, fun w1 h1 => by simp only [Builtin.firstCells]; rw [← hlen]; exact k1 w1 h1, hlen, k2, k3⟩
theorem zsaV {x : AV} {b : UInt8} (h : byteOf x = some b) : ∃ n : Int, x = .ik 4 n ∧ (0 ≤ n ∧ n ≤ 255) ∧ b = UInt8.ofNat n.toNat := by
  unfold byteOf at h
  split at h
  · rename_i n
    split at h
    · rename_i hn
      injection h with h
      exact ⟨n, rfl, hn, h.symm⟩
    · simp at h
  · simp at h
theorem zuz2 {C : Ctx} {H : Array Obj} : ∀ {cs : List AV} {s : List UInt8} {vals : List Value}, bytesOf cs = some s → vals.length = cs.length → (∀ (i : Nat) q, cs[i]? = some q → ∃ y, vals[i]? = some y ∧ VR C H q y ∧ y.oneCell' = true) → ∃ ns : List Int, vals = ns.map (Value.int .u8) ∧ ns.map (fun n => UInt8.ofNat n.toNat) = s
  | [], s, vals, h, hl, _ => by
    simp [bytesOf] at h; subst h
    obtain rfl := List.eq_nil_of_length_eq_zero hl
    exact ⟨[], rfl, rfl⟩
  | x :: cs, s, vals, h, hl, hv => by
    obtain ⟨y, h1, h2, _⟩ := hv 0 x rfl
    cases vals with
    | nil => simp at hl
    | cons v vals =>
      simp at h1; subst h1
      cases hx : byteOf x with
      | none => simp [bytesOf, hx] at h
      | some b =>
      cases hb : bytesOf cs with
      | none => simp [bytesOf, hx, hb] at h
      | some s' =>
        simp [bytesOf, hx, hb] at h
        subst h
        obtain ⟨n, rfl, hn, rfl⟩ := zsaV hx
        obtain ⟨ns, e1, e2⟩ := zuz2 hb (by simpa using hl) (fun i q hi => hv (i + 1) q hi)
        unfold VR at h2
        obtain ⟨K, g1, g2⟩ := h2
        rw [show kindOf 4 = some IntKind.u8 from rfl] at g1
        cases g1
        exact ⟨n :: ns, by rw [e1, g2]; rfl, by rw [← e2]; rfl⟩
theorem zBHP : ∀ (ns : List Int) (b : ByteArray), ns.foldl (fun r n => r.push (UInt8.ofNat n.toNat)) b = ⟨b.data ++ (ns.map fun n => UInt8.ofNat n.toNat).toArray⟩
  | [], b => by simp
  | n :: ns, b => by
    rw [List.foldl_cons, zBHP ns]
    simp [ByteArray.push]
theorem zhvk {ce : CE} {σ : List Blk} {nl : Nat} {ps : List Pend} {r : Rf → AV} {o : Oper} {s d : TypeId} {x : Operand} {y : Rf} {z : AV} {p : Option Pend} {ρ : Operand → Value} (ho : o.op = .convert s d x)
    (ht : (match P.underlying s, P.underlying d with | some (.slice e), some .string => (match P.underlying e with | some (.int .u8) => true | _ => false) | _, _ => false) = true) (hg : Good C w) (hup : ∀ b u B, upto σ b u = some B → ∃ id, C.own b u = some (B, id)) (hx : VR C w.heap (r y) (ρ x)) (he : ev ce σ nl ps r (.sob y) = some (z, p)) : Plain P ρ o w C w.heap z ∧ p = none := by
  have hu : ∃ e, P.underlying s = some (.slice e) ∧ P.underlying d = some .string ∧ P.underlying e = some (.int .u8) := by
    split at ht
    · rename_i e h1 h2
      split at ht
      · rename_i h3; exact ⟨e, h1, h2, h3⟩
      · simp at ht
    · simp at ht
  obtain ⟨e, hs, hd, hee⟩ := hu
  simp only [ev] at he
  cases hc : srcCells σ none (r y) with
  | none => rw [hc] at he; simp at he
  | some q =>
    obtain ⟨n, cs⟩ := q
    rw [hc] at he
    simp only at he
    cases hb : bytesOf cs with
    | none => rw [hb] at he; simp at he
    | some bs =>
      rw [hb] at he
      simp at he
      obtain ⟨hz, hp⟩ := he
      subst hz hp
      obtain ⟨vals, ⟨q, m, hv⟩, hrun, h1, h2, h3⟩ := zMWO (P := P) hc hg hup hx
      obtain ⟨ns, e1, e2⟩ := zuz2 hb h2 h3
      have hr := hrun w rfl
      have hn1 : vals.length = n := by rw [h2, h1]; simp [kst]
      refine ⟨zBZO (s := Go.convert s d (ρ x)) (v := .string ⟨bs.toArray⟩) (by simp only [execOp, ho]) ?_ (by unfold VR; rfl), rfl⟩
      rw [hv] at hr ⊢
      cases q with
      | none =>
        rw [run_convert_bytes_string w s d e none n m hs hee hd]
        have hvn : vals = [] := by
          simp only [Builtin.firstCells, Sem.run_pure, Result.ok.injEq, and_true] at hr
          simpa using hr.symm
        rw [hvn] at e1
        have : ns = [] := by simpa using e1.symm
        subst this
        simp at e2
        subst e2
        simp [Conv.bytesToString]
        rfl
      | some ad =>
        rw [run_convert_bytes_string w s d e (some ad) n m hs hee hd]
        have hl : (loadCells ad n).run P w = .ok (ns.map (Value.int .u8)).toArray w := by
          rw [← e1]
          simpa [Builtin.firstCells, kst] using hr
        rw [run_bytesToString w ad n m ns hl, zBHP]
        simp [e2, ByteArray.empty, ByteArray.emptyWithCapacity]
        rfl
theorem zidW {σ : List Blk} {k : Option Nat} {X : AV} {v : Value} {n m : Nat} {cs : List AV} (h : srcCells σ k X = some (n, cs)) (hm : m ≤ n) (hg : Good C w) (hup : ∀ b u B, upto σ b u = some B → ∃ id, C.own b u = some (B, id)) (hv : VR C w.heap X v) :
    ∃ vals : List Value, (∃ q m, v = .slice q n m) ∧ (Builtin.firstCells (kst k) m v).run P w = .ok vals.toArray w ∧ cs.length = n * kst k ∧ vals.length = m * kst k ∧ ∀ (i : Nat) q, (cs.take (m * kst k))[i]? = some q → ∃ y, vals[i]? = some y ∧ VR C w.heap q y ∧ y.oneCell' = true := by
  have hmk : m * kst k ≤ n * kst k := Nat.mul_le_mul_right _ hm
  have hnilA : ∀ (a : Option Addr) j, (Builtin.firstCells (kst k) 0 (.slice a 0 j)).run P w = .ok ([] : List Value).toArray w := fun a j => by
    cases a <;> simp [Builtin.firstCells, loadCells, loadCellsFrom]
  have himm : ∀ (l : List AV) (blk off st' cap : Nat) (c : Array Value) (el : TypeId) (fz : Nat × Nat), m ≤ l.length → fitAll (kst k) l = true → v = .slice (some ⟨blk, off, none⟩) l.length cap → w.heap[blk]? = some (.cells c el fz) → VRI C w.heap c st' l off →
      ∃ vals : List Value, (∃ q m, v = .slice q l.length m) ∧ (Builtin.firstCells (kst k) m v).run P w = .ok vals.toArray w ∧ (l.flatMap AV.cells).length = l.length * kst k ∧ vals.length = m * kst k ∧ ∀ (i : Nat) q, ((l.flatMap AV.cells).take (m * kst k))[i]? = some q → ∃ y, vals[i]? = some y ∧ VR C w.heap q y ∧ y.oneCell' = true := by
    intro l blk off st' cap c el fz hml hf e hH hl
    obtain ⟨f1, f2⟩ := zdvf (zSuq hf)
    have hc := z6Qs (C := C) (H := w.heap) (c := c) (off := off) (zSuq hf) (fun i x hi => by
      obtain ⟨val, g1, g2, g3⟩ := hl.get i x hi
      obtain ⟨h1, h2⟩ := zflE hf x (List.mem_of_getElem? hi)
      have hst : st' = kst k := by rw [← g2, VR.size h2 g1, h1]
      subst hst
      exact ⟨val, g1, g2, h2, fun j hj => by rw [← g3 j hj, Nat.add_assoc]⟩)
    have hlen : ((l.flatMap AV.cells).take (m * kst k)).length = m * kst k := by
      have := Nat.mul_le_mul_right (kst k) hml
      rw [List.length_take, f1]; omega
    obtain ⟨vals, k1, k2, k3⟩ := zce2 (P := P) (cs := (l.flatMap AV.cells).take (m * kst k)) (off := off) hH (fun i q hi => by
      have hlt := (List.getElem?_eq_some_iff.1 hi).1
      rw [hlen] at hlt
      rw [List.getElem?_take_of_lt hlt] at hi
      exact hc i q hi)
    exact ⟨vals, ⟨_, _, e⟩, by rw [e]; simp only [Builtin.firstCells]; rw [← hlen]; exact k1 w rfl, f1, by rw [k2, hlen], k3⟩
  cases X <;> simp only [srcCells] at h <;> try (simp at h; done)
  · simp at h; obtain ⟨rfl, rfl⟩ := h
    have hv : v = .slice none 0 0 := hv
    subst hv
    obtain rfl : m = 0 := by omega
    exact ⟨[], ⟨_, _, rfl⟩, hnilA none 0, by simp, by simp, fun i q h => by simp at h⟩
  · rename_i nn l
    split at h
    case isFalse => simp at h
    rename_i hf
    simp only [Option.some.injEq, Prod.mk.injEq] at h; obtain ⟨rfl, rfl⟩ := h
    unfold VR at hv
    rcases hv.2 with ⟨rfl, _, rfl, _⟩ | ⟨blk, off, cap, st, c, el, fz, e, _, _, hH, hl⟩
    · obtain rfl : m = 0 := by simpa using hm
      exact ⟨[], ⟨_, _, rfl⟩, hnilA _ 0, by simp, by simp, fun i q h => by simp at h⟩
    · exact himm l blk off st cap c el fz hm hf e hH hl
  · rename_i l
    split at h
    case isFalse => simp at h
    rename_i hf
    simp only [Option.some.injEq, Prod.mk.injEq] at h; obtain ⟨rfl, rfl⟩ := h
    unfold VR at hv
    obtain ⟨blk, off, st, c, el, fz, e, _, hH, hl⟩ := hv
    exact himm l blk off st l.length c el fz hm hf e hH hl
  · rename_i b u off len
    cases hu : upto σ b u with
    | none => simp [hu] at h
    | some B =>
      simp only [hu] at h
      split at h
      case isFalse => simp at h
      rename_i hle
      simp only [Option.some.injEq, Prod.mk.injEq] at h; obtain ⟨rfl, rfl⟩ := h
      obtain ⟨id, ho⟩ := hup b u B hu
      obtain ⟨_, e1, e3, e4⟩ := hg.ent b u B id ho
      unfold VR at hv
      have hv := hv.2.2 B id ho
      have hlen : ((B.cells.drop off).take (len * kst k)).length = len * kst k := by simp; omega
      cases hs : B.st with
      | dead => exact absurd hs e4
      | map es => have := z85o hu; rw [hs] at this; simp [BSt.isMap] at this
      | nul =>
        simp only [hs] at hv
        obtain ⟨rfl, rfl, rfl⟩ := hv
        obtain rfl : m = 0 := by omega
        exact ⟨[], ⟨_, _, rfl⟩, hnilA none 0, by simp, by simp, fun i q h => by simp at h⟩
      | live =>
        simp only [hs] at hv
        obtain ⟨c, el, o, cap, g1, rfl, g3, g4, g5⟩ := hv
        obtain ⟨_, c', el', n2, n3, n4⟩ := hg.live b u B id ho hs
        rw [g1] at n2
        simp only [Option.some.injEq, Obj.cells.injEq] at n2
        obtain ⟨rfl, rfl, _⟩ := n2
        by_cases h0 : m = 0
        · subst h0
          refine ⟨[], ⟨_, _, rfl⟩, ?_, hlen, by simp, fun i q h => by simp at h⟩
          have := run_loadCells (P := P) w ⟨id, o, none⟩ 0 (fun _ => undef) (fun j hj => absurd hj (Nat.not_lt_zero j))
          simpa [Builtin.firstCells] using this
        · obtain rfl := g3 (by omega)
          have htk : ((B.cells.drop o).take (len * kst k)).take (m * kst k) = (B.cells.drop o).take (m * kst k) := by rw [List.take_take, Nat.min_eq_left hmk]
          have hlen' : ((B.cells.drop o).take (m * kst k)).length = m * kst k := by simp; omega
          obtain ⟨vals, k1, k2, k3⟩ := zce2 (P := P) (cs := (B.cells.drop o).take (m * kst k)) (off := o) g1 (fun i q hi => by
            have hlt := (List.getElem?_eq_some_iff.1 hi).1
            rw [hlen'] at hlt
            rw [List.getElem?_take_of_lt hlt, List.getElem?_drop] at hi
            exact n4 (o + i) q hi)
          exact ⟨vals, ⟨_, _, rfl⟩, by simp only [Builtin.firstCells]; rw [← hlen']; exact k1 w rfl, hlen, by rw [k2, hlen'], by rw [htk]; exact k3⟩
theorem zvni (n : Nat) : ∀ (m c : Nat), Builtin.growBy n m c ≤ 2 ^ m * (c + 768)
  | 0, c => by simp [Builtin.growBy]
  | m + 1, c => by
    unfold Builtin.growBy
    split
    · have : 1 * (c + 768) ≤ 2 ^ (m + 1) * (c + 768) := Nat.mul_le_mul_right _ (Nat.one_le_two_pow)
      omega
    · refine Nat.le_trans (zvni n m _) ?_
      rw [Nat.pow_succ, Nat.mul_assoc]
      refine Nat.mul_le_mul_left _ ?_
      omega
theorem zvMQ {need cap : Nat} (h : need ≤ 1073741824) (hc : cap < need) : Builtin.nextslicecap need cap ≤ 17179881472 := by
  unfold Builtin.nextslicecap
  split
  · omega
  · split
    · omega
    · have h2 : Builtin.growBy need 4 cap ≤ 16 * (cap + 768) := zvni need 4 cap
      exact Nat.le_trans h2 (Nat.le_trans (Nat.mul_le_mul_left 16 (show cap + 768 ≤ 1073742592 by omega)) (by decide))
theorem zAY7 {T T' e : TypeId} {k : Option Nat} (ht : sliceOf P T = some e) (ht' : (sliceOf P T').isSome = true) (hk : kindIs P e k = true) {ty : TypeId} {x : Value} {n len cap : Nat} {q : Option Addr} {m : Nat} {base : Option Addr} {vals : List Value} {w' : World}
    (hx : x = .slice q n m) (hf : (Builtin.firstCells (kst k) n x).run P w = .ok vals.toArray w) (hfit : len + n ≤ cap)
    (hst : ∀ b, base = some b → (storeCells (b.add (len * kst k)) vals).run P w = .ok () w') (hno : base = none → w' = w) :
    (Builtin.append_ #[T, T'] ty #[.slice base len cap, x]).run P w = .ok (.slice base (len + n) cap) w' := by
  obtain ⟨e', he'⟩ := Option.isSome_iff_exists.1 ht'
  subst hx
  cases base with
  | none => simp [Builtin.append_, zsha ht, zsha he', zW9l (zu6q hk), Builtin.lenOf, hfit, hf, hno rfl]
  | some b =>
    have hst := hst b rfl
    simp [Builtin.append_, zsha ht, zsha he', zW9l (zu6q hk), Builtin.lenOf, hfit, hf, hst]
theorem zgaC {T T' e : TypeId} {k : Option Nat} (ht : sliceOf P T = some e) (ht' : (sliceOf P T').isSome = true) (hk : kindIs P e k = true) (hby : bytesOk P e = true) (hz : hasZero P e = true) {ty : TypeId} {x : Value} {n len cap : Nat} {q : Option Addr} {m : Nat} {base : Option Addr}
    {vals olds : List Value} (hx : x = .slice q n m) (hf : ∀ w1 : World, w1.heap = w.heap → (Builtin.firstCells (kst k) n x).run P w1 = .ok vals.toArray w1) (ho : ∀ w1 : World, w1.heap = w.heap → (Builtin.firstCells (kst k) len (.slice base len cap)).run P w1 = .ok olds.toArray w1)
    (hlt : cap < len + n) (hb : len + n ≤ 1073741824) :
    ∃ (nc : Nat) (rest : Array Value), len + n ≤ nc ∧ rest.size = (nc - (len + n)) * kst k ∧
      (Builtin.append_ #[T, T'] ty #[.slice base len cap, x]).run P w = .ok (.slice (some ⟨w.heap.size, 0, none⟩) (len + n) nc) (pushW w.drew (.cells (olds.toArray ++ vals.toArray ++ rest) e)) := by
  obtain ⟨e', he'⟩ := Option.isSome_iff_exists.1 ht'
  obtain ⟨i, hi, hby⟩ := zjGS hby
  subst hx
  have hz' : ∃ z, i.zero = some z ∧ z.cells.size = kst k := by
    unfold hasZero at hz
    simp only [hi] at hz
    cases hzz : i.zero with
    | none => simp [hzz] at hz
    | some z =>
      simp [hzz] at hz
      have := zu6q hk
      simp [sizeIs, hi] at this
      exact ⟨z, rfl, by omega⟩
  obtain ⟨z, hzz, hzs⟩ := hz'
  have hzv : ∀ w1 : World, (zeroValue e).run P w1 = .ok z w1 := fun w1 => by
    simp only [zeroValue, Sem.run_bind, run_typeInfo w1 hi, Result.andThen_ok, hzz, Sem.run_pure]
  have c0 : ¬ (len + n ≤ cap) := by omega
  have c1 : ¬ (((len + n : Nat) : Int) > IntKind.i64.max) := by
    have : IntKind.i64.max = 9223372036854775807 := by decide
    rw [this]; omega
  have c2 : ¬ (Builtin.nextslicecap (len + n) cap * i.bytes > 2 ^ 48) := by
    have h1 := zvMQ hb hlt
    have h2 : Builtin.nextslicecap (len + n) cap * i.bytes ≤ 17179881472 * 4096 := Nat.mul_le_mul h1 hby
    have h3 : 17179881472 * 4096 ≤ 2 ^ 48 := by decide
    exact Nat.not_lt.2 (Nat.le_trans h2 h3)
  let nc : Nat := (Question.appendCap (len + n) cap e).cut (w.tape w.drawn (.appendCap (len + n) cap e))
  have hnc : len + n ≤ nc := by show _ ≤ _ + _; omega
  have hch : (choose (.appendCap (len + n) cap e)).run P w = .ok nc w.drew := by
    rfl
  have hask : ∀ (b : Nat) (w1 : World), (askRoom b).run P w1 = .ok () w1 := fun b w1 => by
    unfold askRoom
    split <;> rfl
  have hsz := zW9l (zu6q hk) (P := P)
  refine ⟨nc, Builtin.zeroCells z.cells (nc - (len + n)), hnc, ?_, ?_⟩
  · simp [Builtin.zeroCells, hzs]
  · have hold := ho w.drew rfl
    have hfd := hf w.drew rfl
    have c1' : ¬ ((9223372036854775807 : Int) < (len : Int) + (n : Int)) := by omega
    have hfo : (Question.appendCap (len + n) cap e).forced = false := rfl
    have c2' : Builtin.nextslicecap (len + n) cap * i.bytes ≤ 281474976710656 := by
      have : (2 : Nat) ^ 48 = 281474976710656 := by decide
      omega
    simp [Builtin.append_, zsha ht, zsha he', hsz, Builtin.lenOf, c0, c1', run_typeInfo w hi, c2', hfo, hch, run_typeInfo w.drew hi, hask, hold, hfd, hzv, zpaT]
    rw [if_neg (by omega)]
    have hass : ∀ Z : Array Value, olds.toArray ++ (vals.toArray ++ Z) = (olds ++ vals).toArray ++ Z := fun Z => by rw [← Array.append_assoc]; simp
    first
      | (rw [hass]; done)
      | (rw [hass]; rfl)
      | rfl
end
end Ab
set_option linter.all false
namespace Ab
open Go
variable {P : Program}
theorem zLGX (w : World) (g : Nat) (c : Array Value) {k : Nat} (h : k ≠ g) : (w.setRow g c).heap[k]? = w.heap[k]? := by
  simp only [World.setRow, Array.getElem?_modify]
  rw [if_neg (by omega)]
theorem zIsg (w : World) (g : Nat) (c : Array Value) : (w.setRow g c).heap.size = w.heap.size := by simp [World.setRow]
theorem zLEV {C : Ctx} {w : World} (hg : Good C w) {id : Nat} {c c' : Array Value} {el : TypeId} (hid : owned C id) (hH : w.heap[id]? = some (.cells c el (0, 0))) (hs : c'.size = c.size) (C' : Ctx) (hI : ∀ k, C.I k → C'.I k) (hlim : ∀ b u, C.lim b u → C'.lim b u)
    (hown : ∀ b u B' i, C.lim b u → C'.own b u = some (B', i) → ∃ B, C.own b u = some (B, i) ∧ B.st = B'.st ∧ B.k = B'.k) : Evol C w.heap C' (w.setRow id c').heap := by
  refine ⟨hI, fun k hk => zLGX w id c' fun e => hg.notI hid (e ▸ hk), hlim, fun b u B' i hl ho => ?_⟩
  obtain ⟨B, h1, h2, h3⟩ := hown b u B' i hl ho
  refine ⟨B, h1, by rw [h2], h3, fun q el' hq => ?_⟩
  by_cases e : i = id
  · subst e
    rw [hH] at hq
    simp only [Option.some.injEq, Obj.cells.injEq] at hq
    obtain ⟨rfl, rfl, _⟩ := hq
    exact ⟨c', setRow_heap w i c c' el (0, 0) hH, hs⟩
  · exact ⟨q, by rw [zLGX w id c' e]; exact hq, rfl⟩
section
variable {a : Act} {ρ : Operand → Value} {r : Rf → AV} {w : World} {C : Ctx} {R : Operand → Rf → Bool} {ce : CE} {σ : List Blk} {nl : Nat} {ps : List Pend}
theorem zuOk {o : Oper} {ca : Call} {bi : Builtin} (ho : o.op = .call ca) (hc : ca.callee = .builtin bi) (w : World) :
    (execOp a.eval o).run P w = (builtin bi ca.argTypes o.type (ca.args.map fun | .const _ => true | _ => false) (ca.args.map a.eval)).run P w := by
  simp only [execOp, ho, resolve, hc, Sem.run_bind, Sem.run_pure, Result.andThen_ok, invoke]
  rfl
theorem zpj1 {o : Oper} {ca : Call} {s x : Operand} {t t' : TypeId} {Post : Value → World → Prop} {v : Value} {w' : World} (ho : o.op = .call ca) (hc : ca.callee = .builtin .append) (ha : ca.args.toList = [s, x]) (hat : ca.argTypes.toList = [t, t'])
    (h : (Builtin.append_ #[t, t'] o.type #[a.eval s, a.eval x]).run P w = .ok v w') (hp : Post v w') : Does P o a w Post := by
  have ha' : ca.args = #[s, x] := by rw [← Array.toList_inj]; simpa using ha
  have hat' : ca.argTypes = #[t, t'] := by rw [← Array.toList_inj]; simpa using hat
  refine Does.val (v := v) (w' := w') ?_ hp
  rw [zuOk ho hc]
  simp only [builtin, ha', hat', Sem.run_bind]
  have : Array.map a.eval #[s, x] = #[a.eval s, a.eval x] := by simp
  rw [this, h]
  simp
theorem z5NE {cells cs : List AV} {olds vals : List Value} {rest : Array Value} {H : Array Obj} (h1 : olds.length = cells.length) (h2 : vals.length = cs.length)
    (ho : ∀ (i : Nat) q, cells[i]? = some q → ∃ y, olds[i]? = some y ∧ VR C H q y ∧ y.oneCell' = true) (hv : ∀ (i : Nat) q, cs[i]? = some q → ∃ y, vals[i]? = some y ∧ VR C H q y ∧ y.oneCell' = true) :
    (cells ++ cs).length ≤ (olds.toArray ++ vals.toArray ++ rest).size ∧ ∀ (i : Nat) q, (cells ++ cs)[i]? = some q → ∃ y, (olds.toArray ++ vals.toArray ++ rest)[i]? = some y ∧ VR C H q y ∧ y.oneCell' = true := by
  refine ⟨by simp; omega, fun i q hi => ?_⟩
  have hlt := (List.getElem?_eq_some_iff.1 hi).1
  simp at hlt
  rw [Array.getElem?_append_left (by simp; omega)]
  by_cases hl : i < cells.length
  · rw [List.getElem?_append_left hl] at hi
    obtain ⟨y, g1, g2⟩ := ho i q hi
    exact ⟨y, by rw [Array.getElem?_append_left (by simp; omega)]; simpa using g1, g2⟩
  · rw [List.getElem?_append_right (by omega)] at hi
    obtain ⟨y, g1, g2⟩ := hv _ q hi
    exact ⟨y, by rw [Array.getElem?_append_right (by simp; omega)]; simpa [h1] using g1, g2⟩
theorem znHe (w : World) : w.drew.heap = w.heap := rfl
theorem zAGP {B : Blk} {b : Nat} {c : Array Value} {el : TypeId} (hg : Good C w) (hb : ¬ C.lim b B.cells.length) (hst : B.st = .live) (hle : B.cells.length ≤ c.size) (hc : ∀ (i : Nat) x, B.cells[i]? = some x → ∃ y, c[i]? = some y ∧ VR C w.heap x y ∧ y.oneCell' = true) :
    Good (addOwn C b B.cells.length (B, w.heap.size)) (pushW w.drew (.cells c el)) ∧ Step C w (addOwn C b B.cells.length (B, w.heap.size)) (pushW w.drew (.cells c el)) := by
  have h1 : Good C w.drew := hg.heap rfl
  obtain ⟨g1, g2⟩ := zj2x h1 B hb c el hst hle hc
  exact ⟨g1, (Step.heap (C := C) (w := w) (w' := w.drew) rfl rfl ⟨rfl, Nat.le_succ _⟩ rfl).trans g2⟩
theorem zr6j {B : Blk} {b id : Nat} {cs : List AV} {c : Array Value} {el : TypeId} {vals : List Value} (hg : Good C w) (ho : C.own b B.cells.length = some (B, id)) (hl : B.st = .live) (hnew : ¬ C.lim b (B.cells ++ cs).length)
    (honly : ∀ u' B' id', C.own b u' = some (B', id') → u' = B.cells.length) (hH : w.heap[id]? = some (.cells c el (0, 0))) (hfit : B.cells.length + vals.length ≤ c.size) (hvl : vals.length = cs.length)
    (hv : ∀ (i : Nat) q, cs[i]? = some q → ∃ y, vals[i]? = some y ∧ VR C w.heap q y ∧ y.oneCell' = true) :
    Good (addOwn C b (B.cells ++ cs).length (⟨B.k, B.cells ++ cs, .live⟩, id)) (w.setRow id (c.toList.take B.cells.length ++ vals ++ c.toList.drop (B.cells.length + vals.length)).toArray) ∧
    Step C w (addOwn C b (B.cells ++ cs).length (⟨B.k, B.cells ++ cs, .live⟩, id)) (w.setRow id (c.toList.take B.cells.length ++ vals ++ c.toList.drop (B.cells.length + vals.length)).toArray) := by
  have hown : owned C id := ⟨b, _, B, ho, zL4e hl⟩
  generalize hc' : (c.toList.take B.cells.length ++ vals ++ c.toList.drop (B.cells.length + vals.length)).toArray = c'
  have hs : c'.size = c.size := by subst hc'; simp; omega
  have hget : ∀ i, c'[i]? = if B.cells.length ≤ i ∧ i < B.cells.length + vals.length then vals[i - B.cells.length]? else c[i]? := fun i => by
    subst hc'
    simp only [List.getElem?_toArray]
    by_cases h1 : i < B.cells.length
    · rw [if_neg (by omega), List.append_assoc, List.getElem?_append_left (by simp; omega), List.getElem?_take_of_lt h1]; simp
    · by_cases h2 : i < B.cells.length + vals.length
      · rw [if_pos ⟨by omega, h2⟩, List.getElem?_append_left (by simp; omega), List.getElem?_append_right (by simp; omega)]
        congr 1; simp; omega
      · rw [if_neg (by omega), List.getElem?_append_right (by simp; omega), List.getElem?_drop]
        simp
        congr 1; omega
  have ev := zLEV (c' := c') hg hown hH hs (addOwn C b (B.cells ++ cs).length (⟨B.k, B.cells ++ cs, .live⟩, id)) (fun _ h => h) (fun _ _ h => .inr h) (fun b' u' B' i hlm ho' => by
    have hne : ¬ (b' = b ∧ u' = (B.cells ++ cs).length) := fun ⟨e1, e2⟩ => hnew (e1 ▸ e2 ▸ hlm)
    simp only [addOwn, if_neg hne] at ho'
    exact ⟨B', ho', rfl, rfl⟩)
  obtain ⟨n1, c0, el0, n2, n3, n4⟩ := hg.live b _ B id ho hl
  rw [hH] at n2
  simp only [Option.some.injEq, Obj.cells.injEq] at n2
  obtain ⟨rfl, rfl, _⟩ := n2
  have hnewid : (w.setRow id c').heap[id]? = some (.cells c' el (0, 0)) := setRow_heap w id c c' el (0, 0) hH
  refine ⟨⟨fun k hk => by rw [zIsg]; exact hg.I k hk, fun b' u' B' i ho' => ?_, fun b' u' B' i ho' hl' => ?_, fun b1 u1 B1 i1 b2 u2 B2 i2 k1 l1 k2 l2 hne => ?_, fun b' u' B' i es ho' hl' => ?_⟩,
    ⟨ev, by rw [zIsg]; exact Nat.le_refl _, fun k hk hno => zLGX w id c' fun e => hno (e ▸ hown), fun k hk => ?_, fun k hk => .inl hk, rfl, ⟨rfl, Nat.le_refl _⟩, rfl⟩⟩
  · by_cases e : b' = b ∧ u' = (B.cells ++ cs).length
    · simp only [addOwn, if_pos e] at ho'
      simp at ho'; obtain ⟨rfl, rfl⟩ := ho'
      exact ⟨.inl e, e.2, fun h => by simp at h, by simp⟩
    · simp only [addOwn, if_neg e] at ho'
      obtain ⟨j1, j2, j3, j4⟩ := hg.ent b' u' B' i ho'
      exact ⟨.inr j1, j2, j3, j4⟩
  · by_cases e : b' = b ∧ u' = (B.cells ++ cs).length
    · simp only [addOwn, if_pos e] at ho'
      simp at ho'; obtain ⟨rfl, rfl⟩ := ho'
      refine ⟨n1, c', el, hnewid, by rw [hs]; simp; omega, fun i q hi => ?_⟩
      rw [hget]
      by_cases h1 : i < B.cells.length
      · have hi' : (B.cells ++ cs)[i]? = some q := hi
        rw [List.getElem?_append_left h1] at hi'
        obtain ⟨y, m1, m2, m3⟩ := n4 i q hi'
        exact ⟨y, by rw [if_neg (by omega)]; exact m1, VR.mono ev _ _ m2, m3⟩
      · have hi' : (B.cells ++ cs)[i]? = some q := hi
        rw [List.getElem?_append_right (by omega)] at hi'
        have hlt := (List.getElem?_eq_some_iff.1 hi').1
        obtain ⟨y, m1, m2, m3⟩ := hv _ q hi'
        exact ⟨y, by rw [if_pos ⟨by omega, by omega⟩]; exact m1, VR.mono ev _ _ m2, m3⟩
    · simp only [addOwn, if_neg e] at ho'
      obtain ⟨j1, c1, el1, j2, j3, j4⟩ := hg.live b' u' B' i ho' hl'
      by_cases hi : i = id
      · subst hi
        have hbb : b' = b := Decidable.byContradiction fun h => hg.apart b' u' B' i b _ B i ho' (zL4e hl') ho (zL4e hl) h rfl
        subst hbb
        have hu := honly u' B' i ho'
        have hlen := (hg.ent b' u' B' i ho').2.1
        rw [hH] at j2
        simp only [Option.some.injEq, Obj.cells.injEq] at j2
        obtain ⟨rfl, rfl, _⟩ := j2
        refine ⟨j1, c', el, hnewid, by omega, fun i' q hq => ?_⟩
        have hlt := (List.getElem?_eq_some_iff.1 hq).1
        obtain ⟨y, m1, m2, m3⟩ := j4 i' q hq
        exact ⟨y, by rw [hget, if_neg (by omega)]; exact m1, VR.mono ev _ _ m2, m3⟩
      · refine ⟨j1, c1, el1, by rw [zLGX w id c' hi]; exact j2, j3, fun i' q hq => ?_⟩
        obtain ⟨y, m1, m2, m3⟩ := j4 i' q hq
        exact ⟨y, m1, VR.mono ev _ _ m2, m3⟩
  · have hb : ∀ b' u' B' i, (addOwn C b (B.cells ++ cs).length (⟨B.k, B.cells ++ cs, .live⟩, id)).own b' u' = some (B', i) → B'.st.lies = true → ∃ u'' B'', C.own b' u'' = some (B'', i) ∧ B''.st.lies = true := by
      intro b' u' B' i ho' hl'
      by_cases e : b' = b ∧ u' = (B.cells ++ cs).length
      · simp only [addOwn, if_pos e] at ho'
        simp at ho'; obtain ⟨rfl, rfl⟩ := ho'
        exact ⟨_, B, by rw [e.1]; exact ho, zL4e hl⟩
      · simp only [addOwn, if_neg e] at ho'
        exact ⟨u', B', ho', hl'⟩
    obtain ⟨_, _, q1, q2⟩ := hb b1 u1 B1 i1 k1 l1
    obtain ⟨_, _, q3, q4⟩ := hb b2 u2 B2 i2 k2 l2
    exact hg.apart _ _ _ _ _ _ _ _ q1 q2 q3 q4 hne
  · by_cases e : b' = b ∧ u' = (B.cells ++ cs).length
    · simp only [addOwn, if_pos e] at ho'
      simp at ho'; obtain ⟨rfl, rfl⟩ := ho'
      simp at hl'
    · simp only [addOwn, if_neg e] at ho'
      have hi : i ≠ id := fun hi => by
        subst hi
        have hbb : b' = b := Decidable.byContradiction fun h => hg.apart b' u' B' i b _ B i ho' (z9Su hl') ho (zL4e hl) h rfl
        subst hbb
        have hu := honly u' B' i ho'
        rw [hu, ho] at ho'
        simp at ho'
        rw [← ho', hl] at hl'
        simp at hl'
      exact hg.maps_keep (C' := addOwn C b (B.cells ++ cs).length (⟨B.k, B.cells ++ cs, .live⟩, id)) (fun _ h => h) ev.same ho' hl' (zLGX w id c' hi) (hg.maps b' u' B' i es ho' hl').1
  · obtain ⟨b', u', B', ho', hl'⟩ := hk
    by_cases e : b' = b ∧ u' = (B.cells ++ cs).length
    · simp only [addOwn, if_pos e] at ho'
      simp at ho'; obtain ⟨rfl, rfl⟩ := ho'
      exact .inl hown
    · simp only [addOwn, if_neg e] at ho'
      exact .inl ⟨b', u', B', ho', hl'⟩
end
end Ab
set_option linter.all false
namespace Ab
open Go
variable {P : Program}
theorem Good.shrink {C C2 : Ctx} {w : World} (hg : Good C w) (hI : C2.I = C.I) (hown : ∀ b u e, C2.own b u = some e → C.own b u = some e) (hlim : ∀ b u, C.lim b u → C2.lim b u) : Good C2 w ∧ Step C w C2 w := by
  have ev : Evol C w.heap C2 w.heap := ⟨fun k h => by rw [hI]; exact h, fun _ _ => rfl, hlim, fun b u B' id _ ho => ⟨B', hown _ _ _ ho, rfl, rfl, fun c el hc => ⟨c, hc, rfl⟩⟩⟩
  refine ⟨⟨by rw [hI]; exact hg.I, fun b u B id ho => ?_, fun b u B id ho hl => ?_, fun b1 u1 B1 i1 b2 u2 B2 i2 h1 l1 h2 l2 hne => hg.apart _ _ _ _ _ _ _ _ (hown _ _ _ h1) l1 (hown _ _ _ h2) l2 hne, fun b u B id es ho hl => hg.maps_keep ev.imm ev.same (hown _ _ _ ho) hl rfl (by rw [hI]; exact (hg.maps b u B id es (hown _ _ _ ho) hl).1)⟩,
    ⟨ev, Nat.le_refl _, fun _ _ _ => rfl, fun k ⟨b, u, B, ho, hl⟩ => .inl ⟨b, u, B, hown _ _ _ ho, hl⟩, fun k h => .inl (by rw [hI] at h; exact h), rfl, ⟨rfl, Nat.le_refl _⟩, rfl⟩⟩
  · obtain ⟨h1, h2, h3, h4⟩ := hg.ent b u B id (hown _ _ _ ho)
    exact ⟨hlim _ _ h1, h2, h3, h4⟩
  · obtain ⟨h1, c, el, h2, h3, h4⟩ := hg.live b u B id (hown _ _ _ ho) hl
    refine ⟨by rw [hI]; exact h1, c, el, h2, h3, fun i x hi => ?_⟩
    obtain ⟨y, k1, k2, k3⟩ := h4 i x hi
    exact ⟨y, k1, VR.mono ev _ _ k2, k3⟩
section
variable {a : Act} {ρ : Operand → Value} {r : Rf → AV} {w : World} {C : Ctx} {R : Operand → Rf → Bool} {ce : CE} {σ : List Blk} {nl : Nat} {ps : List Pend}
theorem zKzI {T T' e : TypeId} {k k0 : Option Nat} (ht : sliceOf P T = some e) (ht' : (sliceOf P T').isSome = true) (hk : kindIs P e k = true) (hby : bytesOk P e = true) (hz : hasZero P e = true) {ty : TypeId} {X : AV} {vx : Value} {n : Nat} {cs cells : List AV} (hg : Good C w)
    (hup : ∀ b u B, upto σ b u = some B → ∃ id, C.own b u = some (B, id)) (hsrc : srcCells σ k X = some (n, cs)) (hx : VR C w.heap X vx) {b len cap : Nat} {base : Option Addr} {olds : List Value} (hb : ¬ C.lim b (cells ++ cs).length) (hk0 : kst k0 = kst k)
    (hlen : cells.length = len * kst k) (hol : olds.length = cells.length) (hold : ∀ w1 : World, w1.heap = w.heap → (Builtin.firstCells (kst k) len (.slice base len cap)).run P w1 = .ok olds.toArray w1)
    (hoc : ∀ (i : Nat) q, cells[i]? = some q → ∃ y, olds[i]? = some y ∧ VR C w.heap q y ∧ y.oneCell' = true) (hlt : cap < len + n) (hbig : len + n ≤ big) :
    ∃ v w' id', (Builtin.append_ #[T, T'] ty #[.slice base len cap, vx]).run P w = .ok v w' ∧ Good (addOwn C b (cells ++ cs).length (⟨k0, cells ++ cs, .live⟩, id')) w' ∧ Step C w (addOwn C b (cells ++ cs).length (⟨k0, cells ++ cs, .live⟩, id')) w' ∧
        VR (addOwn C b (cells ++ cs).length (⟨k0, cells ++ cs, .live⟩, id')) w'.heap (.sl b (cells ++ cs).length 0 (len + n)) v := by
  obtain ⟨vals, ⟨q, m, hvx⟩, hf, hcl, hvl, hvals⟩ := zMWO (P := P) hsrc hg hup hx
  obtain ⟨nc, rest, h1, h2, h3⟩ := zgaC (P := P) (w := w) (ty := ty) (olds := olds) ht ht' hk hby hz hvx hf hold hlt hbig
  obtain ⟨g1, g2⟩ := z5NE (rest := rest) (C := C) (H := w.heap) hol hvl hoc hvals
  have hl : (⟨k0, cells ++ cs, .live⟩ : Blk).cells.length = (cells ++ cs).length := rfl
  obtain ⟨p1, p2⟩ := zAGP (b := b) (B := ⟨k0, cells ++ cs, .live⟩) (c := olds.toArray ++ vals.toArray ++ rest) (el := e) hg hb rfl g1 g2
  refine ⟨_, _, w.heap.size, h3, p1, p2, zVoA (B := ⟨k0, cells ++ cs, .live⟩) (id := w.heap.size) (by simp [addOwn]) (.inl ⟨rfl, rfl⟩) rfl (zew4 w.drew _) h1 ?_⟩
  simp only [hk0]
  have e1 : (nc - (len + n)) * kst k + (len + n) * kst k = nc * kst k := by rw [← Nat.add_mul, Nat.sub_add_cancel h1]
  rw [Nat.add_mul len n] at e1
  simp
  omega
theorem zMso {T T' e : TypeId} {k : Option Nat} (ht : sliceOf P T = some e) (ht' : (sliceOf P T').isSome = true) (hk : kindIs P e k = true) (hby : bytesOk P e = true) (hz : hasZero P e = true) {ty : TypeId} {X : AV} {vx : Value} {n : Nat} {cs : List AV} (hg : Good C w)
    (hup : ∀ b u B, upto σ b u = some B → ∃ id, C.own b u = some (B, id)) (hsrc : srcCells σ k X = some (n, cs)) (hx : VR C w.heap X vx) {b len : Nat} {vs : Value} {B : Blk} {id : Nat} (ho : C.own b B.cells.length = some (B, id)) (hu : B.cells.length = len * kst k) (hk0 : kst B.k = kst k)
    (hs : VR C w.heap (.sl b B.cells.length 0 len) vs) (hn : 0 < n) (hbig : len + n ≤ big) (hnm : B.st.isMap = false) (hb : ¬ C.lim b (B.cells ++ cs).length) (honly : ∀ u' B' id', C.own b u' = some (B', id') → u' = B.cells.length) :
    ∃ v w' id', (Builtin.append_ #[T, T'] ty #[vs, vx]).run P w = .ok v w' ∧ Good (addOwn C b (B.cells ++ cs).length (⟨B.k, B.cells ++ cs, .live⟩, id')) w' ∧ Step C w (addOwn C b (B.cells ++ cs).length (⟨B.k, B.cells ++ cs, .live⟩, id')) w' ∧
        VR (addOwn C b (B.cells ++ cs).length (⟨B.k, B.cells ++ cs, .live⟩, id')) w'.heap (.sl b (B.cells ++ cs).length 0 (len + n)) v := by
  obtain ⟨_, _, e3, e4⟩ := hg.ent b _ B id ho
  unfold VR at hs
  have hs := hs.2.2 B id ho
  cases hst : B.st with
  | dead => exact absurd hst e4
  | map es => rw [hst] at hnm; simp [BSt.isMap] at hnm
  | nul =>
    simp only [hst] at hs
    obtain ⟨_, rfl, rfl⟩ := hs
    have hc0 := e3 hst
    have := zKzI (P := P) (σ := σ) (cells := B.cells) (k0 := B.k) (b := b) (len := 0) (cap := 0) (base := none) (olds := []) (ty := ty) ht ht' hk hby hz hg hup hsrc hx hb hk0 (by rw [hc0]; simp) (by rw [hc0]; rfl) (fun w1 _ => by simp [Builtin.firstCells]) (by rw [hc0]; simp) (by omega) (by omega)
    simpa using this
  | live =>
    simp only [hst] at hs
    obtain ⟨c, el, o, cap, g1, rfl, g3, g4, g5⟩ := hs
    obtain ⟨_, c', el', n2, n3, n4⟩ := hg.live b _ B id ho hst
    rw [g1] at n2
    simp only [Option.some.injEq, Obj.cells.injEq] at n2
    obtain ⟨rfl, rfl, _⟩ := n2
    by_cases hfit : len + n ≤ cap
    · have hcap : 0 < cap := by omega
      have ho0 := g3 hcap
      subst ho0
      obtain ⟨vals, ⟨q, m, hvx⟩, hf, hcl, hvl, hvals⟩ := zMWO (P := P) hsrc hg hup hx
      have hfit' : B.cells.length + vals.length ≤ c.size := by
        have : (len + n) * kst k ≤ cap * kst k := Nat.mul_le_mul_right _ hfit
        rw [Nat.add_mul] at this
        rw [hk0] at g5
        omega
      obtain ⟨p1, p2⟩ := zr6j hg ho hst hb honly g1 hfit' hvl hvals
      have hone : ∀ v ∈ vals, v.oneCell' = true := fun v hv => by
        obtain ⟨i, hi⟩ := List.getElem?_of_mem hv
        have hlt := (List.getElem?_eq_some_iff.1 hi).1
        obtain ⟨y, m1, m2, m3⟩ := hvals i cs[i] (List.getElem?_eq_getElem (by omega))
        rw [hi] at m1; simp at m1; subst m1; exact m3
      have hstore := run_storeCells_at P id B.cells.length el vals 0 c w g1 (by omega) hone
      have happ := zAY7 (P := P) (w := w) (ty := ty) (base := some ⟨id, 0, none⟩) ht ht' hk hvx (hf w rfl) hfit (fun b hb => by
        simp at hb; subst hb
        rw [z9vx, Nat.zero_add, ← hu]
        exact hstore) (fun h => by simp at h)
      refine ⟨_, _, id, happ, p1, p2, ?_⟩
      have hH' : (w.setRow id (c.toList.take B.cells.length ++ vals ++ c.toList.drop (B.cells.length + vals.length)).toArray).heap[id]? = some (.cells _ el (0, 0)) := setRow_heap w id c _ el (0, 0) g1
      refine zVoA (B := ⟨B.k, B.cells ++ cs, .live⟩) (id := id) (by simp [addOwn]) (.inl ⟨rfl, rfl⟩) rfl hH' hfit ?_
      rw [hk0] at g5 ⊢
      simp only [List.size_toArray, List.length_append, List.length_take, List.length_drop, Array.length_toList]
      omega
    · by_cases h0 : len = 0
      · subst h0
        have hc0 : B.cells = [] := List.eq_nil_of_length_eq_zero (by omega)
        refine zKzI (P := P) (σ := σ) (cells := B.cells) (k0 := B.k) (b := b) (olds := []) (ty := ty) ht ht' hk hby hz hg hup hsrc hx hb hk0 hu (by rw [hc0]; rfl) (fun w1 h1 => ?_) (by rw [hc0]; simp) (by omega) hbig
        have := run_loadCells (P := P) w1 ⟨id, o, none⟩ 0 (fun _ => undef) (fun j hj => absurd hj (Nat.not_lt_zero j))
        simpa [Builtin.firstCells] using this
      · obtain rfl := g3 (by omega)
        obtain ⟨olds, k1, k2, k3⟩ := zce2 (P := P) (cs := B.cells) (off := 0) g1 (fun i q hi => by rw [Nat.zero_add]; exact n4 i q hi)
        exact zKzI (P := P) (σ := σ) (cells := B.cells) (k0 := B.k) (b := b) (olds := olds) (ty := ty) ht ht' hk hby hz hg hup hsrc hx hb hk0 hu k2 (fun w1 h1 => by simp only [Builtin.firstCells]; rw [← hu]; exact k1 w1 h1) k3 (by omega) hbig
end
end Ab
namespace Ab
open Go
variable {P : Program}
section
variable {a : Act} {ρ : Operand → Value} {r : Rf → AV} {w : World} {C : Ctx} {R : Operand → Rf → Bool} {ce : CE} {σ : List Blk} {nl : Nat} {ps : List Pend}
theorem zJWq {a b : Option Nat} (h : eqK a b = true) : a = b := by
  cases a <;> cases b <;> simp [eqK] at h <;> simp [h]
theorem zXEB {T T' e : TypeId} {k : Option Nat} (ht : sliceOf P T = some e) (ht' : (sliceOf P T').isSome = true) (hk : kindIs P e k = true) {ty : TypeId} {X : AV} {vx vs : Value} {cs : List AV} (hg : Good C w)
    (hup : ∀ b u B, upto σ b u = some B → ∃ id, C.own b u = some (B, id)) (hsrc : srcCells σ k X = some (0, cs)) (hx : VR C w.heap X vx) (hs : ∃ a l c, vs = .slice a l c ∧ l ≤ c) :
    (Builtin.append_ #[T, T'] ty #[vs, vx]).run P w = .ok vs w := by
  obtain ⟨base, l, c, rfl, hlc⟩ := hs
  obtain ⟨vals, ⟨q, m, hvx⟩, hf, hcl, hvl, hvals⟩ := zMWO (P := P) hsrc hg hup hx
  have hv0 : vals = [] := List.eq_nil_of_length_eq_zero (by omega)
  subst hv0
  have := zAY7 (P := P) (w := w) (w' := w) (ty := ty) (base := base) (len := l) (cap := c) ht ht' hk hvx (hf w rfl) (by omega) (fun b _ => rfl) (fun _ => rfl)
  simpa using this
theorem z3u3 {o : Oper} {ca : Call} {s x : Operand} {t t' e : TypeId} {s' x' : Rf} {k : Option Nat} {z : AV} {p : Option Pend} (ho : o.op = .call ca) (hc : ca.callee = .builtin .append) (ha : ca.args.toList = [s, x]) (hat : ca.argTypes.toList = [t, t'])
    (ht : sliceOf P t = some e) (ht' : (sliceOf P t').isSome = true) (hk : kindIs P e k = true) (hby : bytesOk P e = true) (hz : hasZero P e = true) (hg : Good C w)
    (hup : ∀ b u B, upto σ b u = some B → ∃ id, C.own b u = some (B, id)) (hb : ∀ u, ¬ C.lim nl u)
    (hgr : ∀ b u B cs, upto σ b u = some B → p = some (.grow b cs) → grows b ps = false → (∀ n, u < n → ¬ C.lim b n) ∧ ∀ u' B' id', C.own b u' = some (B', id') → u' = u)
    (hs : VR C w.heap (r s') (a.eval s)) (hx : VR C w.heap (r x') (a.eval x)) (he : ev ce σ nl ps r (.app s' x' k) = some (z, p)) : Does P o a w (PostE nl C w z p) := by
  simp only [ev] at he
  cases hsrc : srcCells σ k (r x') with
  | none => simp [hsrc] at he
  | some ncs =>
    obtain ⟨n, cs⟩ := ncs
    simp only [hsrc] at he
    cases hs' : r s' <;> simp only [hs'] at he <;> try (simp at he; done)
    · -- nil
      rw [hs'] at hs
      have hv : a.eval s = .slice none 0 0 := hs
      by_cases hn : n = 0
      · subst hn
        simp at he; obtain ⟨rfl, rfl⟩ := he
        refine zpj1 ho hc ha hat (zXEB ht ht' hk hg hup hsrc hx ⟨none, 0, 0, hv, Nat.le_refl 0⟩) ?_
        exact (PostP.same hg (by rw [hv]; exact rfl)).e
      · have hn' : (n == 0) = false := by simpa using hn
        simp only [hn', Bool.false_eq_true, if_false] at he
        split at he
        case isFalse => simp at he
        rename_i hbig
        simp only [Option.some.injEq, Prod.mk.injEq] at he
        obtain ⟨rfl, rfl⟩ := he
        obtain ⟨v, w', id', h1, h2, h3, h4⟩ := zKzI (P := P) (σ := σ) (cells := []) (k0 := k) (b := nl) (len := 0) (cap := 0) (base := none) (olds := []) (ty := o.type) ht ht' hk hby hz hg hup hsrc hx (hb _) rfl (by simp) rfl (fun w1 _ => by simp [Builtin.firstCells]) (by simp) (by omega) (by omega)
        rw [← hv] at h1
        simp only [List.nil_append, Nat.zero_add] at h2 h3 h4
        exact zpj1 ho hc ha hat h1 ⟨_, h2, h3, h4, id', rfl, rfl⟩
    · -- a literal
      rename_i l
      rw [hs'] at hs
      have hs0 := hs
      unfold VR at hs
      obtain ⟨blk, off, st, c, el, fz, hv, hI, hH, hl⟩ := hs
      by_cases hn : n = 0
      · subst hn
        simp at he; obtain ⟨rfl, rfl⟩ := he
        refine zpj1 ho hc ha hat (zXEB ht ht' hk hg hup hsrc hx ⟨_, _, _, hv, Nat.le_refl _⟩) ?_
        refine (PostP.same hg ?_).e
        split
        · rename_i hnl
          unfold VR
          exact ⟨hnl, .inr ⟨blk, off, l.length, st, c, el, fz, hv, Nat.le_refl _, hI, hH, hl⟩⟩
        · exact hs0
      · have hn' : (n == 0) = false := by simpa using hn
        simp only [hn', Bool.false_eq_true, if_false] at he
        split at he
        case isFalse => simp at he
        rename_i hcond
        simp only [Bool.and_eq_true, decide_eq_true_eq] at hcond
        simp only [Option.some.injEq, Prod.mk.injEq] at he
        obtain ⟨rfl, rfl⟩ := he
        obtain ⟨olds, _, k1, k2, k3, k4⟩ := zMWO (P := P) (σ := σ) (k := k) (X := .arr l) (v := a.eval s) (n := l.length) (cs := l.flatMap AV.cells) (by simp only [srcCells, hcond.1, if_true]) hg hup hs0
        rw [hv] at k1
        obtain ⟨v, w', id', h1, h2, h3, h4⟩ := zKzI (P := P) (σ := σ) (cells := l.flatMap AV.cells) (k0 := k) (b := nl) (olds := olds) (ty := o.type) ht ht' hk hby hz hg hup hsrc hx (hb _) rfl k2 k3 k1 k4 (by omega) hcond.2
        rw [← hv] at h1
        exact zpj1 ho hc ha hat h1 ⟨_, h2, h3, h4, id', rfl, rfl⟩
    · -- an owned slice
      rename_i b u off len
      cases hu : upto σ b u with
      | none => simp [hu] at he
      | some B =>
        simp only [hu] at he
        split at he
        case isFalse => simp at he
        rename_i hcond
        simp only [Bool.and_eq_true, beq_iff_eq, decide_eq_true_eq, Bool.not_eq_true'] at hcond
        obtain ⟨⟨⟨⟨rfl, hul⟩, hbig⟩, hgr'⟩, hkk⟩ := hcond
        have hkk := zJWq hkk
        obtain ⟨id, hown⟩ := hup b u B hu
        have hul' := (hg.ent b u B id hown).2.1
        rw [hs'] at hs
        by_cases hn : n = 0
        · subst hn
          simp at he; obtain ⟨rfl, rfl⟩ := he
          have hsh : ∃ a' l' c', a.eval s = .slice a' l' c' ∧ l' ≤ c' := by
            unfold VR at hs
            obtain ⟨⟨q, c, e1, e2, _⟩, _⟩ := hs
            exact ⟨_, _, _, e1, e2⟩
          exact zpj1 ho hc ha hat (zXEB ht ht' hk hg hup hsrc hx hsh) (PostP.same hg hs).e
        · have hn' : (n == 0) = false := by simpa using hn
          simp only [hn', Bool.false_eq_true, if_false] at he
          split at he
          case isTrue => simp at he
          rename_i hcs
          simp at hcs
          simp only [Option.some.injEq, Prod.mk.injEq] at he
          obtain ⟨rfl, rfl⟩ := he
          subst hul'
          obtain ⟨q1, q2⟩ := hgr b _ B cs hu rfl hgr'
          have hlt : B.cells.length < (B.cells ++ cs).length := by
            have : 0 < cs.length := List.length_pos_iff.2 hcs
            simp; omega
          obtain ⟨v, w', id', h1, h2, h3, h4⟩ := zMso (P := P) (σ := σ) (ty := o.type) ht ht' hk hby hz hg hup hsrc hx hown hul (by rw [hkk]) hs (by omega) hbig (z85o hu) (q1 _ hlt) q2
          have e1 : B.cells.length + cs.length = (B.cells ++ cs).length := by simp
          rw [e1]
          exact zpj1 ho hc ha hat h1 ⟨_, h2, h3, h4, B, id, id', hcs, hown, rfl, rfl⟩
end
end Ab
set_option linter.all false
namespace Ab
open Go
variable {P : Program}
def PostW (σ : List Blk) (ids : Nat → Nat) (I : Nat → Prop) (w : World) (x : AV) (σ' : List Blk) (v : Value) (w' : World) : Prop :=
  ∃ ids' I', Good (ctxOf σ' ids' I') w' ∧ Step (ctxOf σ ids I) w (ctxOf σ' ids' I') w' ∧ VR (ctxOf σ' ids' I') w'.heap x v
theorem z2IS {c : Array Value} {off : Nat} {vals : List Value} (hfit : off + vals.length ≤ c.size) :
    (c.toList.take off ++ vals ++ c.toList.drop (off + vals.length)).toArray.size = c.size ∧ ∀ i, (c.toList.take off ++ vals ++ c.toList.drop (off + vals.length)).toArray[i]? = if off ≤ i ∧ i < off + vals.length then vals[i - off]? else c[i]? := by
  refine ⟨by simp; omega, fun i => ?_⟩
  simp only [List.getElem?_toArray]
  by_cases h1 : i < off
  · rw [if_neg (by omega), List.append_assoc, List.getElem?_append_left (by simp; omega), List.getElem?_take_of_lt h1]; simp
  · by_cases h2 : i < off + vals.length
    · rw [if_pos ⟨by omega, h2⟩, List.getElem?_append_left (by simp; omega), List.getElem?_append_right (by simp; omega)]
      congr 1; simp; omega
    · rw [if_neg (by omega), List.getElem?_append_right (by simp; omega), List.getElem?_drop]
      simp
      congr 1; omega
section
variable {a : Act} {ρ : Operand → Value} {r : Rf → AV} {w : World} {C : Ctx} {R : Operand → Rf → Bool} {ce : CE} {σ : List Blk} {nl : Nat} {ps : List Pend}
theorem zJE4 {B : Blk} {b id off : Nat} {new : List AV} {c : Array Value} {el : TypeId} {vals : List Value} (hg : Good C w) (ho : C.own b B.cells.length = some (B, id)) (hl : B.st = .live)
    (honly : ∀ u' B' id', C.own b u' = some (B', id') → u' = B.cells.length) (hH : w.heap[id]? = some (.cells c el (0, 0))) (hfit : off + new.length ≤ B.cells.length) (hvl : vals.length = new.length)
    (hv : ∀ (i : Nat) q, new[i]? = some q → ∃ y, vals[i]? = some y ∧ VR C w.heap q y ∧ y.oneCell' = true) :
    Good { C with own := fun b' u' => if b' = b ∧ u' = B.cells.length then some (⟨B.k, putAt B.cells off new, B.st⟩, id) else C.own b' u' } (w.setRow id (c.toList.take off ++ vals ++ c.toList.drop (off + vals.length)).toArray) ∧
    Step C w { C with own := fun b' u' => if b' = b ∧ u' = B.cells.length then some (⟨B.k, putAt B.cells off new, B.st⟩, id) else C.own b' u' } (w.setRow id (c.toList.take off ++ vals ++ c.toList.drop (off + vals.length)).toArray) := by
  have hown : owned C id := ⟨b, _, B, ho, zL4e hl⟩
  obtain ⟨n1, c0, el0, n2, n3, n4⟩ := hg.live b _ B id ho hl
  rw [hH] at n2
  simp only [Option.some.injEq, Obj.cells.injEq] at n2
  obtain ⟨rfl, rfl, _⟩ := n2
  obtain ⟨hs, hget⟩ := z2IS (c := c) (off := off) (vals := vals) (by omega)
  generalize (c.toList.take off ++ vals ++ c.toList.drop (off + vals.length)).toArray = c' at *
  obtain ⟨pl, pg⟩ := zAtF B.cells new off hfit
  obtain ⟨_, _, hnul, hnd⟩ := hg.ent b _ B id ho
  generalize hC' : ({ C with own := fun b' u' => if b' = b ∧ u' = B.cells.length then some (⟨B.k, putAt B.cells off new, B.st⟩, id) else C.own b' u' } : Ctx) = C'
  have hown' : ∀ b' u', C'.own b' u' = if b' = b ∧ u' = B.cells.length then some (⟨B.k, putAt B.cells off new, B.st⟩, id) else C.own b' u' := fun b' u' => by subst hC'; rfl
  have hI' : C'.I = C.I := by subst hC'; rfl
  have hlim' : C'.lim = C.lim := by subst hC'; rfl
  have ev := zLEV (c' := c') hg hown hH hs C' (fun k h => by rw [hI']; exact h) (fun b u h => by rw [hlim']; exact h) (fun b' u' B' i hlm ho' => by
    rw [hown'] at ho'
    by_cases e : b' = b ∧ u' = B.cells.length
    · rw [if_pos e] at ho'
      simp at ho'; obtain ⟨rfl, rfl⟩ := ho'
      exact ⟨B, by rw [e.1, e.2]; exact ho, rfl, rfl⟩
    · rw [if_neg e] at ho'
      exact ⟨B', ho', rfl, rfl⟩)
  have hnewid : (w.setRow id c').heap[id]? = some (.cells c' el (0, 0)) := setRow_heap w id c c' el (0, 0) hH
  have hback : ∀ b' u' B' i, C'.own b' u' = some (B', i) → B'.st.lies = true → ∃ u'' B'', C.own b' u'' = some (B'', i) ∧ B''.st.lies = true := by
    intro b' u' B' i ho' hl'
    rw [hown'] at ho'
    by_cases e : b' = b ∧ u' = B.cells.length
    · rw [if_pos e] at ho'
      simp at ho'; obtain ⟨rfl, rfl⟩ := ho'
      exact ⟨_, B, by rw [e.1]; exact ho, zL4e hl⟩
    · rw [if_neg e] at ho'
      exact ⟨u', B', ho', hl'⟩
  refine ⟨⟨fun k hk => by rw [zIsg]; rw [hI'] at hk; exact hg.I k hk, fun b' u' B' i ho' => ?_, fun b' u' B' i ho' hl' => ?_, fun b1 u1 B1 i1 b2 u2 B2 i2 k1 l1 k2 l2 hne => ?_, fun b' u' B' i es ho' hl' => ?_⟩,
    ⟨ev, by rw [zIsg]; exact Nat.le_refl _, fun k hk hno => zLGX w id c' fun e => hno (e ▸ hown), fun k hk => ?_, fun k hk => .inl (by rw [hI'] at hk; exact hk), rfl, ⟨rfl, Nat.le_refl _⟩, rfl⟩⟩
  · rw [hlim']
    rw [hown'] at ho'
    by_cases e : b' = b ∧ u' = B.cells.length
    · rw [if_pos e] at ho'
      simp at ho'; obtain ⟨rfl, rfl⟩ := ho'
      refine ⟨by rw [e.1, e.2]; exact (hg.ent b _ B id ho).1, by rw [e.2]; exact pl.symm, fun h => ?_, hnd⟩
      have h0 := hnul h
      have : new = [] := by
        have : new.length = 0 := by rw [h0] at hfit; simp at hfit; simp [hfit]
        exact List.eq_nil_of_length_eq_zero this
      have hz : (putAt B.cells off new).length = 0 := by rw [pl, h0]; rfl
      exact List.eq_nil_of_length_eq_zero hz
    · rw [if_neg e] at ho'
      exact hg.ent b' u' B' i ho'
  · rw [hI']
    rw [hown'] at ho'
    by_cases e : b' = b ∧ u' = B.cells.length
    · rw [if_pos e] at ho'
      simp at ho'; obtain ⟨rfl, rfl⟩ := ho'
      refine ⟨n1, c', el, hnewid, by rw [hs]; show (putAt B.cells off new).length ≤ _; omega, fun i q hi => ?_⟩
      have hi' : (putAt B.cells off new)[i]? = some q := hi
      rw [pg] at hi'
      rw [hget]
      by_cases hin : off ≤ i ∧ i < off + new.length
      · rw [if_pos hin] at hi'
        obtain ⟨y, m1, m2, m3⟩ := hv _ q hi'
        exact ⟨y, by rw [if_pos (by omega)]; exact m1, VR.mono ev _ _ m2, m3⟩
      · rw [if_neg hin] at hi'
        obtain ⟨y, m1, m2, m3⟩ := n4 i q hi'
        exact ⟨y, by rw [if_neg (by omega)]; exact m1, VR.mono ev _ _ m2, m3⟩
    · rw [if_neg e] at ho'
      obtain ⟨j1, c1, el1, j2, j3, j4⟩ := hg.live b' u' B' i ho' hl'
      by_cases hi : i = id
      · subst hi
        have hbb : b' = b := Decidable.byContradiction fun h => hg.apart b' u' B' i b _ B i ho' (zL4e hl') ho (zL4e hl) h rfl
        subst hbb
        exact absurd ⟨rfl, honly u' B' i ho'⟩ e
      · refine ⟨j1, c1, el1, by rw [zLGX w id c' hi]; exact j2, j3, fun i' q hq => ?_⟩
        obtain ⟨y, m1, m2, m3⟩ := j4 i' q hq
        exact ⟨y, m1, VR.mono ev _ _ m2, m3⟩
  · obtain ⟨_, _, q1, q2⟩ := hback b1 u1 B1 i1 k1 l1
    obtain ⟨_, _, q3, q4⟩ := hback b2 u2 B2 i2 k2 l2
    exact hg.apart _ _ _ _ _ _ _ _ q1 q2 q3 q4 hne
  · rw [hown'] at ho'
    by_cases e : b' = b ∧ u' = B.cells.length
    · rw [if_pos e] at ho'
      simp at ho'; obtain ⟨rfl, rfl⟩ := ho'
      rw [show (⟨B.k, putAt B.cells off new, B.st⟩ : Blk).st = B.st from rfl, hl] at hl'
      simp at hl'
    · rw [if_neg e] at ho'
      have hi : i ≠ id := fun hi => by
        subst hi
        have hbb : b' = b := Decidable.byContradiction fun h => hg.apart b' u' B' i b _ B i ho' (z9Su hl') ho (zL4e hl) h rfl
        subst hbb
        exact e ⟨rfl, honly u' B' i ho'⟩
      exact hg.maps_keep ev.imm ev.same ho' hl' (zLGX w id c' hi) (by rw [hI']; exact (hg.maps b' u' B' i es ho' hl').1)
  · obtain ⟨b', u', B', ho', hl'⟩ := hk
    obtain ⟨u'', B'', q1, q2⟩ := hback b' u' B' k ho' hl'
    exact .inl ⟨b', u'', B'', q1, q2⟩
theorem zrsp {B : Blk} {b id : Nat} {es es' : List (AV × AV)} {l l' : Array MapEntry} {clock clock' : Nat} (hg : Good C w) (ho : C.own b 0 = some (B, id)) (hl : B.st = .map es)
    (honly : ∀ u' B' id', C.own b u' = some (B', id') → u' = 0) (hH : w.heap[id]? = some (.map l clock)) (hm : MR C w.heap es' l'.toList) :
    Good { C with own := fun b' u' => if b' = b ∧ u' = 0 then some (⟨B.k, B.cells, .map es'⟩, id) else C.own b' u' } { w with heap := w.heap.setIfInBounds id (.map l' clock') } ∧
    Step C w { C with own := fun b' u' => if b' = b ∧ u' = 0 then some (⟨B.k, B.cells, .map es'⟩, id) else C.own b' u' } { w with heap := w.heap.setIfInBounds id (.map l' clock') } := by
  have hown : owned C id := ⟨b, _, B, ho, z9Su hl⟩
  obtain ⟨n1, _⟩ := hg.maps b _ B id es ho hl
  obtain ⟨hnew, hoth⟩ := Go.MapKept.heap_set (o' := .map l' clock') hH
  have hsz : (w.heap.setIfInBounds id (.map l' clock')).size = w.heap.size := by simp
  generalize w.heap.setIfInBounds id (.map l' clock') = H' at *
  obtain ⟨e1, e2, _, _⟩ := hg.ent b _ B id ho
  generalize hC' : ({ C with own := fun b' u' => if b' = b ∧ u' = 0 then some (⟨B.k, B.cells, .map es'⟩, id) else C.own b' u' } : Ctx) = C'
  have hown' : ∀ b' u', C'.own b' u' = if b' = b ∧ u' = 0 then some (⟨B.k, B.cells, .map es'⟩, id) else C.own b' u' := fun b' u' => by subst hC'; rfl
  have hI' : C'.I = C.I := by subst hC'; rfl
  have hlim' : C'.lim = C.lim := by subst hC'; rfl
  have hsame : ∀ k, C.I k → H'[k]? = w.heap[k]? := fun k hk => hoth k fun e => n1 (e ▸ hk)
  have ev : Evol C w.heap C' H' := by
    refine ⟨fun k h => by rw [hI']; exact h, hsame, fun b u h => by rw [hlim']; exact h, fun b' u' B' i hlm ho' => ?_⟩
    rw [hown'] at ho'
    by_cases e : b' = b ∧ u' = 0
    · rw [if_pos e] at ho'
      simp at ho'; obtain ⟨rfl, rfl⟩ := ho'
      refine ⟨B, by rw [e.1, e.2]; exact ho, by rw [hl]; rfl, rfl, fun c el hc => ?_⟩
      rw [hH] at hc; simp at hc
    · rw [if_neg e] at ho'
      refine ⟨B', ho', rfl, rfl, fun c el hc => ⟨c, ?_, rfl⟩⟩
      have hi : i ≠ id := fun hi => by subst hi; rw [hH] at hc; simp at hc
      rw [hoth i hi]; exact hc
  have hback : ∀ b' u' B' i, C'.own b' u' = some (B', i) → B'.st.lies = true → ∃ u'' B'', C.own b' u'' = some (B'', i) ∧ B''.st.lies = true := by
    intro b' u' B' i ho' hl'
    rw [hown'] at ho'
    by_cases e : b' = b ∧ u' = 0
    · rw [if_pos e] at ho'
      simp at ho'; obtain ⟨rfl, rfl⟩ := ho'
      exact ⟨_, B, by rw [e.1]; exact ho, z9Su hl⟩
    · rw [if_neg e] at ho'
      exact ⟨u', B', ho', hl'⟩
  refine ⟨⟨fun k hk => by show k < H'.size; rw [hsz]; rw [hI'] at hk; exact hg.I k hk, fun b' u' B' i ho' => ?_, fun b' u' B' i ho' hl' => ?_, fun b1 u1 B1 i1 b2 u2 B2 i2 k1 l1 k2 l2 hne => ?_, fun b' u' B' i es1 ho' hl' => ?_⟩,
    ⟨ev, by show w.heap.size ≤ H'.size; rw [hsz]; exact Nat.le_refl _, fun k hk hno => hoth k fun e => hno (e ▸ hown), fun k hk => ?_, fun k hk => .inl (by rw [hI'] at hk; exact hk), rfl, ⟨rfl, Nat.le_refl _⟩, rfl⟩⟩
  · rw [hlim']
    rw [hown'] at ho'
    by_cases e : b' = b ∧ u' = 0
    · rw [if_pos e] at ho'
      simp at ho'; obtain ⟨rfl, rfl⟩ := ho'
      exact ⟨by rw [e.1, e.2]; exact e1, by rw [e.2]; exact e2, fun h => by simp at h, by simp⟩
    · rw [if_neg e] at ho'
      exact hg.ent b' u' B' i ho'
  · rw [hI']
    rw [hown'] at ho'
    by_cases e : b' = b ∧ u' = 0
    · rw [if_pos e] at ho'
      simp at ho'; obtain ⟨rfl, rfl⟩ := ho'
      simp at hl'
    · rw [if_neg e] at ho'
      obtain ⟨j1, c1, el1, j2, j3, j4⟩ := hg.live b' u' B' i ho' hl'
      have hi : i ≠ id := fun hi => by subst hi; rw [hH] at j2; simp at j2
      refine ⟨j1, c1, el1, by show H'[i]? = _; rw [hoth i hi]; exact j2, j3, fun i' q hq => ?_⟩
      obtain ⟨y, m1, m2, m3⟩ := j4 i' q hq
      exact ⟨y, m1, VR.mono ev _ _ m2, m3⟩
  · obtain ⟨_, _, q1, q2⟩ := hback b1 u1 B1 i1 k1 l1
    obtain ⟨_, _, q3, q4⟩ := hback b2 u2 B2 i2 k2 l2
    exact hg.apart _ _ _ _ _ _ _ _ q1 q2 q3 q4 hne
  · rw [hown'] at ho'
    by_cases e : b' = b ∧ u' = 0
    · rw [if_pos e] at ho'
      simp at ho'; obtain ⟨rfl, rfl⟩ := ho'
      simp at hl'; subst hl'
      exact ⟨by rw [hI']; exact n1, l', clock', hnew, hm.free ⟨ev.imm, ev.same⟩⟩
    · rw [if_neg e] at ho'
      have hi : i ≠ id := fun hi => by
        subst hi
        have hbb : b' = b := Decidable.byContradiction fun h => hg.apart b' u' B' i b _ B i ho' (z9Su hl') ho (z9Su hl) h rfl
        subst hbb
        exact e ⟨rfl, honly u' B' i ho'⟩
      exact hg.maps_keep (w' := { w with heap := H' }) ev.imm ev.same ho' hl' (hoth i hi) (by rw [hI']; exact (hg.maps b' u' B' i es1 ho' hl').1)
  · obtain ⟨b', u', B', ho', hl'⟩ := hk
    obtain ⟨u'', B'', q1, q2⟩ := hback b' u' B' k ho' hl'
    exact .inl ⟨b', u'', B'', q1, q2⟩
theorem zpRx {ids : Nat → Nat} {I : Nat → Prop} {b u : Nat} {B : Blk} (h : blk σ b = some B) : ∀ u' B' id', (ctxOf σ ids I).own b u' = some (B', id') → u' = B.cells.length := fun u' B' id' h' => by
  simp only [ctxOf, h] at h'
  cases hs : B.st <;> simp only [hs] at h' <;> first
    | (split at h' <;> simp_all)
    | simp at h'
theorem zOI7 {b u : Nat} {B : Blk} (h : upto σ b u = some B) : blk σ b = some B ∧ B.cells.length = u ∧ B.st ≠ .dead := by
  unfold upto at h
  cases hb : blk σ b with
  | none => simp [hb] at h
  | some B' =>
    simp only [hb] at h
    cases hs : B'.st <;> simp only [hs] at h <;> first
      | (simp at h; done)
      | (by_cases hu : B'.cells.length = u
         · simp [hu] at h; subst h; exact ⟨rfl, hu, by rw [hs]; simp⟩
         · simp [hu] at h)
theorem zUGJ {b b' : Nat} {B : Blk} (h : b < σ.length) : blk (setB σ b B) b' = if b' = b then some B else blk σ b' := by
  rw [zzWB, z4Wl, zzWB, List.getElem?_set]
  by_cases e : b' = b
  · subst e; simp [h]
  · rw [if_neg (fun h' => e h'.symm), if_neg e]
theorem zKck {ids : Nat → Nat} {I : Nat → Prop} {b : Nat} {B B' : Blk} {id' : Nat} (hb : blk σ b = some B) (hnd : B'.st ≠ .dead) : ∀ b1 u1 e, (ctxOf (setB σ b B') (fun q => if q = b then id' else ids q) I).own b1 u1 = some e →
    (if b1 = b ∧ u1 = B'.cells.length then some (B', id') else (ctxOf σ ids I).own b1 u1) = some e := fun b1 u1 e h => by
  have hlt : b < σ.length := by rw [zzWB] at hb; exact (List.getElem?_eq_some_iff.1 hb).1
  simp only [ctxOf, zUGJ hlt] at h ⊢
  by_cases e1 : b1 = b
  · subst e1
    simp only [if_true] at h
    cases hs : B'.st with
    | dead => exact absurd hs hnd
    | nul =>
      by_cases hu : B'.cells.length = u1
      · simp only [hu, if_true] at h
        rw [if_pos ⟨rfl, hu.symm⟩]; exact h
      · simp [hu] at h
    | live =>
      by_cases hu : B'.cells.length = u1
      · simp only [hu, if_true] at h
        rw [if_pos ⟨rfl, hu.symm⟩]; exact h
      · simp [hu] at h
    | map es =>
      by_cases hu : B'.cells.length = u1
      · simp only [hu, if_true] at h
        rw [if_pos ⟨rfl, hu.symm⟩]; exact h
      · simp [hu] at h
  · rw [if_neg (fun h' => e1 h'.1)]
    simp only [if_neg e1] at h
    exact h
theorem zkpY {ids ids' : Nat → Nat} {I : Nat → Prop} {b : Nat} {B B' : Blk} (hb : blk σ b = some B) (hle : B.cells.length ≤ B'.cells.length) : ∀ b1 u1, (ctxOf σ ids I).lim b1 u1 → (ctxOf (setB σ b B') ids' I).lim b1 u1 := fun b1 u1 ⟨B1, h1, h2⟩ => by
  have hlt : b < σ.length := by rw [zzWB] at hb; exact (List.getElem?_eq_some_iff.1 hb).1
  simp only [ctxOf, zUGJ hlt]
  by_cases e1 : b1 = b
  · subst e1
    rw [hb] at h1; simp at h1; subst h1
    exact ⟨B', by simp, by omega⟩
  · exact ⟨B1, by rw [if_neg e1]; exact h1, h2⟩
theorem dw_st {ids : Nat → Nat} {I : Nat → Prop} {o : Oper} {t : TypeId} {p x : Operand} {p' x' : Rf} {n : Nat} {z : AV} {σ' : List Blk} (ho : o.op = .store t p x) (hn : sizeIs P t n = true) (hg : Good (ctxOf σ ids I) w)
    (hp : VR (ctxOf σ ids I) w.heap (r p') (a.eval p)) (hx : VR (ctxOf σ ids I) w.heap (r x') (a.eval x)) (he : evW ce σ r (.st p' x' n) = some (z, σ')) : Does P o a w (PostW σ ids I w z σ') := by
  simp only [evW] at he
  cases hp' : r p' <;> simp only [hp'] at he <;> try (simp at he; done)
  rename_i b u off
  cases hu : upto σ b u with
  | none => simp [hu] at he
  | some B =>
    simp only [hu] at he
    split at he
    case isFalse => simp at he
    rename_i hc
    simp only [Bool.and_eq_true, beq_iff_eq, decide_eq_true_eq] at hc
    obtain ⟨⟨⟨c1, c2⟩, c3⟩, c4⟩ := hc
    simp only [Option.some.injEq, Prod.mk.injEq] at he
    obtain ⟨rfl, rfl⟩ := he
    obtain ⟨hb, hul, hnd⟩ := zOI7 hu
    have hs : B.st = .live := by revert c3; cases B.st <;> simp [BSt.isLive]
    have hown := z1nM ids I hu
    subst hul
    rw [hp'] at hp
    unfold VR at hp
    have e := hp.2.2 B _ hown hs
    obtain ⟨_, c, el, hH, hle, hcells⟩ := hg.live b _ B _ hown hs
    have hsol := z2Kg c4
    have hsz := VR.size hsol hx
    have hv := zhdq hsol hx
    obtain ⟨g1, g2⟩ := zJE4 (vals := (a.eval x).cells.toList) (new := (r x').cells) (off := off) hg hown hs (zpRx (u := 0) hb) hH (by omega) (by simpa using hsz) (fun i q hi => by
      obtain ⟨y, k1, k2, k3⟩ := hv i q hi
      exact ⟨y, by rw [Array.getElem?_toList]; exact k1, k2, k3⟩)
    obtain ⟨pl, _⟩ := zAtF B.cells (r x').cells off (by omega)
    have hset := zKck (ids := ids) (I := I) (id' := ids b) (B' := ⟨B.k, putAt B.cells off (r x').cells, B.st⟩) hb hnd
    have hids : (fun q => if q = b then ids b else ids q) = ids := by funext q; split <;> simp_all
    rw [hids] at hset
    obtain ⟨f1, f2⟩ := Good.shrink (C2 := ctxOf (setB σ b ⟨B.k, putAt B.cells off (r x').cells, B.st⟩) ids I) g1 rfl (fun b1 u1 e1 h1 => by
      have := hset b1 u1 e1 h1
      simp only [pl] at this
      exact this) (fun b1 u1 h1 => zkpY (ids := ids) (I := I) hb (by show _ ≤ (putAt B.cells off (r x').cells).length; omega) b1 u1 h1)
    have hone : ∀ v ∈ (a.eval x).cells.toList, v.oneCell' = true := (VR.cells hsol hx).2
    have hstore := run_storeCells_at P (ids b) off el (a.eval x).cells.toList 0 c w hH (by simp; omega) hone
    refine Does.skip (w' := w.setRow (ids b) (c.toList.take off ++ (a.eval x).cells.toList ++ c.toList.drop (off + (a.eval x).cells.toList.length)).toArray) ?_ ⟨ids, I, f1, g2.trans f2, by unfold VR; trivial⟩
    have hsi := zW9l hn w
    simp only [execOp, ho, Instr.storeAt, e, Instr.sureAddr, storeVar, Sem.run_bind, Sem.run_pure, Result.andThen_ok, hsi]
    rw [if_neg (by rw [hsz, c1]; simp)]
    simp only [Nat.add_zero] at hstore
    rw [hstore]
    rfl
theorem zkWU {ids : Nat → Nat} {I : Nat → Prop} {o : Oper} {t kt e : TypeId} {m k x : Operand} {m' k' x' : Rf} {kd : Nat} {z : AV} {σ' : List Blk} (ho : o.op = .mapUpdate t m k x ∨ o.op = .insert t m k x) (ht : P.underlying t = some (.map kt e)) (hk : keyIs P kt kd = true) (hg : Good (ctxOf σ ids I) w)
    (hmv : VR (ctxOf σ ids I) w.heap (r m') (a.eval m)) (hkv : VR (ctxOf σ ids I) w.heap (r k') (a.eval k)) (hx : VR (ctxOf σ ids I) w.heap (r x') (a.eval x)) (he : evW ce σ r (.mup m' kd k' x') = some (z, σ')) : Does P o a w (PostW σ ids I w z σ') := by
  simp only [evW] at he
  cases hm' : r m' <;> simp only [hm'] at he <;> try (simp at he; done)
  rename_i b
  rw [hm'] at hmv
  cases hm : mapAt σ b with
  | none => simp [hm] at he
  | some es =>
    simp only [hm] at he
    split at he
    case isFalse => simp at he
    rename_i hf
    simp only [Bool.and_eq_true] at hf
    cases hq : findM es (r k') with
    | none => simp [hq] at he
    | some q =>
      cases q with
      | some _ => simp [hq] at he
      | none =>
        simp only [hq, Option.some.injEq, Prod.mk.injEq] at he
        obtain ⟨rfl, rfl⟩ := he
        obtain ⟨id, l, c, e1, hH, hM, B, hB, hs⟩ := zopl hg (fun b u B hu => ⟨_, zEU6 ids I hu⟩) hm hmv
        obtain ⟨q', h1, h2⟩ := zx0Y hk hf.1 hkv w hM hq
        cases q' with
        | some _ => exact h2.elim
        | none =>
          have hc := zc6f hk hf.1 hkv w false
          obtain ⟨hb, rfl⟩ := zvxc hB
          have hu0 := zpRx (ids := ids) (I := I) (u := 0) hb 0 B _ hB
          have hM' : MR (ctxOf σ ids I) w.heap (es ++ [(r k', r x')]) (l.push { key := a.eval k, val := a.eval x, born := c }).toList := by
            rw [Array.toList_push]
            exact hM.push (zTfE hf.1) hkv hf.2 hx
          obtain ⟨g1, g2⟩ := zrsp (l' := l.push { key := a.eval k, val := a.eval x, born := c }) (clock' := c + 1) hg hB hs (fun u' B' id' h => by
            have := zpRx (ids := ids) (I := I) (u := 0) hb u' B' id' h; omega) hH hM'
          have hset := zKck (ids := ids) (I := I) (id' := ids b) (B' := ⟨B.k, B.cells, .map (es ++ [(r k', r x')])⟩) hb (by simp)
          have hids : (fun q => if q = b then ids b else ids q) = ids := by funext q; split <;> simp_all
          rw [hids] at hset
          have hput : putM σ b (es ++ [(r k', r x')]) = setB σ b ⟨B.k, B.cells, .map (es ++ [(r k', r x')])⟩ := by simp only [putM, hb]
          rw [hput]
          obtain ⟨f1, f2⟩ := Good.shrink (C2 := ctxOf (setB σ b ⟨B.k, B.cells, .map (es ++ [(r k', r x')])⟩) ids I) g1 rfl (fun b1 u1 e1 h1 => by
            have := hset b1 u1 e1 h1
            simp only [← hu0] at this
            exact this) (fun b1 u1 h1 => zkpY (ids := ids) (I := I) hb (by show _ ≤ B.cells.length; omega) b1 u1 h1)
          refine Does.skip (w' := { w with heap := w.heap.setIfInBounds (ids b) (.map (l.push { key := a.eval k, val := a.eval x, born := c }) (c + 1)) }) ?_ ⟨ids, I, f1, g2.trans f2, by unfold VR; trivial⟩
          have hrun : (Instr.mapUpdate t (a.eval m) (a.eval k) (a.eval x)).run P w = .ok () { w with heap := w.heap.setIfInBounds (ids b) (.map (l.push { key := a.eval k, val := a.eval x, born := c }) (c + 1)) } := by
            rw [e1]
            simp only [Instr.mapUpdate, Sem.run_bind, run_underlying ht, Result.andThen_ok, Go.MapKept.run_getObj_map hH, hc, h1, Go.MapKept.run_setObj_map _ hH]
          rcases ho with ho | ho
          · simp only [execOp, ho, Sem.run_bind, hrun, Result.andThen_ok, Sem.run_pure]
          · simp only [execOp, ho, Sem.run_bind, hrun, Result.andThen_ok, Sem.run_pure]
end
end Ab
set_option linter.all false
namespace Ab
open Go
variable {P : Program}
section
variable {a : Act} {ρ : Operand → Value} {r : Rf → AV} {w : World} {C : Ctx} {R : Operand → Rf → Bool} {ce : CE} {σ : List Blk} {nl : Nat} {ps : List Pend}
theorem zkFO {B : Blk} {b : Nat} : blk (σ ++ [B]) b = if b = σ.length then some B else blk σ b := by
  rw [zzWB, zzWB]
  by_cases e : b = σ.length
  · subst e; simp
  · rw [if_neg e]
    by_cases h : b < σ.length
    · rw [List.getElem?_append_left h]
    · rw [List.getElem?_append_right (by omega), List.getElem?_eq_none (by simp; omega), List.getElem?_eq_none (by omega)]
theorem zltG {ids : Nat → Nat} {I : Nat → Prop} {B : Blk} {id : Nat} (hnd : B.st ≠ .dead) : ∀ b u e, (ctxOf (σ ++ [B]) (fun q => if q = σ.length then id else ids q) I).own b u = some e → (addOwn (ctxOf σ ids I) σ.length B.cells.length (B, id)).own b u = some e := fun b u e h => by
  simp only [ctxOf, addOwn, zkFO] at h ⊢
  by_cases e1 : b = σ.length
  · simp only [e1, if_true] at h
    cases hs : B.st with
    | dead => exact absurd hs hnd
    | nul =>
      by_cases hu : B.cells.length = u
      · simp only [hu, if_true] at h
        rw [if_pos ⟨e1, hu.symm⟩]; exact h
      · simp [hu] at h
    | live =>
      by_cases hu : B.cells.length = u
      · simp only [hu, if_true] at h
        rw [if_pos ⟨e1, hu.symm⟩]; exact h
      · simp [hu] at h
    | map es =>
      by_cases hu : B.cells.length = u
      · simp only [hu, if_true] at h
        rw [if_pos ⟨e1, hu.symm⟩]; exact h
      · simp [hu] at h
  · rw [if_neg (fun h' => e1 h'.1)]
    simp only [if_neg e1] at h
    exact h
theorem zBmS {ids ids' : Nat → Nat} {I : Nat → Prop} {B : Blk} {id : Nat} : ∀ b u, (addOwn (ctxOf σ ids I) σ.length B.cells.length (B, id)).lim b u → (ctxOf (σ ++ [B]) ids' I).lim b u := fun b u h => by
  simp only [ctxOf, addOwn, zkFO] at h ⊢
  rcases h with ⟨rfl, rfl⟩ | ⟨B1, h1, h2⟩
  · exact ⟨B, by simp, Nat.le_refl _⟩
  · have : b ≠ σ.length := fun e => by
      rw [zzWB, List.getElem?_eq_none (by omega)] at h1; simp at h1
    exact ⟨B1, by rw [if_neg this]; exact h1, h2⟩
theorem zIsc {ids : Nat → Nat} {I : Nat → Prop} : ∀ u, ¬ (ctxOf σ ids I).lim σ.length u := fun u ⟨B1, h1, _⟩ => by
  rw [zzWB, List.getElem?_eq_none (by omega)] at h1; simp at h1
theorem zHkE {ids : Nat → Nat} {I : Nat → Prop} {o : Oper} {ca : Call} {s x : Operand} {t t' e : TypeId} {s' x' : Rf} {k : Option Nat} {z : AV} {σ' : List Blk} (ho : o.op = .call ca) (hc : ca.callee = .builtin .append) (ha : ca.args.toList = [s, x]) (hat : ca.argTypes.toList = [t, t'])
    (ht : sliceOf P t = some e) (ht' : (sliceOf P t').isSome = true) (hk : kindIs P e k = true) (hby : bytesOk P e = true) (hz : hasZero P e = true) (hg : Good (ctxOf σ ids I) w)
    (hs : VR (ctxOf σ ids I) w.heap (r s') (a.eval s)) (hx : VR (ctxOf σ ids I) w.heap (r x') (a.eval x)) (he : evW ce σ r (.appw s' x' k) = some (z, σ')) : Does P o a w (PostW σ ids I w z σ') := by
  have hup : ∀ b u B, upto σ b u = some B → ∃ id, (ctxOf σ ids I).own b u = some (B, id) := fun b u B h => ⟨_, z1nM ids I h⟩
  -- a new block at the list's end
  have newb : ∀ (B : Blk) (x1 : AV) v w' id', B.st = .live → Good (addOwn (ctxOf σ ids I) σ.length B.cells.length (B, id')) w' → Step (ctxOf σ ids I) w (addOwn (ctxOf σ ids I) σ.length B.cells.length (B, id')) w' →
      VR (addOwn (ctxOf σ ids I) σ.length B.cells.length (B, id')) w'.heap x1 v → PostW σ ids I w x1 (σ ++ [B]) v w' := fun B x1 v w' id' hst h2 h3 h4 => by
    obtain ⟨f1, f2⟩ := Good.shrink (C2 := ctxOf (σ ++ [B]) (fun q => if q = σ.length then id' else ids q) I) h2 rfl (zltG (by rw [hst]; simp)) zBmS
    exact ⟨_, I, f1, h3.trans f2, VR.mono f2.ev _ _ h4⟩
  simp only [evW] at he
  cases hsrc : srcCells σ k (r x') with
  | none => simp [hsrc] at he
  | some ncs =>
    obtain ⟨n, cs⟩ := ncs
    simp only [hsrc] at he
    cases hs' : r s' <;> simp only [hs'] at he <;> try (simp at he; done)
    · rw [hs'] at hs
      have hv : a.eval s = .slice none 0 0 := hs
      by_cases hn : n = 0
      · subst hn
        simp at he; obtain ⟨rfl, rfl⟩ := he
        exact zpj1 ho hc ha hat (zXEB ht ht' hk hg hup hsrc hx ⟨none, 0, 0, hv, Nat.le_refl 0⟩) ⟨ids, I, hg, Step.refl _ _, by rw [hv]; exact rfl⟩
      · have hn' : (n == 0) = false := by simpa using hn
        simp only [hn', Bool.false_eq_true, if_false] at he
        split at he
        case isFalse => simp at he
        rename_i hbig
        simp only [Option.some.injEq, Prod.mk.injEq] at he
        obtain ⟨rfl, rfl⟩ := he
        obtain ⟨v, w', id', h1, h2, h3, h4⟩ := zKzI (P := P) (σ := σ) (cells := []) (k0 := k) (b := σ.length) (len := 0) (cap := 0) (base := none) (olds := []) (ty := o.type) ht ht' hk hby hz hg hup hsrc hx (zIsc _) rfl (by simp) rfl (fun w1 _ => by simp [Builtin.firstCells]) (by simp) (by omega) (by omega)
        rw [← hv] at h1
        simp only [List.nil_append, Nat.zero_add] at h2 h3 h4
        exact zpj1 ho hc ha hat h1 (newb ⟨k, cs, .live⟩ _ _ _ id' rfl h2 h3 h4)
    · rename_i l
      rw [hs'] at hs
      have hs0 := hs
      unfold VR at hs
      obtain ⟨blk', off, st, c, el, fz, hv, hI, hH, hl⟩ := hs
      by_cases hn : n = 0
      · subst hn
        simp at he; obtain ⟨rfl, rfl⟩ := he
        refine zpj1 ho hc ha hat (zXEB ht ht' hk hg hup hsrc hx ⟨_, _, _, hv, Nat.le_refl _⟩) ⟨ids, I, hg, Step.refl _ _, ?_⟩
        split
        · rename_i hnl
          unfold VR
          exact ⟨hnl, .inr ⟨blk', off, l.length, st, c, el, fz, hv, Nat.le_refl _, hI, hH, hl⟩⟩
        · exact hs0
      · have hn' : (n == 0) = false := by simpa using hn
        simp only [hn', Bool.false_eq_true, if_false] at he
        split at he
        case isFalse => simp at he
        rename_i hcond
        simp only [Bool.and_eq_true, decide_eq_true_eq] at hcond
        simp only [Option.some.injEq, Prod.mk.injEq] at he
        obtain ⟨rfl, rfl⟩ := he
        obtain ⟨olds, _, k1, k2, k3, k4⟩ := zMWO (P := P) (σ := σ) (k := k) (X := .arr l) (v := a.eval s) (n := l.length) (cs := l.flatMap AV.cells) (by simp only [srcCells, hcond.1, if_true]) hg hup hs0
        rw [hv] at k1
        obtain ⟨v, w', id', h1, h2, h3, h4⟩ := zKzI (P := P) (σ := σ) (cells := l.flatMap AV.cells) (k0 := k) (b := σ.length) (olds := olds) (ty := o.type) ht ht' hk hby hz hg hup hsrc hx (zIsc _) rfl k2 k3 k1 k4 (by omega) hcond.2
        rw [← hv] at h1
        exact zpj1 ho hc ha hat h1 (newb ⟨k, l.flatMap AV.cells ++ cs, .live⟩ _ _ _ id' rfl h2 h3 h4)
    · rename_i b u off len
      cases hu : upto σ b u with
      | none => simp [hu] at he
      | some B =>
        simp only [hu] at he
        split at he
        case isFalse => simp at he
        rename_i hcond
        simp only [Bool.and_eq_true, beq_iff_eq, decide_eq_true_eq] at hcond
        obtain ⟨⟨rfl, hbig⟩, hkk⟩ := hcond
        have hkk := zJWq hkk
        obtain ⟨hb, hul, hnd⟩ := zOI7 hu
        have hown := z1nM ids I hu
        subst hul
        rw [hs'] at hs
        by_cases hn : n = 0
        · subst hn
          simp at he; obtain ⟨rfl, rfl⟩ := he
          have hsh : ∃ a' l' c', a.eval s = .slice a' l' c' ∧ l' ≤ c' := by
            unfold VR at hs
            obtain ⟨⟨q, c, e1, e2, _⟩, _⟩ := hs
            exact ⟨_, _, _, e1, e2⟩
          exact zpj1 ho hc ha hat (zXEB ht ht' hk hg hup hsrc hx hsh) ⟨ids, I, hg, Step.refl _ _, hs⟩
        · have hn' : (n == 0) = false := by simpa using hn
          simp only [hn', Bool.false_eq_true, if_false] at he
          split at he
          case isTrue => simp at he
          rename_i hcs
          simp at hcs
          have hcs' : 0 < cs.length := List.length_pos_iff.2 hcs
          split at he
          · rename_i hul
            simp only [beq_iff_eq] at hul
            simp only [Option.some.injEq, Prod.mk.injEq] at he
            obtain ⟨rfl, rfl⟩ := he
            obtain ⟨v, w', id', h1, h2, h3, h4⟩ := zMso (P := P) (σ := σ) (ty := o.type) ht ht' hk hby hz hg hup hsrc hx hown hul (by rw [hkk]) hs (by omega) hbig (z85o hu) (fun ⟨B1, q1, q2⟩ => by rw [hb] at q1; simp at q1; subst q1; simp at q2; omega) (zpRx (u := 0) hb)
            have hset := zKck (ids := ids) (I := I) (id' := id') (B' := ⟨B.k, B.cells ++ cs, .live⟩) hb (by simp)
            obtain ⟨f1, f2⟩ := Good.shrink (C2 := ctxOf (setB σ b ⟨B.k, B.cells ++ cs, .live⟩) (fun q => if q = b then id' else ids q) I) h2 rfl (fun b1 u1 e1 h1 => hset b1 u1 e1 h1) (fun b1 u1 h1 => by
              rcases h1 with ⟨e1, e2⟩ | h1
              · have hlt : b < σ.length := by rw [zzWB] at hb; exact (List.getElem?_eq_some_iff.1 hb).1
                exact ⟨⟨B.k, B.cells ++ cs, .live⟩, by rw [zUGJ hlt, if_pos e1], by rw [e2]; exact Nat.le_refl _⟩
              · exact zkpY (ids := ids) (I := I) hb (by show _ ≤ (B.cells ++ cs).length; simp) b1 u1 h1)
            have e1 : B.cells.length + cs.length = (B.cells ++ cs).length := by simp
            rw [e1]
            exact zpj1 ho hc ha hat h1 ⟨_, I, f1, h3.trans f2, VR.mono f2.ev _ _ h4⟩
          · split at he
            case isFalse => simp at he
            rename_i hle
            simp only [Option.some.injEq, Prod.mk.injEq] at he
            obtain ⟨rfl, rfl⟩ := he
            obtain ⟨vals, ⟨q, m, hvx⟩, hf, hcl, hvl, hvals⟩ := zMWO (P := P) hsrc hg hup hx
            have hle2 : len * kst k + cs.length ≤ B.cells.length := by rw [hcl, ← Nat.add_mul]; exact hle
            obtain ⟨_, _, hnul, _⟩ := hg.ent b _ B _ hown
            have hlive : B.st = .live := by
              cases hst : B.st with
              | dead => exact absurd hst hnd
              | map es => have := z85o hu; rw [hst] at this; simp [BSt.isMap] at this
              | live => rfl
              | nul =>
                have h0 : B.cells.length = 0 := by rw [hnul hst]; rfl
                omega
            have hsv := hs
            unfold VR at hsv
            have hsv := hsv.2.2 B _ hown
            simp only [hlive] at hsv
            obtain ⟨c, el, o', cap, g1, hv, g3, g4, g5⟩ := hsv
            obtain ⟨_, c', el', n2, n3, n4⟩ := hg.live b _ B _ hown hlive
            rw [g1] at n2
            simp only [Option.some.injEq, Obj.cells.injEq] at n2
            obtain ⟨rfl, rfl, _⟩ := n2
            rw [hkk] at g5
            have hkp : 0 < kst k := Nat.pos_of_ne_zero fun h => by rw [h, Nat.mul_zero] at hcl; omega
            have hfit : len + n ≤ cap := by
              have : (len + n) * kst k ≤ cap * kst k := by omega
              exact Nat.le_of_mul_le_mul_right this hkp
            have hcap : 0 < cap := by omega
            have ho0 := g3 hcap
            subst ho0
            have hone : ∀ v ∈ vals, v.oneCell' = true := fun v hv => by
              obtain ⟨i, hi⟩ := List.getElem?_of_mem hv
              have hlt := (List.getElem?_eq_some_iff.1 hi).1
              obtain ⟨y, m1, m2, m3⟩ := hvals i cs[i] (List.getElem?_eq_getElem (by omega))
              rw [hi] at m1; simp at m1; subst m1; exact m3
            have hstore := run_storeCells_at P (ids b) (len * kst k) el vals 0 c w g1 (by omega) hone
            have happ := zAY7 (P := P) (w := w) (ty := o.type) (base := some ⟨ids b, 0, none⟩) ht ht' hk hvx (hf w rfl) hfit (fun b' hb' => by
              simp at hb'; subst hb'
              rw [z9vx, Nat.zero_add]
              exact hstore) (fun h => by simp at h)
            rw [← hv] at happ
            obtain ⟨p1, p2⟩ := zJE4 (vals := vals) (new := cs) (off := len * kst k) hg hown hlive (zpRx (u := 0) hb) g1 hle2 hvl hvals
            obtain ⟨pl, _⟩ := zAtF B.cells cs (len * kst k) hle2
            have hset := zKck (ids := ids) (I := I) (id' := ids b) (B' := ⟨B.k, putAt B.cells (len * kst k) cs, B.st⟩) hb hnd
            have hids : (fun q => if q = b then ids b else ids q) = ids := by funext q; split <;> simp_all
            rw [hids] at hset
            obtain ⟨f1, f2⟩ := Good.shrink (C2 := ctxOf (setB σ b ⟨B.k, putAt B.cells (len * kst k) cs, B.st⟩) ids I) p1 rfl (fun b1 u1 e1 h1 => by
              have := hset b1 u1 e1 h1
              simp only [pl] at this
              exact this) (fun b1 u1 h1 => zkpY (ids := ids) (I := I) hb (by show _ ≤ (putAt B.cells (len * kst k) cs).length; omega) b1 u1 h1)
            refine zpj1 ho hc ha hat happ ⟨ids, I, f1, p2.trans f2, ?_⟩
            have hlt : b < σ.length := by rw [zzWB] at hb; exact (List.getElem?_eq_some_iff.1 hb).1
            unfold VR
            refine ⟨⟨_, _, rfl, hfit, fun _ => ⟨_, rfl⟩⟩, ⟨_, by rw [zUGJ hlt, if_pos rfl], by show _ ≤ (putAt B.cells (len * kst k) cs).length; omega⟩, fun B2 id2 h2 => ?_⟩
            have h2' := hset b _ _ h2
            rw [if_pos ⟨rfl, pl.symm⟩] at h2'
            simp at h2'
            obtain ⟨rfl, rfl⟩ := h2'
            simp only [hlive]
            refine ⟨_, el, 0, cap, setRow_heap w (ids b) c _ el (0, 0) g1, rfl, fun _ => rfl, hfit, ?_⟩
            rw [(z2IS (by omega)).1, hkk]
            exact g5
end
end Ab
set_option linter.all false
namespace Ab
open Go
variable {P : Program}
theorem zJVm (n : Nat) : ∀ l : List AV, shL n l = l.map (shV n)
  | [] => rfl
  | x :: r => by simp only [shL, zJVm n r, List.map_cons]
structure Shift (n : Nat) (C1 C' : Ctx) : Prop where
  imm : ∀ k, C1.I k → C'.I k
  lim : ∀ b u, C1.lim b u → C'.lim (b + n) u
  own : ∀ b u B' id, C1.lim b u → C'.own (b + n) u = some (B', id) → ∃ B, C1.own b u = some (B, id) ∧ B.st = B'.st ∧ B.k = B'.k
section
variable {n : Nat} {C1 C' : Ctx} {H : Array Obj}
mutual
theorem VR.shift (h : Shift n C1 C') : ∀ (x : AV) (v : Value), VR C1 H x v → VR C' H (shV n x) v
  | .int _, _, hv => hv
  | .ik _ _, _, hv => hv
  | .bool _, _, hv => hv
  | .str _, _, hv => hv
  | .agg l, _, ⟨vs, e, hl, hc⟩ => ⟨vs, e, VRL.shift h l vs hl, hc⟩
  | .tup l, _, ⟨vs, e, hl⟩ => ⟨vs, e, VRL.shift h l vs hl⟩
  | .snil, _, hv => hv
  | .imm nn l, v, hv => VR.free (show ISub C1 H C' H from ⟨h.imm, fun _ _ => rfl⟩) (.imm nn l) v rfl hv
  | .arr l, v, hv => by
    unfold VR at hv
    unfold shV VR
    obtain ⟨b, off, st, c, el, fz, e, hI, hH, hl⟩ := hv
    refine ⟨b, off, st, c, el, fz, ?_, h.imm b hI, hH, VRI.shift h c st l off hl⟩
    rw [zJVm]; simpa using e
  | .sl b u off len, v, hv => by
    unfold VR at hv
    unfold shV VR
    obtain ⟨h0, h1, h3⟩ := hv
    refine ⟨h0, h.lim b u h1, fun B' id ho => ?_⟩
    obtain ⟨B, g1, g2, g3⟩ := h.own b u B' id h1 ho
    have := h3 B id g1
    rw [g2, g3] at this
    exact this
  | .pnil, _, hv => hv
  | .pimm x, v, hv => VR.free (show ISub C1 H C' H from ⟨h.imm, fun _ _ => rfl⟩) (.pimm x) v rfl hv
  | .ptr b u off, v, hv => by
    unfold VR at hv
    unfold shV VR
    obtain ⟨h0, h1, h3⟩ := hv
    refine ⟨h0, h.lim b u h1, fun B' id ho hl => ?_⟩
    obtain ⟨B, g1, g2, g3⟩ := h.own b u B' id h1 ho
    exact h3 B id g1 (g2.trans hl)
  | .fnil, _, hv => hv
  | .func _ l, _, ⟨vs, e, hl⟩ => ⟨vs, e, VRL.shift h l vs hl⟩
  | .inil, _, hv => hv
  | .iface _ x, _, ⟨y, e, hx⟩ => ⟨y, e, VR.shift h x y hx⟩
  | .mapr b, v, hv => by
    unfold VR at hv
    unfold shV VR
    obtain ⟨h0, h1, h3⟩ := hv
    refine ⟨h0, h.lim b 0 h1, fun B' id ho hl => ?_⟩
    obtain ⟨B, g1, g2, g3⟩ := h.own b 0 B' id h1 ho
    exact h3 B id g1 (by rw [g2]; exact hl)
  | .und, _, _ => trivial
theorem VRL.shift (h : Shift n C1 C') : ∀ (l : List AV) (vs : List Value), VRL C1 H l vs → VRL C' H (shL n l) vs
  | [], _, hv => hv
  | x :: r, _, ⟨v, s, e, hx, hr⟩ => ⟨v, s, e, VR.shift h x v hx, VRL.shift h r s hr⟩
theorem VRI.shift (h : Shift n C1 C') (c : Array Value) (st : Nat) : ∀ (l : List AV) (off : Nat), VRI C1 H c st l off → VRI C' H c st (shL n l) off
  | [], _, _ => trivial
  | x :: r, off, ⟨⟨v, hx, e, hj⟩, hr⟩ => ⟨⟨v, VR.shift h x v hx, e, hj⟩, VRI.shift h c st r (off + st) hr⟩
end
end
section
variable {a : Act} {ρ : Operand → Value} {r : Rf → AV} {w : World} {C : Ctx} {R : Operand → Rf → Bool} {ce : CE} {σ : List Blk} {nl : Nat} {ps : List Pend}
theorem zsgk {ids : Nat → Nat} {I : Nat → Prop} {o : Oper} {ca : Call} {f : Nat} {ys : List Rf} {z : AV} {σ' : List Blk} (hce : CallOk P ce) (ho : o.op = .call ca) (hc : ca.callee = .value (.func f)) (hb : bodied P f = true) (hg : Good (ctxOf σ ids I) w)
    (hx : VRL (ctxOf σ ids I) w.heap (ys.map r) (ca.args.toList.map a.eval)) (he : evW ce σ r (.cam f ys) = some (z, σ')) : Does P o a w (PostW σ ids I w z σ') := by
  simp only [evW] at he
  refine Does.call (zFdo ho hc hb w) ((hce f _ σ z σ' he ids I w _ hg hx).mono ?_)
  rintro e w' ⟨v, ids', I', rfl, h1, h2, h3⟩
  exact ⟨v, rfl, ids', I', h1, h3, h2⟩
theorem z8tR {ids : Nat → Nat} {I : Nat → Prop} {o : Oper} {ca : Call} {x0 : Operand} {y : Rf} {ys : List Rf} {z : AV} {σ' : List Blk} (hce : CallOk P ce) (hbd : HasBody P ce) (ho : o.op = .call ca) (hc : ca.callee = .value x0) (hg : Good (ctxOf σ ids I) w)
    (h0 : VR (ctxOf σ ids I) w.heap (r y) (a.eval x0)) (hx : VRL (ctxOf σ ids I) w.heap (ys.map r) (ca.args.toList.map a.eval)) (he : evW ce σ r (.camd y ys) = some (z, σ')) : Does P o a w (PostW σ ids I w z σ') := by
  simp only [evW] at he
  cases hy : r y <;> simp only [hy] at he <;> try (simp at he; done)
  rename_i f caps
  rw [hy] at h0
  unfold VR at h0
  obtain ⟨vs, e, hl⟩ := h0
  refine Does.call (zSQu ho hc e (hbd _ _ _ _ he) w) ((hce f _ σ z σ' he ids I w _ hg (hx.append hl)).mono ?_)
  rintro e w' ⟨v, ids', I', rfl, h1, h2, h3⟩
  exact ⟨v, rfl, ids', I', h1, h3, h2⟩
theorem zfco {ids : Nat → Nat} {I : Nat → Prop} {o : Oper} {ca : Call} {x0 : Operand} {m : String} {tbl : List (Nat × Nat)} {y : Rf} {ys : List Rf} {z : AV} {σ' : List Blk} (hce : CallOk P ce) (hbd : HasBody P ce) (ho : o.op = .call ca) (hc : ca.callee = .invoke x0 m) (ht : tblIs P m tbl = true) (hg : Good (ctxOf σ ids I) w)
    (h0 : VR (ctxOf σ ids I) w.heap (r y) (a.eval x0)) (hx : VRL (ctxOf σ ids I) w.heap (ys.map r) (ca.args.toList.map a.eval)) (he : evW ce σ r (.invm y tbl ys) = some (z, σ')) : Does P o a w (PostW σ ids I w z σ') := by
  simp only [evW] at he
  cases hy : r y <;> simp only [hy] at he <;> try (simp at he; done)
  rename_i t q
  cases hl : lookT tbl t with
  | none => simp [hl] at he
  | some f =>
    simp only [hl] at he
    rw [hy] at h0
    unfold VR at h0
    obtain ⟨v, e, hq⟩ := h0
    refine Does.call (zP5n ho hc e ht hl (hbd _ _ _ _ he) w) ((hce f _ σ z σ' he ids I w _ hg ⟨v, _, rfl, hq, hx⟩).mono ?_)
    rintro e w' ⟨v, ids', I', rfl, h1, h2, h3⟩
    exact ⟨v, rfl, ids', I', h1, h3, h2⟩
theorem zORp {σ' : List Blk} {b : Nat} : blk (σ'.map (shB nl)) b = (blk σ' b).map (shB nl) := by
  rw [zzWB, zzWB]; simp
theorem zO8m (B : Blk) : (shB nl B).cells.length = B.cells.length := by simp [shB, zJVm]
theorem zvRb {σ' : List Blk} {ids : Nat → Nat} {I I' : Nat → Prop} {b u : Nat} {B' : Blk} {id : Nat} (h : (ctxOf (σ'.map (shB nl)) ids I).own b u = some (B', id)) : ∃ B, (ctxOf σ' ids I').own b u = some (B, id) ∧ B' = shB nl B := by
  simp only [ctxOf, zORp] at h ⊢
  cases hb : blk σ' b with
  | none => simp [hb] at h
  | some B =>
    simp only [hb, Option.map_some] at h ⊢
    have e1 : (shB nl B).st = B.st := rfl
    rw [e1, zO8m] at h
    cases hs : B.st <;> simp only [hs] at h ⊢ <;> first
      | (simp at h; done)
      | (by_cases hu : B.cells.length = u
         · simp only [hu, if_true] at h ⊢
           simp at h
           exact ⟨B, by rw [h.2], h.1.symm⟩
         · simp [hu] at h)
theorem zmSE {o : Oper} {ca : Call} {f : Nat} {ys : List Rf} {x : AV} {p : Option Pend} (hce : CallOk P ce) (ho : o.op = .call ca) (hc : ca.callee = .value (.func f)) (hb : bodied P f = true) (hg : Good C w)
    (hfr : ∀ l, p = some (.news l) → ∀ b u, nl ≤ b → b < nl + l.length → ¬ C.lim b u)
    (hx : VRL C w.heap (ys.map r) (ca.args.toList.map a.eval)) (he : ev ce σ nl ps r (.can f ys) = some (x, p)) : Does P o a w (PostE nl C w x p) := by
  simp only [ev] at he
  split at he
  case isFalse => simp at he
  rename_i hn
  cases hcf : ce f (ys.map r) [] with
  | none => simp [hcf] at he
  | some q =>
    obtain ⟨v0, σ'⟩ := q
    simp only [hcf, Option.some.injEq, Prod.mk.injEq] at he
    obtain ⟨rfl, rfl⟩ := he
    have hfr := hfr _ rfl
    have hv0 : VRL (ctxOf [] (fun _ => 0) C.I) w.heap (ys.map r) (ca.args.toList.map a.eval) := VRL.free (show ISub C w.heap (ctxOf [] (fun _ => 0) C.I) w.heap from ⟨fun _ h => h, fun _ _ => rfl⟩) _ _ hn hx
    refine Does.call (zFdo ho hc hb w) ((hce f _ [] v0 σ' hcf (fun _ => 0) C.I w _ (zgS9 hg _) hv0).mono ?_)
    rintro e w' ⟨v, ids', I', rfl, hg1, hr, hs⟩
    refine ⟨v, rfl, ?_⟩
    have hlen : (σ'.map (shB nl)).length = σ'.length := by simp
    let C' : Ctx := { I := I', own := fun b u => if nl ≤ b ∧ b < nl + (σ'.map (shB nl)).length then (ctxOf (σ'.map (shB nl)) ids' C.I).own (b - nl) u else C.own b u, lim := fun b u => (nl ≤ b ∧ (ctxOf (σ'.map (shB nl)) ids' C.I).lim (b - nl) u) ∨ C.lim b u }
    have hsame : ∀ k, k < w.heap.size → w'.heap[k]? = w.heap[k]? := fun k hk => hs.frame k hk zONh
    have limlt : ∀ b u, (ctxOf σ' ids' I').lim b u → b < σ'.length := fun b u ⟨B, h1, _⟩ => by rw [zzWB] at h1; exact (List.getElem?_eq_some_iff.1 h1).1
    have limsh : ∀ b u, (ctxOf (σ'.map (shB nl)) ids' C.I).lim b u ↔ (ctxOf σ' ids' I').lim b u := fun b u => by
      simp only [ctxOf, zORp]
      constructor
      · rintro ⟨B, h1, h2⟩
        obtain ⟨B0, h3, h4⟩ := Option.map_eq_some_iff.1 h1
        subst h4
        exact ⟨B0, h3, by rwa [zO8m] at h2⟩
      · rintro ⟨B, h1, h2⟩
        exact ⟨shB nl B, by rw [h1]; rfl, by rw [zO8m]; exact h2⟩
    have hsh : Shift nl (ctxOf σ' ids' I') C' := by
      refine ⟨fun _ h => h, fun b u h => .inl ⟨by omega, ?_⟩, fun b u B' id hl ho' => ?_⟩
      · rw [show b + nl - nl = b by omega]; exact (limsh b u).2 h
      · have hlt := limlt b u hl
        have hin : nl ≤ b + nl ∧ b + nl < nl + (σ'.map (shB nl)).length := by rw [hlen]; omega
        simp only [C', if_pos hin] at ho'
        rw [show b + nl - nl = b by omega] at ho'
        obtain ⟨B, h1, h2⟩ := zvRb (I' := I') ho'
        exact ⟨B, h1, by rw [h2]; rfl, by rw [h2]; rfl⟩
    have ev' : Evol C w.heap C' w'.heap := by
      refine ⟨fun k hk => hs.ev.imm k hk, fun k hk => hsame k (hg.I k hk), fun _ _ h => .inr h, fun b u B' id hl ho' => ?_⟩
      have hno : ¬ (nl ≤ b ∧ b < nl + (σ'.map (shB nl)).length) := fun ⟨h1, h2⟩ => hfr b u h1 h2 hl
      simp only [C', if_neg hno] at ho'
      refine ⟨B', ho', rfl, rfl, fun c el hc' => ⟨c, ?_, rfl⟩⟩
      rw [hsame id (Array.getElem?_eq_some_iff.1 hc').1]; exact hc'
    have hnew : ∀ id, owned (ctxOf σ' ids' I') id → w.heap.size ≤ id := fun id h => (hs.ownOrig id h).elim (fun h => absurd h zONh) (fun h => h)
    have hcase : ∀ b u B' id, C'.own b u = some (B', id) → (nl ≤ b ∧ b < nl + (σ'.map (shB nl)).length ∧ ∃ B, (ctxOf σ' ids' I').own (b - nl) u = some (B, id) ∧ B' = shB nl B) ∨ C.own b u = some (B', id) := fun b u B' id h => by
      by_cases hin : nl ≤ b ∧ b < nl + (σ'.map (shB nl)).length
      · simp only [C', if_pos hin] at h
        obtain ⟨B, h1, h2⟩ := zvRb (I' := I') h
        exact .inl ⟨hin.1, hin.2, B, h1, h2⟩
      · simp only [C', if_neg hin] at h
        exact .inr h
    refine ⟨C', ⟨hg1.I, fun b u B' id h => ?_, fun b u B' id h hl => ?_, fun b1 u1 B1 i1 b2 u2 B2 i2 k1 l1 k2 l2 hne => ?_, fun b u B' id es h hl => ?_⟩, ⟨ev', hs.size, fun k hk _ => hsame k hk, fun k hk => ?_, fun k hk => ?_, hs.os, hs.tape, hs.output⟩, VR.shift hsh _ _ hr, ids', rfl, rfl⟩
    · rcases hcase b u B' id h with ⟨q1, q2, B, q3, rfl⟩ | h'
      · obtain ⟨j1, j2, j3, j4⟩ := hg1.ent _ _ _ _ q3
        exact ⟨.inl ⟨q1, (limsh _ _).2 j1⟩, by rw [zO8m]; exact j2, fun h0 => by
          have : B.cells = [] := j3 h0
          simp [shB, this, shL], j4⟩
      · obtain ⟨j1, j2, j3, j4⟩ := hg.ent _ _ _ _ h'
        exact ⟨.inr j1, j2, j3, j4⟩
    · rcases hcase b u B' id h with ⟨q1, q2, B, q3, rfl⟩ | h'
      · obtain ⟨j1, c, el, j2, j3, j4⟩ := hg1.live _ _ _ _ q3 hl
        refine ⟨j1, c, el, j2, by rw [zO8m]; exact j3, fun i y hi => ?_⟩
        have hi' : (shL nl B.cells)[i]? = some y := hi
        rw [zJVm, List.getElem?_map] at hi'
        obtain ⟨y0, e1, rfl⟩ := Option.map_eq_some_iff.1 hi'
        obtain ⟨v', m1, m2, m3⟩ := j4 i y0 e1
        exact ⟨v', m1, VR.shift hsh _ _ m2, m3⟩
      · obtain ⟨j1, c, el, j2, j3, j4⟩ := hg.live _ _ _ _ h' hl
        have hlt := (Array.getElem?_eq_some_iff.1 j2).1
        refine ⟨fun hi => ?_, c, el, by rw [hsame id hlt]; exact j2, j3, fun i y hi => ?_⟩
        · rcases hs.immOrig id hi with h1 | h1 | h1
          · exact j1 h1
          · exact zONh h1
          · omega
        · obtain ⟨v', m1, m2, m3⟩ := j4 i y hi
          exact ⟨v', m1, VR.mono ev' _ _ m2, m3⟩
    · rcases hcase _ _ _ _ k1 with ⟨q1, q2, B, q3, rfl⟩ | h1 <;> rcases hcase _ _ _ _ k2 with ⟨q4, q5, B', q6, rfl⟩ | h2
      · exact hg1.apart _ _ _ _ _ _ _ _ q3 l1 q6 l2 (by omega)
      · have := hnew i1 ⟨_, _, B, q3, l1⟩
        have := hg.lt ⟨b2, u2, B2, h2, l2⟩
        omega
      · have := hnew i2 ⟨_, _, B', q6, l2⟩
        have := hg.lt ⟨b1, u1, B1, h1, l1⟩
        omega
      · exact hg.apart _ _ _ _ _ _ _ _ h1 l1 h2 l2 hne
    · rcases hcase b u B' id h with ⟨q1, q2, B, q3, rfl⟩ | h'
      · obtain ⟨j1, l, c, j2, j3⟩ := hg1.maps _ _ _ _ es q3 hl
        exact ⟨j1, l, c, j2, MR.free (C := ctxOf σ' ids' I') (C' := C') (H := w'.heap) (H' := w'.heap) ⟨fun _ h => h, fun _ _ => rfl⟩ j3⟩
      · have hlt := hg.lt ⟨_, _, _, h', z9Su hl⟩
        refine hg.maps_keep (C' := C') ev'.imm ev'.same h' hl (hsame id hlt) fun hi => ?_
        rcases hs.immOrig id hi with h1 | h1 | h1
        · exact (hg.maps _ _ _ _ _ h' hl).1 h1
        · exact zONh h1
        · omega
    · obtain ⟨b, u, B', h1, h2⟩ := hk
      rcases hcase _ _ _ _ h1 with ⟨q1, q2, B, q3, rfl⟩ | h'
      · exact .inr (hnew k ⟨_, _, B, q3, h2⟩)
      · exact .inl ⟨b, u, B', h', h2⟩
    · rcases hs.immOrig k hk with h1 | h1 | h1
      · exact .inl h1
      · exact absurd h1 zONh
      · exact .inr (.inr h1)
end
end Ab
namespace Ab
open Go
variable {P : Program}
section
variable {a : Act} {ρ : Operand → Value} {r : Rf → AV} {w : World} {C : Ctx} {R : Operand → Rf → Bool} {ce : CE} {σ : List Blk} {nl : Nat} {ps : List Pend}
theorem z0hY {o : Oper} {ca : Call} {x : Operand} {t : TypeId} {y : Rf} {z : AV} {p : Option Pend} (ho : o.op = .call ca) (hc : ca.callee = .builtin .cap) (ha : ca.args.toList = [x]) (hat : ca.argTypes.toList = [t])
    (ht : (sliceOf P t).isSome = true) (hx : VR C w.heap (r y) (ρ x)) (he : ev ce σ nl ps r (.capn y) = some (z, p)) : Plain P ρ o w C w.heap z ∧ p = none := by
  obtain ⟨e, he'⟩ := Option.isSome_iff_exists.1 ht
  have hu := zsha he' w
  simp only [ev] at he
  cases hx' : r y <;> simp only [hx'] at he <;> try (simp at he; done)
  simp at he; obtain ⟨rfl, rfl⟩ := he
  rw [hx'] at hx
  have hv : ρ x = .slice none 0 0 := hx
  have ha' : ca.args = #[x] := by rw [← Array.toList_inj]; simpa using ha
  have hat' : ca.argTypes = #[t] := by rw [← Array.toList_inj]; simpa using hat
  refine ⟨⟨.int .i64 0, ?_, by unfold VR; rfl⟩, rfl⟩
  simp only [execOp, ho, resolve, hc, ha', hat', Sem.run_bind, Sem.run_pure, Result.andThen_ok, invoke, builtin, Builtin.cap_]
  simp [hv, Sem.run_bind, hu, goInt]
theorem zUth {ids : Nat → Nat} {I : Nat → Prop} {o : Oper} {ca : Call} {t e : TypeId} {x : Operand} {x' : Rf} {zc : List AV} {k : Option Nat} {z : AV} {σ' : List Blk} (ho : o.op = .call ca) (hc : ca.callee = .builtin .clear) (ha : ca.args.toList = [x]) (hat : ca.argTypes.toList = [t]) (ht : sliceOf P t = some e) (hk : kindIs P e k = true) (hz : zeroIs P e zc = true) (hg : Good (ctxOf σ ids I) w)
    (hx : VR (ctxOf σ ids I) w.heap (r x') (a.eval x)) (he : evW ce σ r (.clr x' zc k) = some (z, σ')) : Does P o a w (PostW σ ids I w z σ') := by
  simp only [evW] at he
  cases hx' : r x' <;> simp only [hx'] at he <;> try (simp at he; done)
  rename_i b u off len
  cases hu : upto σ b u with
  | none => simp [hu] at he
  | some B =>
    simp only [hu] at he
    split at he
    case isFalse => simp at he
    rename_i hcc
    obtain ⟨c0, c1, c2, c3, c4⟩ := hcc
    simp only [Option.some.injEq, Prod.mk.injEq] at he
    obtain ⟨rfl, rfl⟩ := he
    obtain ⟨hb, hul, hnd⟩ := zOI7 hu
    have hs : B.st = .live := by revert c4; cases B.st <;> simp [BSt.isLive]
    have hown := z1nM ids I hu
    subst hul
    rw [hx'] at hx
    unfold VR at hx
    have hx3 := hx.2.2 B _ hown
    rw [hs] at hx3
    obtain ⟨c', el', o', cap, hH', e, hoff, hlc, hcs⟩ := hx3
    rw [hoff (by omega)] at e
    obtain ⟨_, c, el, hH, hle, hcells⟩ := hg.live b _ B _ hown hs
    obtain ⟨zv, z1, z2, z3⟩ := zfjA (C := ctxOf σ ids I) hz w
    have hzs : zv.cells.size = kst k := by have := VRL.length z2; simp at this; omega
    obtain ⟨d1, d2⟩ := z9MN zc len
    rw [c3] at d1 d2
    have hvl : (Builtin.zeroCells zv.cells len).toList.length = len * kst k := by simp [Builtin.zeroCells, hzs]
    obtain ⟨g1, g2⟩ := zJE4 (vals := (Builtin.zeroCells zv.cells len).toList) (new := dupN len zc) (off := off) hg hown hs (zpRx (u := 0) hb) hH (by omega) (by omega) (fun j q hj => by
      have hlt := (List.getElem?_eq_some_iff.1 hj).1
      rw [d1] at hlt
      rw [d2 j hlt] at hj
      have hkp : 0 < kst k := Nat.pos_of_ne_zero fun h => by rw [h] at hlt; simp at hlt
      obtain ⟨y, k1, k2⟩ := z2.get (j % kst k) q hj
      rw [Array.getElem?_toList] at k1
      refine ⟨y, ?_, k2, z3 y (by rw [Array.mem_toList_iff]; exact Array.mem_of_getElem? k1)⟩
      have hm := Nat.mod_lt j hkp
      rw [Array.getElem?_eq_getElem (by omega : j % kst k < zv.cells.size)] at k1
      simp at k1
      rw [Array.getElem?_toList]
      simp [Builtin.zeroCells, hzs, hlt, getElem!_def, Array.getElem?_eq_getElem (by omega : j % kst k < zv.cells.size), k1])
    obtain ⟨pl, _⟩ := zAtF B.cells (dupN len zc) off (by omega)
    have hset := zKck (ids := ids) (I := I) (id' := ids b) (B' := ⟨B.k, putAt B.cells off (dupN len zc), B.st⟩) hb hnd
    have hids : (fun q => if q = b then ids b else ids q) = ids := by funext q; split <;> simp_all
    rw [hids] at hset
    obtain ⟨f1, f2⟩ := Good.shrink (C2 := ctxOf (setB σ b ⟨B.k, putAt B.cells off (dupN len zc), B.st⟩) ids I) g1 rfl (fun b1 u1 e1 h1 => by
      have := hset b1 u1 e1 h1
      simp only [pl] at this
      exact this) (fun b1 u1 h1 => zkpY (ids := ids) (I := I) hb (by show _ ≤ (putAt B.cells off (dupN len zc)).length; omega) b1 u1 h1)
    have hone : ∀ v ∈ (Builtin.zeroCells zv.cells len).toList, v.oneCell' = true := fun v hv => by
      obtain ⟨j, hj⟩ := List.mem_iff_getElem?.1 hv
      have hlt := (List.getElem?_eq_some_iff.1 hj).1
      rw [hvl] at hlt
      have hkp : 0 < kst k := Nat.pos_of_ne_zero fun h => by rw [h] at hlt; simp at hlt
      have hm := Nat.mod_lt j hkp
      rw [Array.getElem?_toList] at hj
      simp [Builtin.zeroCells, hzs, hlt, getElem!_def, Array.getElem?_eq_getElem (by omega : j % kst k < zv.cells.size)] at hj
      subst hj
      exact z3 _ (by rw [Array.mem_toList_iff]; exact Array.getElem_mem _)
    have hstore := run_storeCells_at P (ids b) off el (Builtin.zeroCells zv.cells len).toList 0 c w hH (by omega) hone
    simp only [Nat.add_zero] at hstore
    have ha' : ca.args = #[x] := by rw [← Array.toList_inj]; simpa using ha
    have hat' : ca.argTypes = #[t] := by rw [← Array.toList_inj]; simpa using hat
    obtain ⟨n', rfl⟩ : ∃ n', len = n' + 1 := ⟨len - 1, by omega⟩
    refine Does.val (v := .tuple #[]) (w' := w.setRow (ids b) (c.toList.take off ++ (Builtin.zeroCells zv.cells (n' + 1)).toList ++ c.toList.drop (off + (Builtin.zeroCells zv.cells (n' + 1)).toList.length)).toArray) ?_ ⟨ids, I, f1, g2.trans f2, by unfold VR; trivial⟩
    simp only [execOp, ho, resolve, hc, ha', hat', Sem.run_bind, Sem.run_pure, Result.andThen_ok, invoke, builtin, Builtin.clear_]
    simp [e, Sem.run_bind, zsha ht, z1, hstore]
theorem zUNG {ids : Nat → Nat} {I : Nat → Prop} {o : Oper} {ca : Call} {t t' e : TypeId} {x y : Operand} {x' y' : Rf} {k : Option Nat} {z : AV} {σ' : List Blk} (ho : o.op = .call ca) (hc : ca.callee = .builtin .copy) (ha : ca.args.toList = [x, y]) (hat : ca.argTypes.toList = [t, t']) (ht : sliceOf P t = some e) (hk : kindIs P e k = true) (hg : Good (ctxOf σ ids I) w)
    (hx : VR (ctxOf σ ids I) w.heap (r x') (a.eval x)) (hy : VR (ctxOf σ ids I) w.heap (r y') (a.eval y)) (he : evW ce σ r (.cpy x' y' k) = some (z, σ')) : Does P o a w (PostW σ ids I w z σ') := by
  simp only [evW] at he
  cases hs' : srcCells σ k (r y') with
  | none => simp [hs'] at he
  | some ncs =>
  obtain ⟨n, cs⟩ := ncs
  simp only [hs'] at he
  cases hx' : r x' <;> simp only [hx'] at he <;> try (simp at he; done)
  rename_i b u off len
  cases hu : upto σ b u with
  | none => simp [hu] at he
  | some B =>
    simp only [hu] at he
    split at he
    case isFalse => simp at he
    rename_i hcc
    obtain ⟨c1, c2, c4⟩ := hcc
    obtain ⟨hb, hul, hnd⟩ := zOI7 hu
    have hs : B.st = .live := by revert c4; cases B.st <;> simp [BSt.isLive]
    have hown := z1nM ids I hu
    subst hul
    rw [hx'] at hx
    unfold VR at hx
    have hx3 := hx.2.2 B _ hown
    rw [hs] at hx3
    obtain ⟨c', el', o', cap, hH', e1, hoff, hlc, hcs⟩ := hx3
    obtain ⟨vals, ⟨q, mm, e2⟩, hld, hcl, hvl, hvals⟩ := zidW (P := P) hs' (show min n len ≤ n by omega) hg (fun b u B h => ⟨_, z1nM ids I h⟩) hy
    have ha' : ca.args = #[x, y] := by rw [← Array.toList_inj]; simpa using ha
    have hat' : ca.argTypes = #[t, t'] := by rw [← Array.toList_inj]; simpa using hat
    have hsz := zW9l (zu6q hk) w
    by_cases h0 : min n len = 0
    · rw [if_pos h0] at he
      simp only [Option.some.injEq, Prod.mk.injEq] at he
      obtain ⟨rfl, rfl⟩ := he
      rw [h0] at hld hvl
      obtain rfl : vals = [] := List.eq_nil_of_length_eq_zero (by simpa using hvl)
      refine Does.val (v := .int .i64 0) (w' := w) ?_ ⟨ids, I, hg, Step.refl _ _, by unfold VR; rfl⟩
      simp only [execOp, ho, resolve, hc, ha', hat', Sem.run_bind, Sem.run_pure, Result.andThen_ok, invoke, builtin, Builtin.copy_]
      rw [e2] at hld
      simp [e1, e2, Sem.run_bind, zsha ht, Builtin.lenOf, hsz, hld, h0, goInt, storeCells]
    · rw [if_neg h0] at he
      simp only [Option.some.injEq, Prod.mk.injEq] at he
      obtain ⟨rfl, rfl⟩ := he
      rw [hoff (by omega)] at e1
      obtain ⟨_, c, el, hH, hle, hcells⟩ := hg.live b _ B _ hown hs
      have hmk1 : min n len * kst k ≤ n * kst k := Nat.mul_le_mul_right _ (by omega)
      have hmk2 : min n len * kst k ≤ len * kst k := Nat.mul_le_mul_right _ (by omega)
      have hnl : (cs.take (min n len * kst k)).length = min n len * kst k := by rw [List.length_take, hcl]; omega
      obtain ⟨g1, g2⟩ := zJE4 (vals := vals) (new := cs.take (min n len * kst k)) (off := off) hg hown hs (zpRx (u := 0) hb) hH (by omega) (by omega) hvals
      obtain ⟨pl, _⟩ := zAtF B.cells (cs.take (min n len * kst k)) off (by omega)
      have hset := zKck (ids := ids) (I := I) (id' := ids b) (B' := ⟨B.k, putAt B.cells off (cs.take (min n len * kst k)), B.st⟩) hb hnd
      have hids : (fun q => if q = b then ids b else ids q) = ids := by funext q; split <;> simp_all
      rw [hids] at hset
      obtain ⟨f1, f2⟩ := Good.shrink (C2 := ctxOf (setB σ b ⟨B.k, putAt B.cells off (cs.take (min n len * kst k)), B.st⟩) ids I) g1 rfl (fun b1 u1 e1 h1 => by
        have := hset b1 u1 e1 h1
        simp only [pl] at this
        exact this) (fun b1 u1 h1 => zkpY (ids := ids) (I := I) hb (by show _ ≤ (putAt B.cells off (cs.take (min n len * kst k))).length; omega) b1 u1 h1)
      have hone : ∀ v ∈ vals, v.oneCell' = true := fun v hv => by
        obtain ⟨j, hj⟩ := List.mem_iff_getElem?.1 hv
        have hlt := (List.getElem?_eq_some_iff.1 hj).1
        obtain ⟨y', m1, _, m3⟩ := hvals j _ (List.getElem?_eq_getElem (by omega))
        rw [hj] at m1; cases m1; exact m3
      have hstore := run_storeCells_at P (ids b) off el vals 0 c w hH (by omega) hone
      simp only [Nat.add_zero] at hstore
      refine Does.val (v := .int .i64 (min n len : Nat)) (w' := w.setRow (ids b) (c.toList.take off ++ vals ++ c.toList.drop (off + vals.length)).toArray) ?_ ⟨ids, I, f1, g2.trans f2, by unfold VR; rfl⟩
      simp only [execOp, ho, resolve, hc, ha', hat', Sem.run_bind, Sem.run_pure, Result.andThen_ok, invoke, builtin, Builtin.copy_]
      rw [e2] at hld
      simp [e1, e2, Sem.run_bind, zsha ht, Builtin.lenOf, hsz, hld, goInt, hstore]
end
end Ab
namespace Ab
open Go
variable {P : Program}
section
variable {a : Act} {r : Rf → AV} {w : World} {C : Ctx} {R : Operand → Rf → Bool} {ce : CE} {σ : List Blk} {nl : Nat} {ps : List Pend}
theorem dp_mv {o : Oper} {x0 : Operand} {y : Rf} {x : AV} {p : Option Pend} (ho : o.op = .move x0 ∨ o.op = .assign x0) (hg : Good C w) (h0 : VR C w.heap (r y) (a.eval x0)) (he : ev ce σ nl ps r (.mv y) = some (x, p)) :
    Does P o a w (PostP C w x) ∧ p = none := by
  simp [ev] at he; obtain ⟨rfl, rfl⟩ := he
  refine ⟨Does.val (v := a.eval x0) (w' := w) ?_ (PostP.same hg h0), rfl⟩
  rcases ho with ho | ho <;> simp only [execOp, ho, Sem.run_pure]
def IOp.isIni : IOp → Bool
  | .alc0 _ | .ini .. => true
  | _ => false
theorem opP {o : Oper} {iop : IOp} {x : AV} {p : Option Pend} (hok : okOp P R o.op iop = true) (hP : iop.isP = true) (hni : iop.isIni = false) (hce : CallOk P ce) (hbd : HasBody P ce) (hg : Good C w)
    (hR : ∀ x y, R x y = true → VR C w.heap (r y) (a.eval x)) (hr0 : r (.c (.int 0)) = .int 0) (he : ev ce σ nl ps r iop = some (x, p)) : Does P o a w (PostP C w x) ∧ p = none := by
  obtain ⟨dst, op, type, pos, after, guard⟩ := o
  have pl : ∀ {x' : AV} {p' : Option Pend}, Plain P a.eval ⟨dst, op, type, pos, after, guard⟩ w C w.heap x' ∧ p' = none → Does P ⟨dst, op, type, pos, after, guard⟩ a w (PostP C w x') ∧ p' = none := fun h => ⟨h.1.does hg, h.2⟩
  simp only [okOp] at hok
  split at hok
  · exact dp_mv (.inl rfl) hg (hR _ _ hok) he
  · exact dp_mv (.inr rfl) hg (hR _ _ hok) he
  · simp [IOp.isP] at hP
  · simp only [Bool.and_eq_true] at hok
    exact pl (zkIt rfl hok.1.1 (hR _ _ hok.1.2) (hR _ _ hok.2) he)
  · simp only [Bool.and_eq_true] at hok
    exact pl (zTwW rfl hok.1.1.1 hok.1.1.2 (hR _ _ hok.1.2) (hR _ _ hok.2) he)
  · simp only [Bool.and_eq_true] at hok
    exact pl (zqyU rfl hok.1.1.1 hok.1.1.2 (hR _ _ hok.1.2) (hR _ _ hok.2) he)
  · simp [IOp.isP] at hP
  · exact pl (zqOW rfl (hR _ _ hok) he)
  · exact pl (zpis rfl (hR _ _ hok) hr0 he)
  · simp only [Bool.and_eq_true] at hok
    exact pl (zLpe rfl (hR _ _ hok.1.1) (hR _ _ hok.1.2) (hR _ _ hok.2) he)
  · split at hok
    · rename_i ha hat
      simp only [Bool.and_eq_true] at hok
      exact pl (zQl7 rfl rfl ha hat hok.1 (hR _ _ hok.2) he)
    · simp at hok
  · split at hok
    · rename_i ha
      simp only [Bool.and_eq_true] at hok
      exact pl (pl_mx (m := true) rfl rfl ha (hR _ _ hok.1) (hR _ _ hok.2) he)
    · simp at hok
  · split at hok
    · rename_i ha
      simp only [Bool.and_eq_true] at hok
      exact pl (pl_mx (m := false) rfl rfl ha (hR _ _ hok.1) (hR _ _ hok.2) he)
    · simp at hok
  · simp only [Bool.and_eq_true] at hok
    obtain ⟨h1, h2⟩ := hok
    split at h1
    · rename_i fs hs
      split at h1
      · rename_i fl hf
        simp only [Bool.and_eq_true, beq_iff_eq, Bool.not_eq_true'] at h1
        exact pl (zZou rfl hs hf h1.1.1 h1.1.2 h1.2 (hR _ _ h2) he)
      · simp at h1
    · simp at h1
  · simp only [Bool.and_eq_true] at hok
    obtain ⟨h1, h2⟩ := hok
    split at h1
    · rename_i fs hs
      split at h1
      · rename_i fl hf
        simp only [Bool.and_eq_true, beq_iff_eq] at h1
        exact pl (zbDo rfl hs hf h1.1 h1.2 (hR _ _ h2) he)
      · simp at h1
    · simp at h1
  · simp only [Bool.and_eq_true] at hok
    obtain ⟨⟨h1, h2⟩, h3⟩ := hok
    split at h1
    · rename_i e ht
      exact pl (z420 rfl ht h1 (hR _ _ h2) (hR _ _ h3) he)
    · simp at h1
  · simp only [Bool.and_eq_true] at hok
    obtain ⟨⟨h1, h2⟩, h3⟩ := hok
    split at h1
    · rename_i m e ht
      simp only [Bool.and_eq_true, beq_iff_eq, decide_eq_true_eq] at h1
      obtain ⟨⟨rfl, hk⟩, _⟩ := h1
      exact pl (zQ8J rfl ht hk (hR _ _ h2) (hR _ _ h3) he)
    · simp at h1
  · exact pl (zwAQ rfl (hR _ _ hok) he)
  · exact zrX4 rfl hg (hR _ _ hok) he
  · simp [IOp.isP] at hP
  · simp [IOp.isP] at hP
  · simp [IOp.isIni] at hni
  · simp [IOp.isIni] at hni
  · simp [IOp.isP] at hP
  · simp [IOp.isP] at hP
  · simp only [Bool.and_eq_true] at hok
    exact pl (zM7i rfl hok.1 (hR _ _ hok.2) he)
  · simp only [Bool.and_eq_true] at hok
    exact pl (zS6i rfl hok.1 hok.2 hR he)
  · simp only [Bool.and_eq_true] at hok
    obtain ⟨⟨h1, h2⟩, h3⟩ := hok
    split at h1
    · rename_i m e ht
      simp only [Bool.and_eq_true, beq_iff_eq] at h1
      obtain ⟨rfl, hk⟩ := h1
      exact pl (zupC rfl ht hk (hR _ _ h2) (hR _ _ h3) he)
    · simp at h1
  · simp only [Bool.and_eq_true, beq_iff_eq] at hok
    obtain ⟨rfl, h2⟩ := hok
    exact pl (zjgG rfl (hR _ _ h2) he)
  · simp only [Bool.and_eq_true, beq_iff_eq] at hok
    obtain ⟨⟨h1, rfl⟩, h2⟩ := hok
    exact pl (zP0S rfl h1 (zscY hR h2) he)
  · simp only [Bool.and_eq_true, beq_iff_eq] at hok
    obtain ⟨⟨rfl, h1⟩, h2⟩ := hok
    exact pl (zTIk rfl h1 (hR _ _ h2) he)
  · simp only [Bool.and_eq_true] at hok
    obtain ⟨⟨⟨h1, h2⟩, h3⟩, h4⟩ := hok
    split at h1
    · rename_i e ht
      simp only [Bool.and_eq_true, decide_eq_true_eq] at h1
      exact z4cs rfl ht h1.1.1 h1.1.2 h1.2 h2 h3 hg (zscY hR h4) he
    · simp at h1
  · simp only [Bool.and_eq_true] at hok
    obtain ⟨⟨⟨h1, h2⟩, h3⟩, h4⟩ := hok
    split at h1
    · rename_i e ht
      simp only [Bool.and_eq_true, decide_eq_true_eq] at h1
      exact zhWB rfl ht h1.1.1 h1.1.2 h1.2 h2 h3 hg (zscY hR h4) he
    · simp at h1
  · simp [IOp.isP] at hP
  · simp [IOp.isP] at hP
  · simp only [Bool.and_eq_true] at hok
    obtain ⟨⟨⟨h1, h2⟩, h3⟩, h4⟩ := hok
    split at h1
    · rename_i e ht
      exact pl (zEd5 rfl ht h1 (hR _ _ h2) (hR _ _ h3) (hR _ _ h4) he)
    · simp at h1
  · simp only [Bool.and_eq_true] at hok
    exact pl (zBQB rfl hok.1 (hR _ _ hok.2) he)
  · simp [IOp.isP] at hP
  · simp [IOp.isP] at hP
  · simp [IOp.isP] at hP
  · simp only [Bool.and_eq_true, beq_iff_eq] at hok
    obtain ⟨⟨rfl, h1⟩, h2⟩ := hok
    exact ziCo hce rfl rfl h1 hg (zscY hR h2) he
  · simp [IOp.isP] at hP
  · simp [IOp.isP] at hP
  · simp [IOp.isP] at hP
  · simp only [Bool.and_eq_true] at hok
    exact z5t0 hce hbd rfl rfl hg (hR _ _ hok.1) (zscY hR hok.2) he
  · simp [IOp.isP] at hP
  · simp only [Bool.and_eq_true] at hok
    exact zHhE hce hbd rfl rfl hok.2 hg (hR _ _ hok.1.1) (zscY hR hok.1.2) he
  · simp [IOp.isP] at hP
  · split at hok
    · rename_i ha hat
      simp only [Bool.and_eq_true] at hok
      exact pl (z0hY rfl rfl ha hat hok.1 (hR _ _ hok.2) he)
    · simp at hok
  · simp [IOp.isP] at hP
  · simp [IOp.isP] at hP
  · simp [IOp.isP] at hP
  · simp [IOp.isP] at hP
  · simp [IOp.isP] at hP
  · simp [IOp.isP] at hP
  · simp only [Bool.and_eq_true] at hok
    exact pl (z18Z rfl hok.1 (hR _ _ hok.2) he)
  · simp only [Bool.and_eq_true] at hok
    exact pl (zxYz rfl (hR _ _ hok.1) (hR _ _ hok.2) he)
  · simp only [Bool.and_eq_true] at hok
    exact pl (zh5V rfl (hR _ _ hok.1) (hR _ _ hok.2) he)
  · simp only [Bool.and_eq_true] at hok
    exact pl (zOOr rfl hok.1 (hR _ _ hok.2) he)
  · simp [IOp.isP] at hP
  · simp [IOp.isP] at hP
  · simp at hok
theorem zqod {o : Oper} {x : AV} {p : Option Pend} (h : Does P o a w (PostP C w x) ∧ p = none) : Does P o a w (PostE nl C w x p) := by
  obtain ⟨h1, rfl⟩ := h
  exact h1.mono fun v w' h => h.e
theorem opE {o : Oper} {iop : IOp} {x : AV} {p : Option Pend} (hok : okOp P R o.op iop = true) (hW : iop.isW = false) (hni : iop.isIni = false) (hce : CallOk P ce) (hbd : HasBody P ce) (hg : Good C w)
    (hupX : ∀ b u B, uptoX σ b u = some B → ∃ id, C.own b u = some (B, id)) (hb : iop.isP = false → (∀ f as, iop ≠ .can f as) → ∀ u, ¬ C.lim nl u) (hfr : ∀ l, p = some (.news l) → ∀ b u, nl ≤ b → b < nl + l.length → ¬ C.lim b u)
    (hgr : ∀ b u B cs, upto σ b u = some B → p = some (.grow b cs) → grows b ps = false → (∀ n, u < n → ¬ C.lim b n) ∧ ∀ u' B' id', C.own b u' = some (B', id') → u' = u)
    (hR : ∀ x y, R x y = true → VR C w.heap (r y) (a.eval x)) (hr0 : r (.c (.int 0)) = .int 0) (he : ev ce σ nl ps r iop = some (x, p)) : Does P o a w (PostE nl C w x p) := by
  by_cases hP : iop.isP = true
  · obtain ⟨h1, rfl⟩ := opP hok hP hni hce hbd hg hR hr0 he
    exact h1.mono fun v w' h => h.e
  have hP' : iop.isP = false := by simpa using hP
  have hup : ∀ b u B, upto σ b u = some B → ∃ id, C.own b u = some (B, id) := fun b u B h => hupX b u B (zHDl h)
  have hb0 := hb hP'
  clear hb
  obtain ⟨dst, op, type, pos, after, guard⟩ := o
  have pl : ∀ {x' : AV} {p' : Option Pend}, Plain P a.eval ⟨dst, op, type, pos, after, guard⟩ w C w.heap x' ∧ p' = none → Does P ⟨dst, op, type, pos, after, guard⟩ a w (PostE nl C w x' p') := fun h => by
    obtain ⟨h1, rfl⟩ := h
    exact (h1.does hg).mono fun v w' h => h.e
  simp only [okOp] at hok
  split at hok
  all_goals first
    | (exfalso; exact hP rfl)
    | (exfalso; simp [IOp.isW] at hW; done)
    | skip
  · exact dn_nl rfl hok hg (hb0 (by simp)) he
  · simp only [Bool.and_eq_true, Bool.or_eq_true] at hok
    exact pl (zeq1 (a := a) rfl rfl hok.1.1 hok.1.2 hup (hok.2.imp (fun h => ⟨h.1, hR _ _ h.2⟩) (fun h => ⟨h.1, hR _ _ h.2⟩)) he)
  · simp only [Bool.and_eq_true] at hok
    exact z4UK rfl hg (hb0 (by simp)) (hR _ _ hok.2) he
  · simp only [Bool.and_eq_true] at hok
    exact z8DQ rfl hok.1 hg (hb0 (by simp)) he
  · simp only [Bool.and_eq_true] at hok
    exact pl (pl_ld rfl hok.1 hg hup (hR _ _ hok.2) he)
  · simp only [Bool.and_eq_true] at hok
    obtain ⟨⟨⟨h1, h2⟩, h3⟩, h4⟩ := hok
    split at h1
    · rename_i e ht
      simp only [Bool.and_eq_true, decide_eq_true_eq] at h1
      exact zCeM rfl ht h1.1.1 h1.1.2 h1.2 h2 h3 hg (hb0 (by simp)) (zscY hR h4) he
    · simp at h1
  · simp only [Bool.and_eq_true] at hok
    obtain ⟨⟨⟨h1, h2⟩, h3⟩, h4⟩ := hok
    split at h1
    · rename_i e ht
      exact pl (zjQa rfl ht h1 hup (hR _ _ h2) h3 h4 hR he)
    · simp at h1
  · simp only [Bool.and_eq_true] at hok
    obtain ⟨⟨h1, h2⟩, h3⟩ := hok
    split at h1
    · rename_i e ht
      simp only [Bool.and_eq_true] at h1
      exact z5Wk rfl ht h1.1.1 h1.1.2 h1.2 hg (hb0 (by simp)) (hR _ _ h2) (hR _ _ h3) he
    · simp at h1
  · split at hok
    · rename_i ha hat
      simp only [Bool.and_eq_true] at hok
      obtain ⟨⟨⟨h1, h2⟩, h3⟩, h4⟩ := hok
      split at h1
      · rename_i e ht
        simp only [Bool.and_eq_true] at h1
        exact z3u3 rfl rfl ha hat ht h2 h1.1.1 h1.1.2 h1.2 hg hup (hb0 (by simp)) hgr (hR _ _ h3) (hR _ _ h4) he
      · simp at h1
    · simp at hok
  · simp only [Bool.and_eq_true, beq_iff_eq] at hok
    obtain ⟨⟨rfl, h1⟩, h2⟩ := hok
    exact zqod (zdwf hce rfl rfl h1 hg hup (zscY hR h2) he)
  · simp only [Bool.and_eq_true, beq_iff_eq] at hok
    obtain ⟨⟨rfl, h1⟩, h2⟩ := hok
    exact zmSE hce rfl rfl h1 hg hfr (zscY hR h2) he
  · exact z93d rfl hg (hb0 (by simp)) he
  · simp only [Bool.and_eq_true, beq_iff_eq] at hok
    obtain ⟨⟨⟨h1, rfl⟩, h2⟩, h3⟩ := hok
    split at h1
    · rename_i ht
      simp only [Bool.and_eq_true] at h1
      exact pl (z5xC rfl ht h1.1 h1.2 hg hupX (hR _ _ h2) (hR _ _ h3) he)
    · simp at h1
  · split at hok
    · rename_i ha hat
      simp only [Bool.and_eq_true] at hok
      obtain ⟨h1, h2⟩ := hok
      split at h1
      · rename_i ht
        exact pl (zSTt rfl rfl ha hat ht hg hupX (hR _ _ h2) he)
      · simp at h1
    · simp at hok
  · simp only [Bool.and_eq_true] at hok
    exact pl (zhvk rfl hok.1 hg hup (hR _ _ hok.2) he)
  · simp at hok
end
end Ab
