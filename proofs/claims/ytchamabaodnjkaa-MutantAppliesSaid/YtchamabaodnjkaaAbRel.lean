/- What an abstract value stands for in a world of the model, and that it goes on to do so. Condition: none. -/
import Derived.Calls
import Derived.Laws.Sem
import Derived.Test.YtchamabaodnjkaaAbCore
set_option linter.all false
namespace Ab
open Go

def kindOf : Nat → Option IntKind
  | 0 => some .i8 | 1 => some .i16 | 2 => some .i32 | 4 => some .u8 | 5 => some .u16 | 6 => some .u32 | 7 => some .u64
  | _ => none

/-- What is known of memory: the blocks that nobody writes; the owned blocks, by number and by how many cells are in use, with the block that each lies in; which numbers and counts were spoken of. -/
structure Ctx where
  I : Nat → Prop
  own : Nat → Nat → Option (Blk × Nat)
  lim : Nat → Nat → Prop

mutual
def VR (C : Ctx) (H : Array Obj) : AV → Value → Prop
  | .int n, v => v = .int .i64 n
  | .ik k n, v => ∃ K, kindOf k = some K ∧ v = .int K n
  | .bool b, v => v = .bool b
  | .str s, v => v = .string ⟨s.toArray⟩
  | .agg l, v => ∃ vs : List Value, v = .agg vs.toArray ∧ VRL C H l vs ∧ ∀ y, y ∈ vs → y.oneCell' = true
  | .tup l, v => ∃ vs : List Value, v = .tuple vs.toArray ∧ VRL C H l vs
  | .snil, v => v = .slice none 0 0
  | .imm nn l, v => noLocs l = true ∧ ((l = [] ∧ ∃ a : Option Addr, v = .slice a 0 0 ∧ (nn = true → a.isSome = true)) ∨
      ∃ blk off cap st c el fz, v = .slice (some ⟨blk, off, none⟩) l.length cap ∧ l.length ≤ cap ∧ C.I blk ∧ H[blk]? = some (.cells c el fz) ∧ VRI C H c st l off)
  | .arr l, v => ∃ blk off st c el fz, v = .slice (some ⟨blk, off, none⟩) l.length l.length ∧ C.I blk ∧ H[blk]? = some (.cells c el fz) ∧ VRI C H c st l off
  | .sl b u off len, v => (∃ a c, v = .slice a len c ∧ len ≤ c ∧ (0 < len → ∃ blk, a = some ⟨blk, off, none⟩)) ∧ C.lim b u ∧ ∀ B id, C.own b u = some (B, id) →
      match B.st with
      | .dead => True
      | .nul => off = 0 ∧ len = 0 ∧ v = .slice none 0 0
      | .live => ∃ c el o cap, H[id]? = some (.cells c el (0, 0)) ∧ v = .slice (some ⟨id, o, none⟩) len cap ∧ (0 < cap → o = off) ∧ len ≤ cap ∧ off + cap * kst B.k = c.size
  | .pnil, v => v = .pointer none
  | .pimm x, v => noLoc x = true ∧ ∃ blk off c el fz y, v = .pointer (some ⟨blk, off, none⟩) ∧ C.I blk ∧ H[blk]? = some (.cells c el fz) ∧ VR C H x y ∧ ∀ j, j < y.cells.size → c[off + j]? = y.cells[j]?
  | .ptr b u off, v => (∃ blk, v = .pointer (some ⟨blk, off, none⟩)) ∧ C.lim b u ∧ ∀ B id, C.own b u = some (B, id) → B.st = .live → v = .pointer (some ⟨id, off, none⟩)
  | .fnil, v => v = .nilFunc
  | .func f l, v => ∃ vs : List Value, v = .func (.func f) #[] vs.toArray ∧ VRL C H l vs
  | .inil, v => v = .nilIface
  | .iface t x, v => ∃ y, v = .iface t y ∧ VR C H x y
  | .und, _ => True
def VRL (C : Ctx) (H : Array Obj) : List AV → List Value → Prop
  | [], vs => vs = []
  | x :: r, vs => ∃ v s, vs = v :: s ∧ VR C H x v ∧ VRL C H r s
/-- The elements lie in these cells from off on, st cells each. -/
def VRI (C : Ctx) (H : Array Obj) (c : Array Value) (st : Nat) : List AV → Nat → Prop
  | [], _ => True
  | x :: r, off => (∃ v, VR C H x v ∧ v.cells.size = st ∧ ∀ j, j < st → c[off + j]? = v.cells[j]?) ∧ VRI C H c st r (off + st)
end

/-- What was known goes on to hold. -/
structure Evol (C : Ctx) (H : Array Obj) (C' : Ctx) (H' : Array Obj) : Prop where
  imm : ∀ k, C.I k → C'.I k
  same : ∀ k, C.I k → H'[k]? = H[k]?
  lim : ∀ b u, C.lim b u → C'.lim b u
  own : ∀ b u B' id, C.lim b u → C'.own b u = some (B', id) → ∃ B, C.own b u = some (B, id) ∧ B.st = B'.st ∧ B.k = B'.k ∧
    ∀ c el, H[id]? = some (.cells c el (0, 0)) → ∃ c', H'[id]? = some (.cells c' el (0, 0)) ∧ c'.size = c.size

theorem Evol.refl (C : Ctx) (H : Array Obj) : Evol C H C H :=
  ⟨fun _ h => h, fun _ _ => rfl, fun _ _ h => h, fun _ _ B' _ _ h => ⟨B', h, rfl, rfl, fun c _ hc => ⟨c, hc, rfl⟩⟩⟩

theorem Evol.trans {C C' C'' : Ctx} {H H' H'' : Array Obj} (h : Evol C H C' H') (k : Evol C' H' C'' H'') : Evol C H C'' H'' := by
  refine ⟨fun x hx => k.imm x (h.imm x hx), fun x hx => (k.same x (h.imm x hx)).trans (h.same x hx), fun b u hl => k.lim b u (h.lim b u hl), fun b u B'' id hl ho => ?_⟩
  obtain ⟨B', h1, h2, h3, h4⟩ := k.own b u B'' id (h.lim b u hl) ho
  obtain ⟨B, g1, g2, g3, g4⟩ := h.own b u B' id hl h1
  refine ⟨B, g1, g2.trans h2, g3.trans h3, fun c el hc => ?_⟩
  obtain ⟨c', e1, e2⟩ := g4 c el hc
  obtain ⟨c'', f1, f2⟩ := h4 c' el e1
  exact ⟨c'', f1, f2.trans e2⟩

section
variable {C C' : Ctx} {H H' : Array Obj}
mutual
theorem VR.mono (h : Evol C H C' H') : ∀ (x : AV) (v : Value), VR C H x v → VR C' H' x v
  | .int _, _, hv => hv
  | .ik _ _, _, hv => hv
  | .bool _, _, hv => hv
  | .str _, _, hv => hv
  | .agg l, _, ⟨vs, e, hl, hc⟩ => ⟨vs, e, VRL.mono h l vs hl, hc⟩
  | .tup l, _, ⟨vs, e, hl⟩ => ⟨vs, e, VRL.mono h l vs hl⟩
  | .snil, _, hv => hv
  | .imm nn l, v, hv => by
    unfold VR at hv ⊢
    obtain ⟨hn, hv⟩ := hv
    refine ⟨hn, ?_⟩
    rcases hv with hv | ⟨b, off, cap, st, c, el, fz, e, hc, hI, hH, hl⟩
    · exact .inl hv
    · exact .inr ⟨b, off, cap, st, c, el, fz, e, hc, h.imm b hI, (h.same b hI).trans hH, VRI.mono h c st l off hl⟩
  | .arr l, v, hv => by
    unfold VR at hv ⊢
    obtain ⟨b, off, st, c, el, fz, e, hI, hH, hl⟩ := hv
    exact ⟨b, off, st, c, el, fz, e, h.imm b hI, (h.same b hI).trans hH, VRI.mono h c st l off hl⟩
  | .sl b u off len, v, hv => by
    unfold VR at hv ⊢
    obtain ⟨h0, h1, h3⟩ := hv
    refine ⟨h0, h.lim b u h1, fun B' id ho => ?_⟩
    obtain ⟨B, g1, g2, g3, g4⟩ := h.own b u B' id h1 ho
    have := h3 B id g1
    rw [g2, g3] at this
    revert this
    cases B'.st with
    | dead => exact fun _ => trivial
    | nul => exact fun x => x
    | live =>
      rintro ⟨c, el, o, cap, e1, e2, e3, e4, e5⟩
      obtain ⟨c', f1, f2⟩ := g4 c el e1
      exact ⟨c', el, o, cap, f1, e2, e3, e4, e5.trans f2.symm⟩
  | .pnil, _, hv => hv
  | .pimm x, v, hv => by
    unfold VR at hv ⊢
    obtain ⟨hn, b, off, c, el, fz, y, e, hI, hH, hx, hj⟩ := hv
    exact ⟨hn, b, off, c, el, fz, y, e, h.imm b hI, (h.same b hI).trans hH, VR.mono h x y hx, hj⟩
  | .ptr b u off, v, hv => by
    unfold VR at hv ⊢
    obtain ⟨h0, h1, h3⟩ := hv
    refine ⟨h0, h.lim b u h1, fun B' id ho hl => ?_⟩
    obtain ⟨B, g1, g2, g3, g4⟩ := h.own b u B' id h1 ho
    exact h3 B id g1 (g2.trans hl)
  | .fnil, _, hv => hv
  | .func _ l, _, ⟨vs, e, hl⟩ => ⟨vs, e, VRL.mono h l vs hl⟩
  | .inil, _, hv => hv
  | .iface _ x, _, ⟨y, e, hx⟩ => ⟨y, e, VR.mono h x y hx⟩
  | .und, _, _ => trivial
theorem VRL.mono (h : Evol C H C' H') : ∀ (l : List AV) (vs : List Value), VRL C H l vs → VRL C' H' l vs
  | [], _, hv => hv
  | x :: r, _, ⟨v, s, e, hx, hr⟩ => ⟨v, s, e, VR.mono h x v hx, VRL.mono h r s hr⟩
theorem VRI.mono (h : Evol C H C' H') (c : Array Value) (st : Nat) : ∀ (l : List AV) (off : Nat), VRI C H c st l off → VRI C' H' c st l off
  | [], _, _ => trivial
  | x :: r, off, ⟨⟨v, hx, e, hj⟩, hr⟩ => ⟨⟨v, VR.mono h x v hx, e, hj⟩, VRI.mono h c st r (off + st) hr⟩
end

/-- What is without a reference to an owned block hangs on the unwritten blocks alone. -/
structure ISub (C : Ctx) (H : Array Obj) (C' : Ctx) (H' : Array Obj) : Prop where
  imm : ∀ k, C.I k → C'.I k
  same : ∀ k, C.I k → H'[k]? = H[k]?
mutual
theorem VR.free (h : ISub C H C' H') : ∀ (x : AV) (v : Value), noLoc x = true → VR C H x v → VR C' H' x v
  | .int _, _, _, hv => hv
  | .ik _ _, _, _, hv => hv
  | .bool _, _, _, hv => hv
  | .str _, _, _, hv => hv
  | .agg l, _, hn, ⟨vs, e, hl, hc⟩ => ⟨vs, e, VRL.free h l vs (by simpa [noLoc] using hn) hl, hc⟩
  | .tup l, _, hn, _ => by simp [noLoc] at hn
  | .snil, _, _, hv => hv
  | .imm nn l, v, _, hv => by
    unfold VR at hv ⊢
    obtain ⟨hn, hv⟩ := hv
    refine ⟨hn, ?_⟩
    rcases hv with hv | ⟨b, off, cap, st, c, el, fz, e, hc, hI, hH, hl⟩
    · exact .inl hv
    · exact .inr ⟨b, off, cap, st, c, el, fz, e, hc, h.imm b hI, (h.same b hI).trans hH, VRI.free h c st l off hn hl⟩
  | .arr l, _, hn, _ => by simp [noLoc] at hn
  | .sl .., _, hn, _ => by simp [noLoc] at hn
  | .pnil, _, _, hv => hv
  | .pimm x, v, _, hv => by
    unfold VR at hv ⊢
    obtain ⟨hn, b, off, c, el, fz, y, e, hI, hH, hx, hj⟩ := hv
    exact ⟨hn, b, off, c, el, fz, y, e, h.imm b hI, (h.same b hI).trans hH, VR.free h x y hn hx, hj⟩
  | .ptr .., _, hn, _ => by simp [noLoc] at hn
  | .fnil, _, _, hv => hv
  | .func _ l, _, hn, ⟨vs, e, hl⟩ => ⟨vs, e, VRL.free h l vs (by simpa [noLoc] using hn) hl⟩
  | .inil, _, _, hv => hv
  | .iface _ x, _, hn, ⟨y, e, hx⟩ => ⟨y, e, VR.free h x y (by simpa [noLoc] using hn) hx⟩
  | .und, _, hn, _ => by simp [noLoc] at hn
theorem VRL.free (h : ISub C H C' H') : ∀ (l : List AV) (vs : List Value), noLocs l = true → VRL C H l vs → VRL C' H' l vs
  | [], _, _, hv => hv
  | x :: r, _, hn, ⟨v, s, e, hx, hr⟩ => by
    simp only [noLocs, Bool.and_eq_true] at hn
    exact ⟨v, s, e, VR.free h x v hn.1 hx, VRL.free h r s hn.2 hr⟩
theorem VRI.free (h : ISub C H C' H') (c : Array Value) (st : Nat) : ∀ (l : List AV) (off : Nat), noLocs l = true → VRI C H c st l off → VRI C' H' c st l off
  | [], _, _, _ => trivial
  | x :: r, off, hn, ⟨⟨v, hx, e, hj⟩, hr⟩ => by
    simp only [noLocs, Bool.and_eq_true] at hn
    exact ⟨⟨v, VR.free h x v hn.1 hx, e, hj⟩, VRI.free h c st r (off + st) hn.2 hr⟩
end
end

/-! ### Lists and cells -/
section
variable {C : Ctx} {H : Array Obj}
theorem VRL.length : ∀ {l : List AV} {vs : List Value}, VRL C H l vs → vs.length = l.length
  | [], _, h => by rw [show _ = [] from h]; rfl
  | _ :: _, _, ⟨_, _, e, _, hr⟩ => by rw [e]; simp [VRL.length hr]
theorem VRL.get : ∀ {l : List AV} {vs : List Value}, VRL C H l vs → ∀ (i : Nat) (x : AV), l[i]? = some x → ∃ v, vs[i]? = some v ∧ VR C H x v
  | [], _, _, i, x, hi => by simp at hi
  | y :: r, _, ⟨v, s, e, hx, hr⟩, 0, x, hi => by
    simp at hi; subst hi; rw [e]; exact ⟨v, rfl, hx⟩
  | y :: r, _, ⟨v, s, e, hx, hr⟩, i + 1, x, hi => by
    rw [e]; exact VRL.get hr i x (by simpa using hi)
theorem VRL.append : ∀ {l m : List AV} {vs ws : List Value}, VRL C H l vs → VRL C H m ws → VRL C H (l ++ m) (vs ++ ws)
  | [], _, _, _, h, k => by rw [show _ = [] from h]; exact k
  | _ :: _, _, _, _, ⟨v, s, e, hx, hr⟩, k => by rw [e]; exact ⟨v, s ++ _, rfl, hx, VRL.append hr k⟩
theorem VRL.drop : ∀ (n : Nat) {l : List AV} {vs : List Value}, VRL C H l vs → VRL C H (l.drop n) (vs.drop n)
  | 0, _, _, h => by simpa using h
  | n + 1, [], _, h => by rw [show _ = [] from h]; simp [VRL]
  | n + 1, _ :: _, _, ⟨v, s, e, hx, hr⟩ => by rw [e]; simpa using VRL.drop n hr
theorem VRL.take : ∀ (n : Nat) {l : List AV} {vs : List Value}, VRL C H l vs → VRL C H (l.take n) (vs.take n)
  | 0, _, _, h => by simp [VRL]
  | n + 1, [], _, h => by rw [show _ = [] from h]; simp [VRL]
  | n + 1, _ :: _, _, ⟨v, s, e, hx, hr⟩ => by rw [e]; exact ⟨v, s.take n, rfl, hx, VRL.take n hr⟩
/-- Known, and one value. -/
def Solid (x : AV) : Prop := x ≠ .und ∧ ∀ l, x ≠ .tup l
theorem one_cells {v : Value} (h : v.oneCell' = true) : v.cells = #[v] := by
  cases v <;> first | rfl | simp [Value.oneCell'] at h
/-- A value that is no struct has one cell. -/
theorem VR.leaf {x : AV} {v : Value} (hx : ∀ l, x ≠ .agg l) (hu : Solid x) (h : VR C H x v) : v.oneCell' = true := by
  cases x with
  | agg l => exact absurd rfl (hx l)
  | und => exact absurd rfl hu.1
  | tup l => exact absurd rfl (hu.2 l)
  | _ =>
    unfold VR at h
    first
      | (rw [h]; rfl)
      | (obtain ⟨⟨_, h⟩, _⟩ := h; rw [h]; rfl)
      | (obtain ⟨_, _, h⟩ := h; rw [h]; rfl)
      | (obtain ⟨_, h, _⟩ := h; rw [h]; rfl)
      | (obtain ⟨⟨_, _, h, _⟩, _⟩ := h; rw [h]; rfl)
      | (obtain ⟨⟨_, h⟩, _⟩ := h; rw [h]; rfl)
      | (obtain ⟨_, h | h⟩ := h
         · obtain ⟨_, _, h, _⟩ := h; rw [h]; rfl
         · obtain ⟨_, _, _, _, _, _, _, h, _⟩ := h; rw [h]; rfl)
      | (obtain ⟨_, _, _, _, _, _, h, _⟩ := h; rw [h]; rfl)
      | (obtain ⟨_, _, _, _, _, _, _, h, _⟩ := h; rw [h]; rfl)
/-- The cells of a value are those of its abstract value. -/
theorem VR.cells {x : AV} {v : Value} (hu : Solid x) (h : VR C H x v) : VRL C H x.cells v.cells.toList ∧ ∀ y, y ∈ v.cells.toList → y.oneCell' = true := by
  by_cases hx : ∃ l, x = .agg l
  · obtain ⟨l, rfl⟩ := hx
    unfold VR at h
    obtain ⟨vs, rfl, hl, hc⟩ := h
    exact ⟨by simpa [AV.cells, Value.cells] using hl, by simpa [Value.cells] using hc⟩
  · have hx' : ∀ l, x ≠ .agg l := fun l e => hx ⟨l, e⟩
    have hlf := VR.leaf hx' hu h
    rw [one_cells hlf]
    have : x.cells = [x] := by
      cases x <;> first | rfl | exact absurd rfl (hx' _)
    rw [this]
    exact ⟨⟨v, [], rfl, h, rfl⟩, by simp [hlf]⟩
theorem VR.size {x : AV} {v : Value} (hu : Solid x) (h : VR C H x v) : v.cells.size = x.cells.length := by
  have := VRL.length (VR.cells hu h).1
  simpa using this
end

/-! ### What is sure of memory, and what a run may do to it -/
def owned (C : Ctx) (k : Nat) : Prop := ∃ b u B, C.own b u = some (B, k) ∧ B.st = .live

structure Good (C : Ctx) (w : World) : Prop where
  I : ∀ k, C.I k → k < w.heap.size
  ent : ∀ b u B id, C.own b u = some (B, id) → C.lim b u ∧ u = B.cells.length ∧ (B.st = .nul → B.cells = []) ∧ B.st ≠ .dead
  live : ∀ b u B id, C.own b u = some (B, id) → B.st = .live → ¬ C.I id ∧ ∃ (c : Array Value) (el : TypeId), w.heap[id]? = some (.cells c el (0, 0)) ∧ B.cells.length ≤ c.size ∧
    ∀ (i : Nat) (x : AV), B.cells[i]? = some x → ∃ y, c[i]? = some y ∧ VR C w.heap x y ∧ y.oneCell' = true
  apart : ∀ b u B id b' u' B' id', C.own b u = some (B, id) → B.st = .live → C.own b' u' = some (B', id') → B'.st = .live → b ≠ b' → id ≠ id'

theorem Good.lt {C : Ctx} {w : World} (h : Good C w) {k : Nat} (hk : owned C k) : k < w.heap.size := by
  obtain ⟨b, u, B, ho, hl⟩ := hk
  obtain ⟨_, c, el, hc, _⟩ := h.live b u B k ho hl
  exact (Array.getElem?_eq_some_iff.1 hc).1

theorem Good.notI {C : Ctx} {w : World} (h : Good C w) {k : Nat} (hk : owned C k) : ¬ C.I k := by
  obtain ⟨b, u, B, ho, hl⟩ := hk
  exact (h.live b u B k ho hl).1

structure Step (C : Ctx) (w : World) (C' : Ctx) (w' : World) : Prop where
  ev : Evol C w.heap C' w'.heap
  size : w.heap.size ≤ w'.heap.size
  frame : ∀ k, k < w.heap.size → ¬ owned C k → w'.heap[k]? = w.heap[k]?
  ownOrig : ∀ k, owned C' k → owned C k ∨ w.heap.size ≤ k
  immOrig : ∀ k, C'.I k → C.I k ∨ owned C k ∨ w.heap.size ≤ k
  os : w'.os = w.os
  tape : w'.tape = w.tape ∧ w.drawn ≤ w'.drawn
  output : w'.output = w.output

theorem Step.refl (C : Ctx) (w : World) : Step C w C w :=
  ⟨Evol.refl _ _, Nat.le_refl _, fun _ _ _ => rfl, fun _ h => .inl h, fun _ h => .inl h, rfl, ⟨rfl, Nat.le_refl _⟩, rfl⟩

theorem Step.trans {C C' C'' : Ctx} {w w' w'' : World} (h : Step C w C' w') (k : Step C' w' C'' w'') : Step C w C'' w'' := by
  refine ⟨h.ev.trans k.ev, Nat.le_trans h.size k.size, fun x hx ho => ?_, fun x hx => ?_, fun x hx => ?_, k.os.trans h.os, ⟨k.tape.1.trans h.tape.1, Nat.le_trans h.tape.2 k.tape.2⟩, k.output.trans h.output⟩
  · rw [k.frame x (Nat.lt_of_lt_of_le hx h.size) (fun h' => (h.ownOrig x h').elim ho (fun h'' => absurd hx (Nat.not_lt.2 h'')))]
    exact h.frame x hx ho
  · rcases k.ownOrig x hx with h' | h'
    · exact h.ownOrig x h'
    · exact .inr (Nat.le_trans h.size h')
  · rcases k.immOrig x hx with h' | h' | h'
    · exact h.immOrig x h'
    · exact .inr (h.ownOrig x h')
    · exact .inr (.inr (Nat.le_trans h.size h'))

/-! ### A list of blocks as what is known -/
def ctxOf (σ : List Blk) (ids : Nat → Nat) (I : Nat → Prop) : Ctx where
  I := I
  own := fun b u => match blk σ b with
    | some B => match B.st with
      | .dead => none
      | _ => if B.cells.length = u then some (B, ids b) else none
    | none => none
  lim := fun b u => ∃ B, blk σ b = some B ∧ u ≤ B.cells.length

theorem blk_eq (σ : List Blk) : ∀ b, blk σ b = σ[b]? := by
  induction σ with
  | nil => intro b; rfl
  | cons x r ih => intro b; cases b <;> simp [blk, ih]
theorem elm_eq (l : List AV) : ∀ b, elm l b = l[b]? := by
  induction l with
  | nil => intro b; rfl
  | cons x r ih => intro b; cases b <;> simp [elm, ih]
theorem setB_eq (σ : List Blk) : ∀ b y, setB σ b y = σ.set b y := by
  induction σ with
  | nil => intro b y; rfl
  | cons x r ih => intro b y; cases b <;> simp [setB, ih]
theorem setN_eq (l : List AV) : ∀ b y, setN l b y = l.set b y := by
  induction l with
  | nil => intro b y; rfl
  | cons x r ih => intro b y; cases b <;> simp [setN, ih]
theorem nth_eq (l : List AV) : ∀ b, nth l b = l[b]?.getD .und := by
  induction l with
  | nil => intro b; rfl
  | cons x r ih => intro b; cases b <;> simp [nth, ih]

theorem upto_own {σ : List Blk} {b u : Nat} {B : Blk} (ids : Nat → Nat) (I : Nat → Prop) (h : upto σ b u = some B) : (ctxOf σ ids I).own b u = some (B, ids b) := by
  unfold upto at h
  simp only [ctxOf]
  cases hb : blk σ b with
  | none => simp [hb] at h
  | some B' =>
    simp only [hb] at h ⊢
    cases hs : B'.st <;> simp only [hs] at h ⊢ <;> first
      | (by_cases hu : B'.cells.length = u
         · simp [hu] at h; subst h; simp [hu]
         · simp [hu] at h)
      | simp at h

theorem own_upto {σ : List Blk} {b u id : Nat} {B : Blk} {ids : Nat → Nat} {I : Nat → Prop} (h : (ctxOf σ ids I).own b u = some (B, id)) : upto σ b u = some B ∧ blk σ b = some B ∧ id = ids b := by
  unfold upto
  simp only [ctxOf] at h
  cases hb : blk σ b with
  | none => simp [hb] at h
  | some B' =>
    simp only [hb] at h ⊢
    cases hs : B'.st <;> simp only [hs] at h ⊢ <;> first
      | (by_cases hu : B'.cells.length = u
         · simp [hu] at h; obtain ⟨rfl, rfl⟩ := h; simp [hu]
         · simp [hu] at h)
      | simp at h

/-! ### Forgetting whether an empty slice is nil -/
theorem VR.wk1 {C : Ctx} {H : Array Obj} {x : AV} {v : Value} (h : VR C H x v) : VR C H (Ab.wk1 x) v := by
  cases x with
  | snil => unfold VR at h; unfold Ab.wk1 VR; exact ⟨rfl, .inl ⟨rfl, none, h, by simp⟩⟩
  | imm nn l =>
    unfold VR at h; unfold Ab.wk1 VR
    refine ⟨h.1, ?_⟩
    rcases h.2 with h' | h'
    · obtain ⟨h1, a, h2, _⟩ := h'; exact .inl ⟨h1, a, h2, by simp⟩
    · exact .inr h'
  | _ => exact h
theorem VRL.wk1 {C : Ctx} {H : Array Obj} : ∀ {l : List AV} {vs : List Value}, VRL C H l vs → VRL C H (l.map Ab.wk1) vs
  | [], _, h => h
  | _ :: _, _, ⟨v, s, e, hx, hr⟩ => ⟨v, s, e, hx.wk1, VRL.wk1 hr⟩
theorem VR.wk {C : Ctx} {H : Array Obj} {x : AV} {v : Value} (h : VR C H x v) : VR C H (Ab.wk x) v := by
  cases x with
  | agg l => unfold VR at h; obtain ⟨vs, e, hl, hc⟩ := h; unfold Ab.wk VR; exact ⟨vs, e, hl.wk1, hc⟩
  | _ => exact VR.wk1 h
theorem VRL.wk {C : Ctx} {H : Array Obj} : ∀ {l : List AV} {vs : List Value}, VRL C H l vs → VRL C H (l.map Ab.wk) vs
  | [], _, h => h
  | _ :: _, _, ⟨v, s, e, hx, hr⟩ => ⟨v, s, e, hx.wk, VRL.wk hr⟩
theorem noLoc_wk1 {x : AV} (h : noLoc x = true) : noLoc (wk1 x) = true := by cases x <;> simp_all [wk1, noLoc]
theorem noLocs_wk1 : ∀ {l : List AV}, noLocs l = true → noLocs (l.map wk1) = true
  | [], _ => rfl
  | _ :: _, h => by
    simp only [noLocs, Bool.and_eq_true, List.map_cons] at h ⊢
    exact ⟨noLoc_wk1 h.1, noLocs_wk1 h.2⟩
theorem noLoc_wk {x : AV} (h : noLoc x = true) : noLoc (wk x) = true := by
  cases x with
  | agg l => simp only [noLoc, wk] at h ⊢; exact noLocs_wk1 h
  | _ => exact noLoc_wk1 h
theorem noLocs_wk : ∀ {l : List AV}, noLocs l = true → noLocs (l.map wk) = true
  | [], _ => rfl
  | _ :: _, h => by
    simp only [noLocs, Bool.and_eq_true, List.map_cons] at h ⊢
    exact ⟨noLoc_wk h.1, noLocs_wk h.2⟩
end Ab
