/- What an abstract value stands for in a world of the model, and that it goes on to do so. What an owned value reads as, once nobody writes it any more. The check that a line of the small language is an operation of the program. What the model's operations do, in the form that the soundness of the small language wants. The operations that yield a value and turn nothing. Building a struct and taking a part of a slice. Condition: none. -/
import Derived.Calls
import Derived.Laws.Sem
import Derived.Test.YtkchnhfeebkogaaAbCore
import Derived.Orders
import Derived.ChangeKeysEq
import Derived.Laws.Cells
import Derived.Laws.NewBlocks
import Derived.IntWalk
import Derived.Laws.StructEq
set_option linter.all false
namespace Ab
open Go
def kindOf : Nat → Option IntKind
  | 0 => some .i8 | 1 => some .i16 | 2 => some .i32 | 4 => some .u8 | 5 => some .u16 | 6 => some .u32 | 7 => some .u64
  | _ => none
structure Ctx where
  I : Nat → Prop
  own : Nat → Nat → Option (Blk × Nat)
  lim : Nat → Nat → Prop
mutual
def VR (C : Ctx) (H : Array Obj) : AV → Value → Prop
  | .int n, v => v = .int .i64 n
  | .ik k n, v => ∃ K, kindOf k = some K ∧ v = .int K n
  | .bool b, v => v = .bool b
  | .str s, v => v = .string ⟨s.toArray⟩
  | .agg l, v => ∃ vs : List Value, v = .agg vs.toArray ∧ VRL C H l vs ∧ ∀ y, y ∈ vs → y.oneCell' = true
  | .tup l, v => ∃ vs : List Value, v = .tuple vs.toArray ∧ VRL C H l vs
  | .snil, v => v = .slice none 0 0
  | .imm nn l, v => noLocs l = true ∧ ((l = [] ∧ ∃ a : Option Addr, v = .slice a 0 0 ∧ (nn = true → a.isSome = true)) ∨
      ∃ blk off cap st c el fz, v = .slice (some ⟨blk, off, none⟩) l.length cap ∧ l.length ≤ cap ∧ C.I blk ∧ H[blk]? = some (.cells c el fz) ∧ VRI C H c st l off)
  | .arr l, v => ∃ blk off st c el fz, v = .slice (some ⟨blk, off, none⟩) l.length l.length ∧ C.I blk ∧ H[blk]? = some (.cells c el fz) ∧ VRI C H c st l off
  | .sl b u off len, v => (∃ a c, v = .slice a len c ∧ len ≤ c ∧ (0 < len → ∃ blk, a = some ⟨blk, off, none⟩)) ∧ C.lim b u ∧ ∀ B id, C.own b u = some (B, id) →
      match B.st with
      | .dead => True
      | .map _ => True
      | .nul => off = 0 ∧ len = 0 ∧ v = .slice none 0 0
      | .live => ∃ c el o cap, H[id]? = some (.cells c el (0, 0)) ∧ v = .slice (some ⟨id, o, none⟩) len cap ∧ (0 < cap → o = off) ∧ len ≤ cap ∧ off + cap * kst B.k = c.size
  | .pnil, v => v = .pointer none
  | .pimm x, v => noLoc x = true ∧ ∃ blk off c el fz y, v = .pointer (some ⟨blk, off, none⟩) ∧ C.I blk ∧ H[blk]? = some (.cells c el fz) ∧ VR C H x y ∧ ∀ j, j < y.cells.size → c[off + j]? = y.cells[j]?
  | .ptr b u off, v => (∃ blk, v = .pointer (some ⟨blk, off, none⟩)) ∧ C.lim b u ∧ ∀ B id, C.own b u = some (B, id) → B.st = .live → v = .pointer (some ⟨id, off, none⟩)
  | .fnil, v => v = .nilFunc
  | .func f l, v => ∃ vs : List Value, v = .func (.func f) #[] vs.toArray ∧ VRL C H l vs
  | .inil, v => v = .nilIface
  | .iface t x, v => ∃ y, v = .iface t y ∧ VR C H x y
  | .mapr b, v => (∃ a, v = .map (some a)) ∧ C.lim b 0 ∧ ∀ B id, C.own b 0 = some (B, id) → B.st.isMap = true → v = .map (some id)
  | .und, _ => True
def VRL (C : Ctx) (H : Array Obj) : List AV → List Value → Prop
  | [], vs => vs = []
  | x :: r, vs => ∃ v s, vs = v :: s ∧ VR C H x v ∧ VRL C H r s
def VRI (C : Ctx) (H : Array Obj) (c : Array Value) (st : Nat) : List AV → Nat → Prop
  | [], _ => True
  | x :: r, off => (∃ v, VR C H x v ∧ v.cells.size = st ∧ ∀ j, j < st → c[off + j]? = v.cells[j]?) ∧ VRI C H c st r (off + st)
end
theorem zm3Y {s t : BSt} (h : s.shape = t.shape) (k : t = .live) : s = .live := by
  subst k; cases s <;> simp_all [BSt.shape]
theorem zwRB {s t : BSt} (h : s.shape = t.shape) : s.lies = t.lies := by
  cases s <;> cases t <;> simp_all [BSt.shape, BSt.lies]
theorem zcn5 {s t : BSt} (h : s.shape = t.shape) : s.isMap = t.isMap := by
  cases s <;> cases t <;> simp_all [BSt.shape, BSt.isMap]
structure Evol (C : Ctx) (H : Array Obj) (C' : Ctx) (H' : Array Obj) : Prop where
  imm : ∀ k, C.I k → C'.I k
  same : ∀ k, C.I k → H'[k]? = H[k]?
  lim : ∀ b u, C.lim b u → C'.lim b u
  own : ∀ b u B' id, C.lim b u → C'.own b u = some (B', id) → ∃ B, C.own b u = some (B, id) ∧ B.st.shape = B'.st.shape ∧ B.k = B'.k ∧
    ∀ c el, H[id]? = some (.cells c el (0, 0)) → ∃ c', H'[id]? = some (.cells c' el (0, 0)) ∧ c'.size = c.size
theorem Evol.refl (C : Ctx) (H : Array Obj) : Evol C H C H :=
  ⟨fun _ h => h, fun _ _ => rfl, fun _ _ h => h, fun _ _ B' _ _ h => ⟨B', h, rfl, rfl, fun c _ hc => ⟨c, hc, rfl⟩⟩⟩
theorem Evol.trans {C C' C'' : Ctx} {H H' H'' : Array Obj} (h : Evol C H C' H') (k : Evol C' H' C'' H'') : Evol C H C'' H'' := by
  refine ⟨fun x hx => k.imm x (h.imm x hx), fun x hx => (k.same x (h.imm x hx)).trans (h.same x hx), fun b u hl => k.lim b u (h.lim b u hl), fun b u B'' id hl ho => ?_⟩
  obtain ⟨B', h1, h2, h3, h4⟩ := k.own b u B'' id (h.lim b u hl) ho
  obtain ⟨B, g1, g2, g3, g4⟩ := h.own b u B' id hl h1
  refine ⟨B, g1, g2.trans h2, g3.trans h3, fun c el hc => ?_⟩
  obtain ⟨c', e1, e2⟩ := g4 c el hc
  obtain ⟨c'', f1, f2⟩ := h4 c' el e1
  exact ⟨c'', f1, f2.trans e2⟩
section
variable {C C' : Ctx} {H H' : Array Obj}
mutual
theorem VR.mono (h : Evol C H C' H') : ∀ (x : AV) (v : Value), VR C H x v → VR C' H' x v
  | .int _, _, hv => hv
  | .ik _ _, _, hv => hv
  | .bool _, _, hv => hv
  | .str _, _, hv => hv
  | .agg l, _, ⟨vs, e, hl, hc⟩ => ⟨vs, e, VRL.mono h l vs hl, hc⟩
  | .tup l, _, ⟨vs, e, hl⟩ => ⟨vs, e, VRL.mono h l vs hl⟩
  | .snil, _, hv => hv
  | .imm nn l, v, hv => by
    unfold VR at hv ⊢
    obtain ⟨hn, hv⟩ := hv
    refine ⟨hn, ?_⟩
    rcases hv with hv | ⟨b, off, cap, st, c, el, fz, e, hc, hI, hH, hl⟩
    · exact .inl hv
    · exact .inr ⟨b, off, cap, st, c, el, fz, e, hc, h.imm b hI, (h.same b hI).trans hH, VRI.mono h c st l off hl⟩
  | .arr l, v, hv => by
    unfold VR at hv ⊢
    obtain ⟨b, off, st, c, el, fz, e, hI, hH, hl⟩ := hv
    exact ⟨b, off, st, c, el, fz, e, h.imm b hI, (h.same b hI).trans hH, VRI.mono h c st l off hl⟩
  | .sl b u off len, v, hv => by
    unfold VR at hv ⊢
    obtain ⟨h0, h1, h3⟩ := hv
    refine ⟨h0, h.lim b u h1, fun B' id ho => ?_⟩
    obtain ⟨B, g1, g2, g3, g4⟩ := h.own b u B' id h1 ho
    have := h3 B id g1
    rw [g3] at this
    revert this g2
    cases hB : B.st <;> cases hB' : B'.st <;> intro g2 <;> simp only [BSt.shape, reduceCtorEq] at g2
    case dead.dead => exact fun _ => trivial
    case map.map => exact fun _ => trivial
    case nul.nul => exact fun x => x
    case live.live =>
      rintro ⟨c, el, o, cap, e1, e2, e3, e4, e5⟩
      obtain ⟨c', f1, f2⟩ := g4 c el e1
      exact ⟨c', el, o, cap, f1, e2, e3, e4, e5.trans f2.symm⟩
  | .pnil, _, hv => hv
  | .pimm x, v, hv => by
    unfold VR at hv ⊢
    obtain ⟨hn, b, off, c, el, fz, y, e, hI, hH, hx, hj⟩ := hv
    exact ⟨hn, b, off, c, el, fz, y, e, h.imm b hI, (h.same b hI).trans hH, VR.mono h x y hx, hj⟩
  | .ptr b u off, v, hv => by
    unfold VR at hv ⊢
    obtain ⟨h0, h1, h3⟩ := hv
    refine ⟨h0, h.lim b u h1, fun B' id ho hl => ?_⟩
    obtain ⟨B, g1, g2, g3, g4⟩ := h.own b u B' id h1 ho
    exact h3 B id g1 (zm3Y g2 hl)
  | .fnil, _, hv => hv
  | .func _ l, _, ⟨vs, e, hl⟩ => ⟨vs, e, VRL.mono h l vs hl⟩
  | .inil, _, hv => hv
  | .iface _ x, _, ⟨y, e, hx⟩ => ⟨y, e, VR.mono h x y hx⟩
  | .mapr b, v, hv => by
    unfold VR at hv ⊢
    obtain ⟨h0, h1, h3⟩ := hv
    refine ⟨h0, h.lim b 0 h1, fun B' id ho hl => ?_⟩
    obtain ⟨B, g1, g2, g3, g4⟩ := h.own b 0 B' id h1 ho
    exact h3 B id g1 (by rw [zcn5 g2]; exact hl)
  | .und, _, _ => trivial
theorem VRL.mono (h : Evol C H C' H') : ∀ (l : List AV) (vs : List Value), VRL C H l vs → VRL C' H' l vs
  | [], _, hv => hv
  | x :: r, _, ⟨v, s, e, hx, hr⟩ => ⟨v, s, e, VR.mono h x v hx, VRL.mono h r s hr⟩
theorem VRI.mono (h : Evol C H C' H') (c : Array Value) (st : Nat) : ∀ (l : List AV) (off : Nat), VRI C H c st l off → VRI C' H' c st l off
  | [], _, _ => trivial
  | x :: r, off, ⟨⟨v, hx, e, hj⟩, hr⟩ => ⟨⟨v, VR.mono h x v hx, e, hj⟩, VRI.mono h c st r (off + st) hr⟩
end
structure ISub (C : Ctx) (H : Array Obj) (C' : Ctx) (H' : Array Obj) : Prop where
  imm : ∀ k, C.I k → C'.I k
  same : ∀ k, C.I k → H'[k]? = H[k]?
mutual
theorem VR.free (h : ISub C H C' H') : ∀ (x : AV) (v : Value), noLoc x = true → VR C H x v → VR C' H' x v
  | .int _, _, _, hv => hv
  | .ik _ _, _, _, hv => hv
  | .bool _, _, _, hv => hv
  | .str _, _, _, hv => hv
  | .agg l, _, hn, ⟨vs, e, hl, hc⟩ => ⟨vs, e, VRL.free h l vs (by simpa [noLoc] using hn) hl, hc⟩
  | .tup l, _, hn, _ => by simp [noLoc] at hn
  | .snil, _, _, hv => hv
  | .imm nn l, v, _, hv => by
    unfold VR at hv ⊢
    obtain ⟨hn, hv⟩ := hv
    refine ⟨hn, ?_⟩
    rcases hv with hv | ⟨b, off, cap, st, c, el, fz, e, hc, hI, hH, hl⟩
    · exact .inl hv
    · exact .inr ⟨b, off, cap, st, c, el, fz, e, hc, h.imm b hI, (h.same b hI).trans hH, VRI.free h c st l off hn hl⟩
  | .arr l, _, hn, _ => by simp [noLoc] at hn
  | .sl .., _, hn, _ => by simp [noLoc] at hn
  | .pnil, _, _, hv => hv
  | .pimm x, v, _, hv => by
    unfold VR at hv ⊢
    obtain ⟨hn, b, off, c, el, fz, y, e, hI, hH, hx, hj⟩ := hv
    exact ⟨hn, b, off, c, el, fz, y, e, h.imm b hI, (h.same b hI).trans hH, VR.free h x y hn hx, hj⟩
  | .ptr .., _, hn, _ => by simp [noLoc] at hn
  | .fnil, _, _, hv => hv
  | .func _ l, _, hn, ⟨vs, e, hl⟩ => ⟨vs, e, VRL.free h l vs (by simpa [noLoc] using hn) hl⟩
  | .inil, _, _, hv => hv
  | .iface _ x, _, hn, ⟨y, e, hx⟩ => ⟨y, e, VR.free h x y (by simpa [noLoc] using hn) hx⟩
  | .mapr _, _, hn, _ => by simp [noLoc] at hn
  | .und, _, hn, _ => by simp [noLoc] at hn
theorem VRL.free (h : ISub C H C' H') : ∀ (l : List AV) (vs : List Value), noLocs l = true → VRL C H l vs → VRL C' H' l vs
  | [], _, _, hv => hv
  | x :: r, _, hn, ⟨v, s, e, hx, hr⟩ => by
    simp only [noLocs, Bool.and_eq_true] at hn
    exact ⟨v, s, e, VR.free h x v hn.1 hx, VRL.free h r s hn.2 hr⟩
theorem VRI.free (h : ISub C H C' H') (c : Array Value) (st : Nat) : ∀ (l : List AV) (off : Nat), noLocs l = true → VRI C H c st l off → VRI C' H' c st l off
  | [], _, _, _ => trivial
  | x :: r, off, hn, ⟨⟨v, hx, e, hj⟩, hr⟩ => by
    simp only [noLocs, Bool.and_eq_true] at hn
    exact ⟨⟨v, VR.free h x v hn.1 hx, e, hj⟩, VRI.free h c st r (off + st) hn.2 hr⟩
end
end
section
variable {C : Ctx} {H : Array Obj}
theorem VRL.length : ∀ {l : List AV} {vs : List Value}, VRL C H l vs → vs.length = l.length
  | [], _, h => by rw [show _ = [] from h]; rfl
  | _ :: _, _, ⟨_, _, e, _, hr⟩ => by rw [e]; simp [VRL.length hr]
theorem VRL.get : ∀ {l : List AV} {vs : List Value}, VRL C H l vs → ∀ (i : Nat) (x : AV), l[i]? = some x → ∃ v, vs[i]? = some v ∧ VR C H x v
  | [], _, _, i, x, hi => by simp at hi
  | y :: r, _, ⟨v, s, e, hx, hr⟩, 0, x, hi => by
    simp at hi; subst hi; rw [e]; exact ⟨v, rfl, hx⟩
  | y :: r, _, ⟨v, s, e, hx, hr⟩, i + 1, x, hi => by
    rw [e]; exact VRL.get hr i x (by simpa using hi)
theorem VRL.append : ∀ {l m : List AV} {vs ws : List Value}, VRL C H l vs → VRL C H m ws → VRL C H (l ++ m) (vs ++ ws)
  | [], _, _, _, h, k => by rw [show _ = [] from h]; exact k
  | _ :: _, _, _, _, ⟨v, s, e, hx, hr⟩, k => by rw [e]; exact ⟨v, s ++ _, rfl, hx, VRL.append hr k⟩
theorem VRL.drop : ∀ (n : Nat) {l : List AV} {vs : List Value}, VRL C H l vs → VRL C H (l.drop n) (vs.drop n)
  | 0, _, _, h => by simpa using h
  | n + 1, [], _, h => by rw [show _ = [] from h]; simp [VRL]
  | n + 1, _ :: _, _, ⟨v, s, e, hx, hr⟩ => by rw [e]; simpa using VRL.drop n hr
theorem VRL.take : ∀ (n : Nat) {l : List AV} {vs : List Value}, VRL C H l vs → VRL C H (l.take n) (vs.take n)
  | 0, _, _, h => by simp [VRL]
  | n + 1, [], _, h => by rw [show _ = [] from h]; simp [VRL]
  | n + 1, _ :: _, _, ⟨v, s, e, hx, hr⟩ => by rw [e]; exact ⟨v, s.take n, rfl, hx, VRL.take n hr⟩
def Solid (x : AV) : Prop := x ≠ .und ∧ ∀ l, x ≠ .tup l
theorem zHSU {v : Value} (h : v.oneCell' = true) : v.cells = #[v] := by
  cases v <;> first | rfl | simp [Value.oneCell'] at h
theorem VR.leaf {x : AV} {v : Value} (hx : ∀ l, x ≠ .agg l) (hu : Solid x) (h : VR C H x v) : v.oneCell' = true := by
  cases x with
  | agg l => exact absurd rfl (hx l)
  | und => exact absurd rfl hu.1
  | tup l => exact absurd rfl (hu.2 l)
  | _ =>
    unfold VR at h
    first
      | (rw [h]; rfl)
      | (obtain ⟨⟨_, h⟩, _⟩ := h; rw [h]; rfl)
      | (obtain ⟨_, _, h⟩ := h; rw [h]; rfl)
      | (obtain ⟨_, h, _⟩ := h; rw [h]; rfl)
      | (obtain ⟨⟨_, _, h, _⟩, _⟩ := h; rw [h]; rfl)
      | (obtain ⟨⟨_, h⟩, _⟩ := h; rw [h]; rfl)
      | (obtain ⟨_, h | h⟩ := h
         · obtain ⟨_, _, h, _⟩ := h; rw [h]; rfl
         · obtain ⟨_, _, _, _, _, _, _, h, _⟩ := h; rw [h]; rfl)
      | (obtain ⟨_, _, _, _, _, _, h, _⟩ := h; rw [h]; rfl)
      | (obtain ⟨_, _, _, _, _, _, _, h, _⟩ := h; rw [h]; rfl)
theorem VR.cells {x : AV} {v : Value} (hu : Solid x) (h : VR C H x v) : VRL C H x.cells v.cells.toList ∧ ∀ y, y ∈ v.cells.toList → y.oneCell' = true := by
  by_cases hx : ∃ l, x = .agg l
  · obtain ⟨l, rfl⟩ := hx
    unfold VR at h
    obtain ⟨vs, rfl, hl, hc⟩ := h
    exact ⟨by simpa [AV.cells, Value.cells] using hl, by simpa [Value.cells] using hc⟩
  · have hx' : ∀ l, x ≠ .agg l := fun l e => hx ⟨l, e⟩
    have hlf := VR.leaf hx' hu h
    rw [zHSU hlf]
    have : x.cells = [x] := by
      cases x <;> first | rfl | exact absurd rfl (hx' _)
    rw [this]
    exact ⟨⟨v, [], rfl, h, rfl⟩, by simp [hlf]⟩
theorem VR.size {x : AV} {v : Value} (hu : Solid x) (h : VR C H x v) : v.cells.size = x.cells.length := by
  have := VRL.length (VR.cells hu h).1
  simpa using this
end
def owned (C : Ctx) (k : Nat) : Prop := ∃ b u B, C.own b u = some (B, k) ∧ B.st.lies = true
def MR (C : Ctx) (H : Array Obj) : List (AV × AV) → List MapEntry → Prop
  | [], l => l = []
  | (k, x) :: r, l => ∃ e s, l = e :: s ∧ (noLoc k = true ∧ VR C H k e.key) ∧ (noLoc x = true ∧ VR C H x e.val) ∧ MR C H r s
structure Good (C : Ctx) (w : World) : Prop where
  I : ∀ k, C.I k → k < w.heap.size
  ent : ∀ b u B id, C.own b u = some (B, id) → C.lim b u ∧ u = B.cells.length ∧ (B.st = .nul → B.cells = []) ∧ B.st ≠ .dead
  live : ∀ b u B id, C.own b u = some (B, id) → B.st = .live → ¬ C.I id ∧ ∃ (c : Array Value) (el : TypeId), w.heap[id]? = some (.cells c el (0, 0)) ∧ B.cells.length ≤ c.size ∧
    ∀ (i : Nat) (x : AV), B.cells[i]? = some x → ∃ y, c[i]? = some y ∧ VR C w.heap x y ∧ y.oneCell' = true
  apart : ∀ b u B id b' u' B' id', C.own b u = some (B, id) → B.st.lies = true → C.own b' u' = some (B', id') → B'.st.lies = true → b ≠ b' → id ≠ id'
  maps : ∀ b u B id es, C.own b u = some (B, id) → B.st = .map es → ¬ C.I id ∧ ∃ (l : Array MapEntry) (clock : Nat), w.heap[id]? = some (.map l clock) ∧ MR C w.heap es l.toList
theorem zaVG {s : BSt} (h : s.lies = true) : s = .live ∨ ∃ es, s = .map es := by
  cases s <;> simp_all [BSt.lies]
theorem zL4e {s : BSt} (h : s = .live) : s.lies = true := by subst h; rfl
theorem Good.lt {C : Ctx} {w : World} (h : Good C w) {k : Nat} (hk : owned C k) : k < w.heap.size := by
  obtain ⟨b, u, B, ho, hl⟩ := hk
  rcases zaVG hl with hl | ⟨es, hl⟩
  · obtain ⟨_, c, el, hc, _⟩ := h.live b u B k ho hl
    exact (Array.getElem?_eq_some_iff.1 hc).1
  · obtain ⟨_, c, el, hc, _⟩ := h.maps b u B k es ho hl
    exact (Array.getElem?_eq_some_iff.1 hc).1
theorem MR.free {C C' : Ctx} {H H' : Array Obj} (h : ISub C H C' H') : ∀ {es : List (AV × AV)} {l : List MapEntry}, MR C H es l → MR C' H' es l
  | [], _, e => e
  | (k, x) :: r, _, ⟨e, s, q, ⟨k1, k2⟩, ⟨x1, x2⟩, hr⟩ => ⟨e, s, q, ⟨k1, VR.free h _ _ k1 k2⟩, ⟨x1, VR.free h _ _ x1 x2⟩, MR.free h hr⟩
theorem Good.maps_keep {C : Ctx} {w : World} (hg : Good C w) {C' : Ctx} {w' : World} (hI : ∀ k, C.I k → C'.I k) (hsame : ∀ k, C.I k → w'.heap[k]? = w.heap[k]?) {b u id : Nat} {B : Blk} {es : List (AV × AV)} (ho : C.own b u = some (B, id)) (hl : B.st = .map es)
    (hid : w'.heap[id]? = w.heap[id]?) (hni : ¬ C'.I id) : ¬ C'.I id ∧ ∃ (l : Array MapEntry) (clock : Nat), w'.heap[id]? = some (.map l clock) ∧ MR C' w'.heap es l.toList := by
  obtain ⟨_, l, c, h1, h2⟩ := hg.maps b u B id es ho hl
  exact ⟨hni, l, c, hid.trans h1, h2.free ⟨hI, hsame⟩⟩
theorem z9Su {s : BSt} {es : List (AV × AV)} (h : s = .map es) : s.lies = true := by subst h; rfl
theorem Good.notI {C : Ctx} {w : World} (h : Good C w) {k : Nat} (hk : owned C k) : ¬ C.I k := by
  obtain ⟨b, u, B, ho, hl⟩ := hk
  rcases zaVG hl with hl | ⟨es, hl⟩
  · exact (h.live b u B k ho hl).1
  · exact (h.maps b u B k es ho hl).1
structure Step (C : Ctx) (w : World) (C' : Ctx) (w' : World) : Prop where
  ev : Evol C w.heap C' w'.heap
  size : w.heap.size ≤ w'.heap.size
  frame : ∀ k, k < w.heap.size → ¬ owned C k → w'.heap[k]? = w.heap[k]?
  ownOrig : ∀ k, owned C' k → owned C k ∨ w.heap.size ≤ k
  immOrig : ∀ k, C'.I k → C.I k ∨ owned C k ∨ w.heap.size ≤ k
  os : w'.os = w.os
  tape : w'.tape = w.tape ∧ w.drawn ≤ w'.drawn
  output : w'.output = w.output
theorem Step.refl (C : Ctx) (w : World) : Step C w C w :=
  ⟨Evol.refl _ _, Nat.le_refl _, fun _ _ _ => rfl, fun _ h => .inl h, fun _ h => .inl h, rfl, ⟨rfl, Nat.le_refl _⟩, rfl⟩
theorem Step.trans {C C' C'' : Ctx} {w w' w'' : World} (h : Step C w C' w') (k : Step C' w' C'' w'') : Step C w C'' w'' := by
  refine ⟨h.ev.trans k.ev, Nat.le_trans h.size k.size, fun x hx ho => ?_, fun x hx => ?_, fun x hx => ?_, k.os.trans h.os, ⟨k.tape.1.trans h.tape.1, Nat.le_trans h.tape.2 k.tape.2⟩, k.output.trans h.output⟩
  · rw [k.frame x (Nat.lt_of_lt_of_le hx h.size) (fun h' => (h.ownOrig x h').elim ho (fun h'' => absurd hx (Nat.not_lt.2 h'')))]
    exact h.frame x hx ho
  · rcases k.ownOrig x hx with h' | h'
    · exact h.ownOrig x h'
    · exact .inr (Nat.le_trans h.size h')
  · rcases k.immOrig x hx with h' | h' | h'
    · exact h.immOrig x h'
    · exact .inr (h.ownOrig x h')
    · exact .inr (.inr (Nat.le_trans h.size h'))
def ctxOf (σ : List Blk) (ids : Nat → Nat) (I : Nat → Prop) : Ctx where
  I := I
  own := fun b u => match blk σ b with
    | some B => match B.st with
      | .dead => none
      | _ => if B.cells.length = u then some (B, ids b) else none
    | none => none
  lim := fun b u => ∃ B, blk σ b = some B ∧ u ≤ B.cells.length
theorem zzWB (σ : List Blk) : ∀ b, blk σ b = σ[b]? := by
  induction σ with
  | nil => intro b; rfl
  | cons x r ih => intro b; cases b <;> simp [blk, ih]
theorem znyW (l : List AV) : ∀ b, elm l b = l[b]? := by
  induction l with
  | nil => intro b; rfl
  | cons x r ih => intro b; cases b <;> simp [elm, ih]
theorem z4Wl (σ : List Blk) : ∀ b y, setB σ b y = σ.set b y := by
  induction σ with
  | nil => intro b y; rfl
  | cons x r ih => intro b y; cases b <;> simp [setB, ih]
theorem zwsJ (l : List AV) : ∀ b y, setN l b y = l.set b y := by
  induction l with
  | nil => intro b y; rfl
  | cons x r ih => intro b y; cases b <;> simp [setN, ih]
theorem zGlS (l : List AV) : ∀ b, nth l b = l[b]?.getD .und := by
  induction l with
  | nil => intro b; rfl
  | cons x r ih => intro b; cases b <;> simp [nth, ih]
theorem z1nM {σ : List Blk} {b u : Nat} {B : Blk} (ids : Nat → Nat) (I : Nat → Prop) (h : upto σ b u = some B) : (ctxOf σ ids I).own b u = some (B, ids b) := by
  unfold upto at h
  simp only [ctxOf]
  cases hb : blk σ b with
  | none => simp [hb] at h
  | some B' =>
    simp only [hb] at h ⊢
    cases hs : B'.st <;> simp only [hs] at h ⊢ <;> first
      | (by_cases hu : B'.cells.length = u
         · simp [hu] at h; subst h; simp [hu]
         · simp [hu] at h)
      | simp at h
theorem zEU6 {σ : List Blk} {b u : Nat} {B : Blk} (ids : Nat → Nat) (I : Nat → Prop) (h : uptoX σ b u = some B) : (ctxOf σ ids I).own b u = some (B, ids b) := by
  unfold uptoX at h
  simp only [ctxOf]
  cases hb : blk σ b with
  | none => simp [hb] at h
  | some B' =>
    simp only [hb] at h ⊢
    cases hs : B'.st <;> simp only [hs] at h ⊢ <;> first
      | (by_cases hu : B'.cells.length = u
         · simp [hu] at h; subst h; simp [hu]
         · simp [hu] at h)
      | simp at h
theorem zHDl {σ : List Blk} {b u : Nat} {B : Blk} (h : upto σ b u = some B) : uptoX σ b u = some B := by
  unfold upto at h
  unfold uptoX
  cases hb : blk σ b with
  | none => simp [hb] at h
  | some B' =>
    simp only [hb] at h ⊢
    cases hs : B'.st <;> simp only [hs] at h ⊢ <;> first
      | exact h
      | simp at h
theorem z85o {σ : List Blk} {b u : Nat} {B : Blk} (h : upto σ b u = some B) : B.st.isMap = false := by
  unfold upto at h
  cases hb : blk σ b with
  | none => simp [hb] at h
  | some B' =>
    simp only [hb] at h
    cases hs : B'.st <;> simp only [hs] at h <;> first
      | (split at h <;> simp at h; subst h; simp [hs, BSt.isMap])
      | simp at h
theorem zvxc {σ : List Blk} {b u id : Nat} {B : Blk} {ids : Nat → Nat} {I : Nat → Prop} (h : (ctxOf σ ids I).own b u = some (B, id)) : blk σ b = some B ∧ id = ids b := by
  simp only [ctxOf] at h
  cases hb : blk σ b with
  | none => simp [hb] at h
  | some B' =>
    simp only [hb] at h
    cases hs : B'.st <;> simp only [hs] at h <;> first
      | (by_cases hu : B'.cells.length = u
         · simp [hu] at h; obtain ⟨rfl, rfl⟩ := h; exact ⟨rfl, rfl⟩
         · simp [hu] at h)
      | simp at h
theorem zVNx {σ : List Blk} {b u id : Nat} {B : Blk} {ids : Nat → Nat} {I : Nat → Prop} (hm : B.st.isMap = false) (h : (ctxOf σ ids I).own b u = some (B, id)) : upto σ b u = some B ∧ blk σ b = some B ∧ id = ids b := by
  unfold upto
  simp only [ctxOf] at h
  cases hb : blk σ b with
  | none => simp [hb] at h
  | some B' =>
    simp only [hb] at h ⊢
    cases hs : B'.st <;> simp only [hs] at h ⊢ <;> first
      | (by_cases hu : B'.cells.length = u
         · simp [hu] at h; obtain ⟨rfl, rfl⟩ := h; simp [hs, BSt.isMap] at hm ⊢; done
         · simp [hu] at h)
      | (by_cases hu : B'.cells.length = u
         · simp [hu] at h; obtain ⟨rfl, rfl⟩ := h; simp [hu, hs, BSt.isMap] at hm ⊢
         · simp [hu] at h)
      | simp at h
theorem VR.wk1 {C : Ctx} {H : Array Obj} {x : AV} {v : Value} (h : VR C H x v) : VR C H (Ab.wk1 x) v := by
  cases x with
  | snil => unfold VR at h; unfold Ab.wk1 VR; exact ⟨rfl, .inl ⟨rfl, none, h, by simp⟩⟩
  | imm nn l =>
    unfold VR at h; unfold Ab.wk1 VR
    refine ⟨h.1, ?_⟩
    rcases h.2 with h' | h'
    · obtain ⟨h1, a, h2, _⟩ := h'; exact .inl ⟨h1, a, h2, by simp⟩
    · exact .inr h'
  | _ => exact h
theorem VRL.wk1 {C : Ctx} {H : Array Obj} : ∀ {l : List AV} {vs : List Value}, VRL C H l vs → VRL C H (l.map Ab.wk1) vs
  | [], _, h => h
  | _ :: _, _, ⟨v, s, e, hx, hr⟩ => ⟨v, s, e, hx.wk1, VRL.wk1 hr⟩
theorem VR.wk {C : Ctx} {H : Array Obj} {x : AV} {v : Value} (h : VR C H x v) : VR C H (Ab.wk x) v := by
  cases x with
  | agg l => unfold VR at h; obtain ⟨vs, e, hl, hc⟩ := h; unfold Ab.wk VR; exact ⟨vs, e, hl.wk1, hc⟩
  | _ => exact VR.wk1 h
theorem VRL.wk {C : Ctx} {H : Array Obj} : ∀ {l : List AV} {vs : List Value}, VRL C H l vs → VRL C H (l.map Ab.wk) vs
  | [], _, h => h
  | _ :: _, _, ⟨v, s, e, hx, hr⟩ => ⟨v, s, e, hx.wk, VRL.wk hr⟩
theorem zFRY {x : AV} (h : noLoc x = true) : noLoc (wk1 x) = true := by cases x <;> simp_all [wk1, noLoc]
theorem zXBf : ∀ {l : List AV}, noLocs l = true → noLocs (l.map wk1) = true
  | [], _ => rfl
  | _ :: _, h => by
    simp only [noLocs, Bool.and_eq_true, List.map_cons] at h ⊢
    exact ⟨zFRY h.1, zXBf h.2⟩
theorem zwAf {x : AV} (h : noLoc x = true) : noLoc (wk x) = true := by
  cases x with
  | agg l => simp only [noLoc, wk] at h ⊢; exact zXBf h
  | _ => exact zFRY h
theorem zWLK : ∀ {l : List AV}, noLocs l = true → noLocs (l.map wk) = true
  | [], _ => rfl
  | _ :: _, h => by
    simp only [noLocs, Bool.and_eq_true, List.map_cons] at h ⊢
    exact ⟨zwAf h.1, zWLK h.2⟩
end Ab
namespace Ab
open Go
theorem zcdR {α β : Type} {f : α → Option β} : ∀ {l : List α} {m : List β}, mapO f l = some m → m.length = l.length ∧ ∀ (i : Nat) (x : α), l[i]? = some x → ∃ y, m[i]? = some y ∧ f x = some y
  | [], m, h => by
    simp [mapO] at h; subst h; simp
  | x :: r, m, h => by
    unfold mapO at h
    cases hx : f x with
    | none => simp [hx] at h
    | some y =>
      cases hr : mapO f r with
      | none => simp [hx, hr] at h
      | some s =>
        simp [hx, hr] at h; subst h
        obtain ⟨h1, h2⟩ := zcdR hr
        refine ⟨by simp [h1], fun i z hi => ?_⟩
        cases i with
        | zero => simp at hi; subst hi; exact ⟨y, rfl, hx⟩
        | succ i => exact h2 i z (by simpa using hi)
theorem zxVy (k : Option Nat) (cs : List AV) : ∀ (n : Nat), n * kst k ≤ cs.length → (∀ m, k = some m → True) → (chunk k n cs).length = n := by
  intro n
  induction n generalizing cs with
  | zero => intros; simp [chunk]
  | succ n ih =>
    intro h _
    cases k with
    | none =>
      cases cs with
      | nil => simp [kst] at h
      | cons x r => simp only [chunk, List.length_cons]; rw [ih r (by simp [kst] at h ⊢; omega) (fun _ _ => trivial)]
    | some m =>
      simp only [chunk, List.length_cons]
      rw [ih (cs.drop m) (by simp [kst] at h ⊢; rw [Nat.add_mul] at h; omega) (fun _ _ => trivial)]
theorem zKGr (k : Option Nat) : ∀ (n : Nat) (cs : List AV), n * kst k ≤ cs.length → ∀ i, i < n → ∃ x, (chunk k n cs)[i]? = some x ∧ part cs (i * kst k) k = some x
  | 0, _, _, i, hi => absurd hi (Nat.not_lt_zero i)
  | n + 1, cs, h, i, hi => by
    cases k with
    | none =>
      cases cs with
      | nil => simp [kst] at h
      | cons x r =>
        cases i with
        | zero => exact ⟨x, by simp [chunk], by simp [part, kst, elm]⟩
        | succ i =>
          obtain ⟨y, h1, h2⟩ := zKGr none n r (by simp [kst] at h ⊢; omega) i (by omega)
          exact ⟨y, by simpa [chunk] using h1, by simpa [part, kst, elm] using h2⟩
    | some m =>
      simp only [kst] at h
      rw [Nat.add_mul] at h
      cases i with
      | zero => exact ⟨.agg (cs.take m), by simp [chunk], by simp [part, kst]; omega⟩
      | succ i =>
        obtain ⟨y, h1, h2⟩ := zKGr (some m) n (cs.drop m) (by simp [kst]; omega) i (by omega)
        refine ⟨y, by simpa [chunk] using h1, ?_⟩
        simp only [part, kst, List.length_drop, List.drop_drop] at h2 ⊢
        split at h2
        · have e : (i + 1) * m = m + i * m := by rw [Nat.add_mul]; omega
          have : m + i * m + m ≤ cs.length := by omega
          rw [← h2]
          simp only [e, this, if_true]
        · simp at h2
theorem zyRY {C : Ctx} {H : Array Obj} {cs : List AV} {c : Array Value} {off : Nat} {k : Option Nat} {x : AV}
    (hc : ∀ (i : Nat) (x : AV), cs[i]? = some x → ∃ y, c[i]? = some y ∧ VR C H x y ∧ y.oneCell' = true) (h : part cs off k = some x) :
    ∃ v, VR C H x v ∧ v.cells.size = kst k ∧ (∀ j, j < kst k → c[off + j]? = v.cells[j]?) ∧ (k = none → v.cells = #[v]) ∧ (k ≠ none → ∃ vs, v = .agg vs) := by
  cases k with
  | none =>
    simp only [part, znyW] at h
    obtain ⟨y, h1, h2, h3⟩ := hc off x h
    have h3 := zHSU h3
    refine ⟨y, h2, by simp [h3, kst], fun j hj => ?_, fun _ => h3, fun h => absurd rfl h⟩
    simp only [kst] at hj
    obtain rfl : j = 0 := by omega
    simp [h1, h3]
  | some n =>
    simp only [part] at h
    split at h
    case isFalse => simp at h
    rename_i hn
    simp at h; subst h
    have key : ∀ m, m ≤ n → ∃ vs : List Value, VRL C H ((cs.drop off).take m) vs ∧ vs.length = m ∧ (∀ y, y ∈ vs → y.oneCell' = true) ∧ ∀ j, j < m → c[off + j]? = vs[j]? := by
      intro m
      induction m with
      | zero => intro _; exact ⟨[], by simp [VRL], rfl, by simp, fun j hj => absurd hj (Nat.not_lt_zero j)⟩
      | succ m ih =>
        intro hm
        obtain ⟨vs, h1, h2, h4, h3⟩ := ih (by omega)
        have hx : ∃ x, cs[off + m]? = some x := ⟨cs[off + m], by rw [List.getElem?_eq_getElem (by omega)]⟩
        obtain ⟨x, hx⟩ := hx
        obtain ⟨y, g1, g2, g3⟩ := hc (off + m) x hx
        have ht : (cs.drop off).take (m + 1) = (cs.drop off).take m ++ [x] := by
          rw [List.take_add_one]; simp [hx]
        rw [ht]
        refine ⟨vs ++ [y], h1.append ⟨y, [], rfl, g2, rfl⟩, by simp [h2], fun z hz => (List.mem_append.1 hz).elim (h4 z) (fun hz => by simp at hz; subst hz; exact g3), fun j hj => ?_⟩
        rcases Nat.lt_or_ge j m with hlt | hge
        · rw [h3 j hlt, List.getElem?_append_left (by omega)]
        · obtain rfl : j = m := by omega
          rw [g1, ← h2]; simp
    obtain ⟨vs, h1, h2, h4, h3⟩ := key n (Nat.le_refl n)
    refine ⟨.agg vs.toArray, by unfold VR; exact ⟨vs, rfl, h1, h4⟩, by simp [Value.cells, h2, kst], fun j hj => ?_, fun h => by simp at h, fun _ => ⟨_, rfl⟩⟩
    simp only [kst] at hj
    rw [h3 j hj]; simp [Value.cells]
theorem VRI.of {C : Ctx} {H : Array Obj} {c : Array Value} {st : Nat} : ∀ {l : List AV} {off : Nat},
    (∀ i x, l[i]? = some x → ∃ v, VR C H x v ∧ v.cells.size = st ∧ ∀ j, j < st → c[off + i * st + j]? = v.cells[j]?) → VRI C H c st l off
  | [], _, _ => trivial
  | x :: r, off, h => by
    refine ⟨by simpa using h 0 x rfl, VRI.of fun i y hi => ?_⟩
    obtain ⟨v, h1, h2, h3⟩ := h (i + 1) y (by simpa using hi)
    refine ⟨v, h1, h2, fun j hj => ?_⟩
    rw [← h3 j hj]
    congr 1
    rw [Nat.add_mul]; omega
theorem VRI.get {C : Ctx} {H : Array Obj} {c : Array Value} {st : Nat} : ∀ {l : List AV} {off : Nat}, VRI C H c st l off →
    ∀ i x, l[i]? = some x → ∃ v, VR C H x v ∧ v.cells.size = st ∧ ∀ j, j < st → c[off + i * st + j]? = v.cells[j]?
  | [], _, _, i, x, hi => by simp at hi
  | y :: r, off, ⟨hx, hr⟩, 0, x, hi => by simp at hi; subst hi; simpa using hx
  | y :: r, off, ⟨hx, hr⟩, i + 1, x, hi => by
    obtain ⟨v, h1, h2, h3⟩ := VRI.get hr i x (by simpa using hi)
    refine ⟨v, h1, h2, fun j hj => ?_⟩
    rw [← h3 j hj]
    congr 1
    rw [Nat.add_mul]; omega
theorem za6m {l : List AV} (h : ∀ x ∈ l, noLoc x = true) : noLocs l = true := by
  induction l with
  | nil => rfl
  | cons x r ih =>
    simp only [noLocs, Bool.and_eq_true]
    exact ⟨h x (by simp), ih fun y hy => h y (by simp [hy])⟩
structure Froz (fr : Bool) (C : Ctx) (C2 : Ctx) : Prop where
  imm : fr = false → ∀ k, C.I k → C2.I k
  own : ∀ k, owned C k → C2.I k
theorem zQoi {σ : List Blk} {fr : Bool} {f : Nat} {C C2 : Ctx} {H : Array Obj}
    (ih : ∀ x y v, view σ fr f x = some y → VR C H x v → noLoc y = true ∧ VR C2 H y v) :
    ∀ {l m : List AV} {vs : List Value}, mapO (view σ fr f) l = some m → VRL C H l vs → noLocs m = true ∧ VRL C2 H m vs
  | [], m, vs, h, hv => by simp [mapO] at h; subst h; exact ⟨rfl, hv⟩
  | x :: r, m, vs, h, ⟨v, s, e, hx, hr⟩ => by
    unfold mapO at h
    cases hvx : view σ fr f x with
    | none => simp [hvx] at h
    | some y =>
      cases hvr : mapO (view σ fr f) r with
      | none => simp [hvx, hvr] at h
      | some t =>
        simp [hvx, hvr] at h; subst h
        obtain ⟨h1, h2⟩ := ih x y v hvx hx
        obtain ⟨h3, h4⟩ := zQoi ih hvr hr
        exact ⟨by simp [noLocs, h1, h3], ⟨v, s, e, h2, h4⟩⟩
theorem zQUp {σ : List Blk} {C : Ctx} {w : World} {fr : Bool} {C2 : Ctx} (hup : ∀ b u B, upto σ b u = some B → ∃ id, C.own b u = some (B, id)) (hg : Good C w) (hf : Froz fr C C2) :
    ∀ (f : Nat) (x y : AV) (v : Value), view σ fr f x = some y → VR C w.heap x v → noLoc y = true ∧ VR C2 w.heap y v := by
  intro f
  induction f with
  | zero => intro x y v h; simp [view] at h
  | succ f ih =>
    intro x y v h hv
    cases x with
    | sl b u off len =>
      simp only [view] at h
      cases hu : upto σ b u with
      | none => simp [hu] at h
      | some B =>
        simp only [hu] at h
        split at h
        case isFalse => simp at h
        rename_i hle
        cases hm : mapO (view σ fr f) (chunk B.k len (B.cells.drop off)) with
        | none => simp [hm] at h
        | some l =>
          simp [hm] at h; subst h
          obtain ⟨id, ho⟩ := hup b u B hu
          obtain ⟨hl1, hl2⟩ := zcdR hm
          obtain ⟨_, e1, e3, e4⟩ := hg.ent b u B _ ho
          unfold VR at hv
          obtain ⟨_, _, hv⟩ := hv
          have hv := hv B _ ho
          have hlen : (chunk B.k len (B.cells.drop off)).length = len := zxVy _ _ _ (by simp; omega) (fun _ _ => trivial)
          cases hs : B.st with
          | dead => exact absurd hs e4
          | map es => have := z85o hu; rw [hs] at this; simp [BSt.isMap] at this
          | nul =>
            simp only [hs] at hv
            obtain ⟨rfl, rfl, rfl⟩ := hv
            have : l = [] := by
              have : l.length = 0 := by rw [hl1, hlen]
              exact List.eq_nil_of_length_eq_zero this
            subst this
            exact ⟨rfl, by unfold VR; exact ⟨rfl, .inl ⟨rfl, none, rfl, by simp⟩⟩⟩
          | live =>
            simp only [hs] at hv
            obtain ⟨c, el, o, cap, g1, rfl, g3, g4, g5⟩ := hv
            obtain ⟨n1, c', el', n2, n3, n4⟩ := hg.live b u B _ ho hs
            rw [g1] at n2
            simp only [Option.some.injEq, Obj.cells.injEq] at n2
            obtain ⟨rfl, rfl, _⟩ := n2
            have hall : ∀ i x, (B.cells.drop off)[i]? = some x → ∃ y, c[off + i]? = some y ∧ VR C w.heap x y ∧ y.oneCell' = true := fun i x hi => by
              rw [List.getElem?_drop] at hi
              exact n4 (off + i) x hi
            have hel : ∀ i y, l[i]? = some y → noLoc y = true ∧ ∃ v, VR C2 w.heap y v ∧ v.cells.size = kst B.k ∧ ∀ j, j < kst B.k → c[off + i * kst B.k + j]? = v.cells[j]? := fun i y hi => by
              have hilt : i < len := by
                have := (List.getElem?_eq_some_iff.1 hi).1
                omega
              obtain ⟨z, z1, z2⟩ := zKGr B.k len (B.cells.drop off) (by simp; omega) i hilt
              obtain ⟨y', y1, y2⟩ := hl2 i z z1
              rw [hi] at y1
              simp at y1; subst y1
              have hp : part B.cells (off + i * kst B.k) B.k = some z := by
                cases hk : B.k with
                | none => simp only [hk, part, znyW, List.getElem?_drop] at z2 ⊢; exact z2
                | some n =>
                  simp only [hk, part, List.length_drop, List.drop_drop] at z2 ⊢
                  split at z2
                  · rw [if_pos (by omega)]; exact z2
                  · simp at z2
              obtain ⟨val, p1, p2, p3, _⟩ := zyRY n4 hp
              obtain ⟨q1, q2⟩ := ih z y val y2 p1
              exact ⟨q1, val, q2, p2, p3⟩
            refine ⟨rfl, ?_⟩
            unfold VR
            refine ⟨za6m fun x hx => ?_, .inr ⟨id, o, cap, kst B.k, c, el, (0, 0), ?_, by omega, hf.own _ ⟨b, u, B, ho, zL4e hs⟩, g1, VRI.of fun i x hi => ?_⟩⟩
            · obtain ⟨i, hi⟩ := List.getElem?_of_mem hx
              exact (hel i x hi).1
            · rw [hl1, hlen]
            · have hi' := (List.getElem?_eq_some_iff.1 hi).1
              obtain rfl := g3 (by omega)
              exact (hel i x hi).2
    | ptr b u off =>
      simp only [view] at h
      cases hu : upto σ b u with
      | none => simp [hu] at h
      | some B =>
        simp only [hu] at h
        split at h
        case isFalse => simp at h
        rename_i hle
        simp only [Bool.and_eq_true, beq_iff_eq] at hle
        cases hp : part B.cells 0 B.k with
        | none => simp [hp] at h
        | some z =>
          cases hz : view σ fr f z with
          | none => simp [hp, hz] at h
          | some z' =>
            simp [hp, hz] at h; subst h
            obtain ⟨id, ho⟩ := hup b u B hu
            obtain ⟨_, e1, e3, e4⟩ := hg.ent b u B _ ho
            unfold VR at hv
            obtain ⟨_, _, hv⟩ := hv
            have hv := hv B _ ho
            have hs : B.st = .live := by
              have := hle.2
              revert this
              cases B.st <;> simp [BSt.isLive]
            have hv := hv hs
            subst hv
            obtain ⟨n1, c, el, n2, n3, n4⟩ := hg.live b u B _ ho hs
            obtain ⟨val, p1, p2, p3, _⟩ := zyRY n4 hp
            obtain ⟨q1, q2⟩ := ih z z' val hz p1
            obtain ⟨⟨rfl, _⟩, _⟩ := hle
            exact ⟨rfl, by unfold VR; exact ⟨q1, id, 0, c, el, (0, 0), val, rfl, hf.own _ ⟨b, u, B, ho, zL4e hs⟩, n2, q2, fun j hj => p3 j (by omega)⟩⟩
    | agg l =>
      simp only [view] at h
      cases hm : mapO (view σ fr f) l with
      | none => simp [hm] at h
      | some m =>
        simp [hm] at h; subst h
        unfold VR at hv
        obtain ⟨vs, e, hl, hc⟩ := hv
        obtain ⟨h1, h2⟩ := zQoi ih hm hl
        exact ⟨by simpa [noLoc] using h1, by unfold VR; exact ⟨vs, e, h2, hc⟩⟩
    | tup l => simp [view] at h
    | func g l =>
      simp only [view] at h
      cases hm : mapO (view σ fr f) l with
      | none => simp [hm] at h
      | some m =>
        simp [hm] at h; subst h
        unfold VR at hv
        obtain ⟨vs, e, hl⟩ := hv
        obtain ⟨h1, h2⟩ := zQoi ih hm hl
        exact ⟨by simpa [noLoc] using h1, by unfold VR; exact ⟨vs, e, h2⟩⟩
    | iface t z =>
      simp only [view] at h
      cases hm : view σ fr f z with
      | none => simp [hm] at h
      | some m =>
        simp [hm] at h; subst h
        unfold VR at hv
        obtain ⟨val, e, hl⟩ := hv
        obtain ⟨h1, h2⟩ := ih z m val hm hl
        exact ⟨by simpa [noLoc] using h1, by unfold VR; exact ⟨val, e, h2⟩⟩
    | imm nn l =>
      simp only [view] at h
      cases fr with
      | true => simp at h
      | false =>
        simp at h; subst h
        refine ⟨rfl, ?_⟩
        exact VR.wk1 (x := .imm nn l) (VR.free ⟨hf.imm rfl, fun _ _ => rfl⟩ _ _ rfl hv)
    | pimm z =>
      simp only [view] at h
      cases fr with
      | true => simp at h
      | false =>
        simp at h; subst h
        exact ⟨rfl, VR.free ⟨hf.imm rfl, fun _ _ => rfl⟩ _ _ rfl hv⟩
    | snil => simp [view] at h; subst h; exact ⟨rfl, VR.wk1 (x := .snil) hv⟩
    | arr l => simp [view] at h
    | und => simp [view] at h
    | mapr b => simp [view] at h
    | _ => simp [view] at h; subst h; exact ⟨rfl, hv⟩
theorem zXfU {σ : List Blk} {C : Ctx} {w : World} {fr : Bool} {C2 : Ctx} (hup : ∀ b u B, upto σ b u = some B → ∃ id, C.own b u = some (B, id)) (hg : Good C w) (hf : Froz fr C C2)
    {x y : AV} {v : Value} (h : viewT σ fr x = some y) (hv : VR C w.heap x v) : VR C2 w.heap y v := by
  by_cases hx : ∃ l, x = .tup l
  · obtain ⟨l, rfl⟩ := hx
    simp only [viewT] at h
    cases hm : mapO (view σ fr vd) l with
    | none => simp [hm] at h
    | some m =>
      simp [hm] at h; subst h
      unfold VR at hv
      obtain ⟨vs, e, hl⟩ := hv
      unfold VR
      exact ⟨vs, e, (zQoi (fun x y v => zQUp hup hg hf vd x y v) hm hl).2⟩
  · have : viewT σ fr x = view σ fr vd x := by
      cases x <;> first | rfl | exact absurd ⟨_, rfl⟩ hx
    rw [this] at h
    exact (zQUp hup hg hf vd x y v h hv).2
theorem ztYd {C : Ctx} {H : Array Obj} {x z : AV} {y : Value} {off : Nat} {k : Option Nat} (hu : Solid x) (h : VR C H x y) (hp : part x.cells off k = some z) :
    ∃ v, VR C H z v ∧ v.cells.size = kst k ∧ (∀ j, j < kst k → y.cells[off + j]? = v.cells[j]?) ∧ (k = none → v.cells = #[v]) ∧ (k ≠ none → ∃ vs, v = .agg vs) := by
  obtain ⟨h1, h2⟩ := VR.cells hu h
  refine zyRY (fun i x' hi => ?_) hp
  obtain ⟨v, g1, g2⟩ := h1.get i x' hi
  refine ⟨v, by simpa using g1, g2, h2 v (List.mem_of_getElem? g1)⟩
end Ab
namespace Ab
open Go
def kindIs (P : Program) (t : TypeId) (k : Option Nat) : Bool :=
  match P.underlying t, P.info? t with
  | some d, some i => match d, k with
    | .struct _, some n => i.size == n
    | .array _ _, some n => i.size == n
    | .struct _, none => false
    | .array _ _, none => false
    | _, none => i.size == 1
    | _, _ => false
  | _, _ => false
def sizeIs (P : Program) (t : TypeId) (n : Nat) : Bool :=
  match P.info? t with
  | some i => i.size == n
  | none => false
def sliceOf (P : Program) (t : TypeId) : Option TypeId :=
  match P.underlying t with
  | some (.slice e) => some e
  | _ => none
def constIs : Value → AV → Bool
  | .int .i64 n, .int m => n == m
  | .int k n, .ik j m => (match kindOf j with | some K => decide (k = K) | none => false) && n == m
  | .bool a, .bool b => a == b
  | .slice none 0 0, .snil => true
  | .pointer none, .pnil => true
  | .nilFunc, .fnil => true
  | .nilIface, .inil => true
  | .string s, .str l => s.data.toList == l
  | _, _ => false
def constsAre : List Value → List AV → Bool
  | [], [] => true
  | v :: vs, x :: xs => constIs v x && constsAre vs xs
  | _, _ => false
def zeroIs (P : Program) (t : TypeId) (z : List AV) : Bool :=
  match P.info? t with
  | some i => match i.zero with
    | some v => constsAre v.cells.toList z
    | none => false
  | none => false
def hasZero (P : Program) (t : TypeId) : Bool :=
  match P.info? t with
  | some i => match i.zero with
    | some v => v.cells.size == i.size
    | none => false
  | none => false
def bytesOk (P : Program) (t : TypeId) : Bool :=
  match P.info? t with
  | some i => decide (i.bytes ≤ 4096)
  | none => false
def allR (f : Operand → Rf → Bool) : List Operand → List Rf → Bool
  | [], [] => true
  | x :: xs, y :: ys => f x y && allR f xs ys
  | _, _ => false
def binIs : BinOp → Bin → Bool
  | .add, .add | .add, .addw | .sub, .sub | .mul, .mul | .quo, .quo | .rem, .rem | .lss, .lss | .leq, .leq | .gtr, .gtr | .geq, .geq | .eql, .eql | .neq, .neq => true
  | _, _ => false
def optR (f : Operand → Rf → Bool) : Option Operand → Option Rf → Bool
  | none, none => true
  | some x, some y => f x y
  | _, _ => false
def partsIs (f : Operand → Rf → Bool) (place : Nat → Option (Nat × Nat)) : List (Nat × Operand) → List (Nat × Nat × Rf) → Bool
  | [], [] => true
  | (i, x) :: xs, (o, n, y) :: ys => (match place i with | some (a, b) => a == o && b == n | none => false) && f x y && partsIs f place xs ys
  | _, _ => false
def placesOf (P : Program) : List Field → Option (List (Nat × Nat))
  | [] => some []
  | f :: r => match P.info? f.type, placesOf P r with
    | some i, some l => some ((f.offset, i.size) :: l)
    | _, _ => none
def inOrder : Nat → List (Nat × Operand) → Bool
  | _, [] => true
  | k, (i, _) :: r => i == k && inOrder (k + 1) r
def nilOpd : Operand → Bool
  | .const (.slice none 0 0) => true
  | _ => false
def tblIs (P : Program) (m : String) : List (Nat × Nat) → Bool
  | [] => true
  | (t, f) :: r => (match P.info? t with
    | some i => (match i.methods.find? (·.name == m) with
      | some x => x.path.isEmpty && (match x.func with
        | some (g, ptr) => g == f && (match P.underlying t with
          | some (.pointer _) => ptr
          | some _ => !ptr
          | none => false)
        | none => false)
      | none => false)
    | none => false) && tblIs P m r
def bodied (P : Program) (f : Nat) : Bool :=
  match P.funcs[f]? with
  | some fn => fn.body.isSome && !(fn.name == "runtime.NumGoroutine")
  | none => false
def eqOp (o : BinOp) (neg : Bool) : Bool :=
  match o with
  | .eql => !neg
  | .neq => neg
  | _ => false
def intFields (P : Program) : List Field → Nat → Bool
  | [], _ => true
  | f :: r, o => f.name != "_" && (match P.underlying f.type with | some (.int .i64) => true | _ => false) && kindIs P f.type none && f.offset == o && intFields P r (o + 1)
def seqOk (P : Program) (t : TypeId) (n : Nat) : Bool := (match P.underlying t with
  | some (.struct fs) => fs.size == n && intFields P fs.toList 0
  | _ => false) && !P.stoodInHeld t && !P.eqGuardType P.depth t
def keyIs (P : Program) (t : TypeId) (kd : Nat) : Bool := match kd, P.underlying t with
  | 0, some (.int .i64) => true
  | 1, some .string => true
  | n + 2, some (.struct fs) => fs.size == n && intFields P fs.toList 0 && !P.stoodInHeld t
  | n + 2, some (.array m e) => m == n && (match P.underlying e with | some (.int .i64) => true | _ => false) && kindIs P e none
  | _, _ => false
def zeroOne (P : Program) (t : TypeId) (z : AV) : Bool := match P.info? t with
  | some i => match i.zero with
    | some v => constIs v z && noLoc z
    | none => false
  | none => false
def okOp (P : Program) (R : Operand → Rf → Bool) : Op → IOp → Bool
  | .move x, .mv y => R x y
  | .assign x, .mv y => R x y
  | .assign x, .nl _ => nilOpd x
  | .binOp o _ x y _, .bin o' x' y' => binIs o o' && R x x' && R y y'
  | .binOp o t x y _, .seq neg n x' y' => eqOp o neg && seqOk P t n && R x x' && R y y'
  | .binOp o t x y _, .beq neg x' y' => eqOp o neg && (match P.underlying t with | some .bool => true | _ => false) && R x x' && R y y'
  | .binOp o t x y _, .bnl neg z => eqOp o neg && (sliceOf P t).isSome && ((nilOpd y && R x z) || (nilOpd x && R y z))
  | .unOp .not _ x, .not y => R x y
  | .unOp .neg _ x, .bin .sub (.c (.int 0)) y => R x y
  | .pick c a b, .pick c' a' b' => R c c' && R a a' && R b b'
  | .call { callee := .builtin .len, args, argTypes }, .len y => (match args.toList, argTypes.toList with
    | [x], [t] => (sliceOf P t).isSome && R x y
    | _, _ => false)
  | .call { callee := .builtin .max, args, .. }, .mx true x' y' => (match args.toList with
    | [x, y] => R x x' && R y y'
    | _ => false)
  | .call { callee := .builtin .min, args, .. }, .mx false x' y' => (match args.toList with
    | [x, y] => R x x' && R y y'
    | _ => false)
  | .fieldAddr s x f, .fad y off k => (match P.underlying s with
    | some (.struct fs) => (match fs[f]? with
      | some fl => fl.offset == off && kindIs P fl.type k && !sizeIs P fl.type 0
      | none => false)
    | _ => false) && R x y
  | .field s x f, .fld y off k => (match P.underlying s with
    | some (.struct fs) => (match fs[f]? with
      | some fl => fl.offset == off && kindIs P fl.type k
      | none => false)
    | _ => false) && R x y
  | .indexAddr t x i, .iad x' i' st => (match sliceOf P t with
    | some e => sizeIs P e st
    | none => false) && R x x' && R i i'
  | .indexAddr t x i, .iada x' i' n k => (match P.underlying t with
    | some (.array m e) => m == n && kindIs P e k && decide (2 ≤ m)
    | _ => false) && R x x' && R i i'
  | .nilCheck x, .nck y => R x y
  | .box _ x, .bxi y => R x y
  | .box t x, .bxm y k => kindIs P t k && R x y
  | .alloc t, .alc z k => zeroIs P t z && kindIs P t k
  | .alloc t, .alc0 n => sizeIs P t n && (match P.info? t with | some i => (match i.zero with | some v => v.cells.size == n | none => false) | none => false)
  | .store t p x, .ini p' x' n => sizeIs P t n && R p p' && R x x'
  | .store t p x, .st p' x' n => sizeIs P t n && R p p' && R x x'
  | .load t x, .ld y k => kindIs P t k && R x y
  | .load t x, .ldi y k => kindIs P t k && R x y
  | .build t ps, .bld z qs => zeroIs P t z && (match P.underlying t with
    | some (.struct fs) => (match placesOf P fs.toList with | some l => partsIs R (fun i => l[i]?) ps.toList qs | none => false)
    | some (.array _ e) => (match P.info? e with | some i => partsIs R (fun j => some (j * i.size, i.size)) ps.toList qs | none => false)
    | _ => false)
  | .index t x i, .idx x' i' n k => (match P.underlying t with
    | some (.array m e) => m == n && kindIs P e k
    | _ => false) && R x x' && R i i'
  | .extract x i, .ext y j => i == j && R x y
  | .makeFunc (.func f) fst caps, .mkf g ys => fst.isEmpty && f == g && allR R caps.toList ys
  | .makeInterface t x, .mki u y => t == u && (match P.underlying t with | some (.interface _) => false | some _ => true | none => false) && R x y
  | .buildSlice t n ps, .liti ys st => (match sliceOf P t with | some e => sizeIs P e st && hasZero P e && decide (n * st ≤ 2 ^ 24) | none => false) && n == ps.size && inOrder 0 ps.toList && allR R (ps.toList.map (·.2)) ys
  | .buildSlice t n ps, .lita ys st => (match sliceOf P t with | some e => sizeIs P e st && hasZero P e && decide (n * st ≤ 2 ^ 24) | none => false) && n == ps.size && inOrder 0 ps.toList && allR R (ps.toList.map (·.2)) ys
  | .buildSlice t n ps, .litm ys k => (match sliceOf P t with | some e => kindIs P e k && hasZero P e && decide (n * kst k ≤ 2 ^ 24) | none => false) && n == ps.size && inOrder 0 ps.toList && allR R (ps.toList.map (·.2)) ys
  | .slice t x lo hi none, .slc y lo' hi' st => (match sliceOf P t with | some e => sizeIs P e st | none => false) && R x y && optR R lo lo' && optR R hi hi'
  | .slice t x none (some hi) (some mx), .slc3 y hi' mx' st => (match sliceOf P t with | some e => sizeIs P e st | none => false) && R x y && R hi hi' && R mx mx'
  | .convert s d x, .cvi y => (match P.underlying s, P.underlying d with | some (.int _), some (.int .i64) => true | _, _ => false) && R x y
  | .makeSlice t l c, .mks l' c' z k => (match sliceOf P t with | some e => kindIs P e k && zeroIs P e z && bytesOk P e | none => false) && R l l' && R c c'
  | .call { callee := .builtin .append, args, argTypes }, .app s' x' k => (match args.toList, argTypes.toList with
    | [s, x], [t, t'] => (match sliceOf P t with | some e => kindIs P e k && bytesOk P e && hasZero P e | none => false) && (sliceOf P t').isSome && R s s' && R x x'
    | _, _ => false)
  | .call { callee := .builtin .append, args, argTypes }, .appw s' x' k => (match args.toList, argTypes.toList with
    | [s, x], [t, t'] => (match sliceOf P t with | some e => kindIs P e k && bytesOk P e && hasZero P e | none => false) && (sliceOf P t').isSome && R s s' && R x x'
    | _, _ => false)
  | .call { callee := .value (.func f), args, .. }, .cal g ys => f == g && bodied P f && allR R args.toList ys
  | .call { callee := .value (.func f), args, .. }, .cab g ys => f == g && bodied P f && allR R args.toList ys
  | .call { callee := .value (.func f), args, .. }, .can g ys => f == g && bodied P f && allR R args.toList ys
  | .call { callee := .value (.func f), args, .. }, .cam g ys => f == g && bodied P f && allR R args.toList ys
  | .call { callee := .value x, args, .. }, .cald y ys => R x y && allR R args.toList ys
  | .call { callee := .value x, args, .. }, .camd y ys => R x y && allR R args.toList ys
  | .call { callee := .invoke x m, args, .. }, .inv y tbl ys => R x y && allR R args.toList ys && tblIs P m tbl
  | .call { callee := .invoke x m, args, .. }, .invm y tbl ys => R x y && allR R args.toList ys && tblIs P m tbl
  | .call { callee := .builtin .cap, args, argTypes }, .capn y => (match args.toList, argTypes.toList with
    | [x], [t] => (sliceOf P t).isSome && R x y
    | _, _ => false)
  | .call { callee := .builtin .clear, args, argTypes }, .clr y z k => (match args.toList, argTypes.toList with
    | [x], [t] => (match sliceOf P t with | some e => kindIs P e k && zeroIs P e z | none => false) && R x y
    | _, _ => false)
  | .makeMap _ none, .mkm => true
  | .lookup t x k ok, .mlk x' kd k' z ok' => (match P.underlying t with
    | some (.map kt e) => keyIs P kt kd && zeroOne P e z
    | _ => false) && ok == ok' && R x x' && R k k'
  | .call { callee := .builtin .len, args, argTypes }, .mln x' => (match args.toList, argTypes.toList with
    | [x], [t] => (match P.underlying t with | some (.map _ _) => true | _ => false) && R x x'
    | _, _ => false)
  | .mapUpdate t m k x, .mup m' kd k' x' => (match P.underlying t with
    | some (.map kt _) => keyIs P kt kd
    | _ => false) && R m m' && R k k' && R x x'
  | .insert t m k x, .mup m' kd k' x' => (match P.underlying t with
    | some (.map kt _) => keyIs P kt kd
    | _ => false) && R m m' && R k k' && R x x'
  | .convert s d x, .cvu y => (match P.underlying s, P.underlying d with | some (.int _), some (.int .u64) => true | _, _ => false) && R x y
  | .binOp .gtr _ x y _, .gtu x' y' => R x x' && R y y'
  | .binOp .shr _ x y _, .shu x' y' => R x x' && R y y'
  | .convert s d x, .cv8 y => (match P.underlying s, P.underlying d with | some (.int _), some (.int .u8) => true | _, _ => false) && R x y
  | .convert s d x, .sob y => (match P.underlying s, P.underlying d with | some (.slice e), some .string => (match P.underlying e with | some (.int .u8) => true | _ => false) | _, _ => false) && R x y
  | .call { callee := .builtin .copy, args, argTypes }, .cpy x' y' k => (match args.toList, argTypes.toList with
    | [x, y], [t, _] => (match sliceOf P t with | some e => kindIs P e k | none => false) && R x x' && R y y'
    | _, _ => false)
  | _, _ => false
def IOp.isP : IOp → Bool
  | .bnl .. | .ld .. | .slc .. | .can .. | .cab .. | .bxm .. | .alc .. | .mks .. | .litm .. | .nl .. | .app .. | .st .. | .appw .. | .cam .. | .camd .. | .invm .. | .clr .. | .mkm | .mlk .. | .mln .. | .mup .. | .cpy .. | .sob .. => false
  | _ => true
end Ab
namespace Ab
open Go
variable {P : Program}
theorem zW9l {t : TypeId} {n : Nat} (h : sizeIs P t n = true) (w : World) : (Go.sizeOf t).run P w = .ok n w := by
  unfold sizeIs at h
  cases hi : P.info? t with
  | none => simp [hi] at h
  | some i =>
    simp [hi] at h
    rw [run_sizeOf w hi]
    simp [Program.cellsOf, hi, h]
theorem zu6q {t : TypeId} {k : Option Nat} (h : kindIs P t k = true) : sizeIs P t (kst k) = true := by
  unfold kindIs at h
  unfold sizeIs
  cases hu : P.underlying t with
  | none => simp [hu] at h
  | some d =>
    cases hi : P.info? t with
    | none => simp [hu, hi] at h
    | some i =>
      simp only [hu, hi] at h ⊢
      cases d <;> cases k <;> simp_all [kst]
theorem zlNZ {t : TypeId} {k : Option Nat} (h : kindIs P t k = true) (w : World) : (isAgg t).run P w = .ok k.isSome w := by
  unfold kindIs at h
  cases hu : P.underlying t with
  | none => simp [hu] at h
  | some d =>
    cases hi : P.info? t with
    | none => simp [hu, hi] at h
    | some i =>
      simp only [hu, hi] at h
      simp only [isAgg, Sem.run_bind, run_underlying hu, Result.andThen_ok]
      cases d <;> cases k <;> simp_all
theorem zsha {t e : TypeId} (h : sliceOf P t = some e) (w : World) : (underlying t).run P w = .ok (.slice e) w := by
  unfold sliceOf at h
  cases hu : P.underlying t with
  | none => simp [hu] at h
  | some d => cases d <;> simp [hu] at h; subst h; exact run_underlying hu w
theorem zOk6 {w : World} {t : TypeId} {k : Option Nat} (hk : kindIs P t k = true) {blk off : Nat} {c : Array Value} {el : TypeId} {fz : Nat × Nat} {v : Value}
    (hH : w.heap[blk]? = some (.cells c el fz)) (hs : v.cells.size = kst k) (hj : ∀ j, j < kst k → c[off + j]? = v.cells[j]?) (hn : k = none → v.cells = #[v]) (ha : k ≠ none → ∃ vs, v = .agg vs) :
    (loadVar t ⟨blk, off, none⟩).run P w = .ok v w := by
  have hcell : ∀ j, j < kst k → w.cell? ((⟨blk, off, none⟩ : Addr).add j) = some (v.cells.getD j undef) := fun j hlt => by
    have : ((⟨blk, off, none⟩ : Addr).add j) = ⟨blk, off + j, none⟩ := by
      unfold Addr.add; split
      · rename_i h0; subst h0; rfl
      · rfl
    rw [this]
    simp only [World.cell?, hH]
    simp only [Option.isSome_none, Bool.false_eq_true, if_false]
    rw [hj j hlt]
    have : j < v.cells.size := by omega
    simp [this]
  unfold loadVar
  simp only [Sem.run_bind, zlNZ hk, Result.andThen_ok]
  cases k with
  | none =>
    simp only [Option.isSome_none, Bool.false_eq_true, if_false]
    have h0 := hcell 0 (by simp [kst])
    simp only [Addr.add, if_true] at h0
    have hv := hn rfl
    rw [hv] at h0
    simp at h0
    simp [load, Sem.run, h0]
  | some n =>
    obtain ⟨vs, rfl⟩ := ha (by simp)
    simp only [Option.isSome_some, if_true, Sem.run_bind, zW9l (zu6q hk), Result.andThen_ok, kst]
    have hl := run_loadCells (P := P) (w := w) ⟨blk, off, none⟩ n (fun j => vs.getD j undef) (fun j hlt => hcell j hlt)
    rw [hl]
    simp only [Result.andThen_ok, Sem.run_pure]
    simp only [Value.cells, kst] at hs
    congr 2
    apply Array.ext
    · simp [hs]
    · intro i h1 h2
      have h3 : i < vs.size := by simpa using h2
      simp [h3]
end Ab
namespace Ab
open Go
variable {P : Program}
def Yld (P : Program) (s : Sem Next) (w : World) (v : Value) : Prop := s.run P w = .ok (.value v) w
theorem zPhm {P : Program} {s : Sem Value} {w : World} {v : Value} (h : s.run P w = .ok v w) : (do pure (Next.value (← s)) : Sem Next).run P w = .ok (.value v) w := by
  simp only [Sem.run_bind, h, Result.andThen_ok, Sem.run_pure]
theorem zULH {C : Ctx} {H : Array Obj} {v : Value} {x : AV} (h : constIs v x = true) : VR C H x v := by
  unfold constIs at h
  split at h <;> first
    | (simp at h; done)
    | skip
  · simp at h; subst h; unfold VR; rfl
  · rename_i k n j m
    cases hk : kindOf j with
    | none => simp [hk] at h
    | some K =>
      simp [hk] at h
      obtain ⟨rfl, rfl⟩ := h
      unfold VR; exact ⟨_, hk, rfl⟩
  · simp at h; subst h; unfold VR; rfl
  · unfold VR; rfl
  · unfold VR; rfl
  · unfold VR; rfl
  · unfold VR; rfl
  · simp at h
    unfold VR; rw [← h]
theorem zIkN {C : Ctx} {H : Array Obj} : ∀ {vs : List Value} {xs : List AV}, constsAre vs xs = true → VRL C H xs vs
  | [], [], _ => rfl
  | v :: vs, x :: xs, h => by
    simp only [constsAre, Bool.and_eq_true] at h
    exact ⟨v, vs, rfl, zULH h.1, zIkN h.2⟩
  | [], _ :: _, h => by simp [constsAre] at h
  | _ :: _, [], h => by simp [constsAre] at h
theorem zscY {C : Ctx} {H : Array Obj} {R : Operand → Rf → Bool} {ρ : Operand → Value} {r : Rf → AV} (hR : ∀ x y, R x y = true → VR C H (r y) (ρ x)) :
    ∀ {xs : List Operand} {ys : List Rf}, allR R xs ys = true → VRL C H (ys.map r) (xs.map ρ)
  | [], [], _ => rfl
  | x :: xs, y :: ys, h => by
    simp only [allR, Bool.and_eq_true] at h
    exact ⟨ρ x, xs.map ρ, rfl, hR _ _ h.1, zscY hR h.2⟩
  | [], _ :: _, h => by simp [allR] at h
  | _ :: _, [], h => by simp [allR] at h
theorem zL9t {n : Int} (h : inR n = true) : IntKind.i64.wrap n = n := by
  simp only [inR, Bool.and_eq_true, decide_eq_true_eq] at h
  exact IntWalk.i64_in n ⟨by omega, by omega⟩
end Ab
namespace Ab
open Go
variable {P : Program}
section plain
variable {ρ : Operand → Value} {r : Rf → AV} {w : World} {C : Ctx} {H : Array Obj} {R : Operand → Rf → Bool}
def Plain (P : Program) (ρ : Operand → Value) (o : Oper) (w : World) (C : Ctx) (H : Array Obj) (x : AV) : Prop :=
  ∃ v, (execOp ρ o).run P w = .ok (.value v) w ∧ VR C H x v
theorem zBZO {o : Oper} {s : Sem Value} {v : Value} {x : AV} (he : execOp ρ o = (do pure (Next.value (← s)))) (h : s.run P w = .ok v w) (hv : VR C H x v) : Plain P ρ o w C H x :=
  ⟨v, by rw [he]; exact zPhm h, hv⟩
theorem zSDS (n : Int) : IntKind.i64.wrap n = wr n := by
  unfold wr
  simp only [IntKind.wrap, IntKind.bits, IntKind.signed, Bool.true_and, decide_eq_true_eq, show (2 : Int) ^ 64 = 18446744073709551616 by decide, show (2 : Int) ^ (64 - 1) = 9223372036854775808 by decide]
  split <;> omega
theorem zMSb {op : BinOp} {b : Bin} {n m : Int} {x : AV} (hb : binIs op b = true) (hx : bin b n m = some x) (t : TypeId) :
    ∃ v, (binOp op t (.int .i64 n) (.int .i64 m)).run P w = .ok v w ∧ VR C H x v := by
  unfold binIs at hb
  split at hb <;> simp only [bin] at hx
  case h_13 => simp at hb
  all_goals simp only [binOp, ne_eq, not_true_eq_false, if_false, Op.intArith, Op.intCmp, Op.intDiv]
  case h_1 => split at hx <;> simp at hx; rename_i h; subst hx; exact ⟨_, rfl, by unfold VR; rw [zL9t h]⟩
  case h_2 => simp at hx; subst hx; exact ⟨_, rfl, by unfold VR; rw [zSDS]⟩
  case h_3 => split at hx <;> simp at hx; rename_i h; subst hx; exact ⟨_, rfl, by unfold VR; rw [zL9t h]⟩
  case h_4 => split at hx <;> simp at hx; rename_i h; subst hx; exact ⟨_, rfl, by unfold VR; rw [zL9t h]⟩
  case h_5 =>
    by_cases h0 : m = 0
    · simp [h0] at hx
    · simp [h0] at hx; obtain ⟨h, rfl⟩ := hx
      simp only [h0, if_false]
      exact ⟨_, rfl, by unfold VR; rw [zL9t h]⟩
  case h_6 =>
    by_cases h0 : m = 0
    · simp [h0] at hx
    · simp [h0] at hx; subst hx
      simp only [h0, if_false]
      exact ⟨_, rfl, by unfold VR; rfl⟩
  all_goals
    simp at hx; subst hx
    refine ⟨_, rfl, ?_⟩
    unfold VR
    first | rfl | (simp [bne])
end plain
end Ab
namespace Ab
open Go
variable {P : Program}
theorem zSqJ {x : AV} (h : noLoc x = true) : Solid x := by
  refine ⟨?_, fun l => ?_⟩ <;> (intro e; subst e; simp [noLoc] at h)
def IOp.isPlain : IOp → Bool
  | .mv _ | .bin .. | .beq .. | .not _ | .pick .. | .len _ | .mx .. | .fad .. | .iad .. | .iada .. | .nck _ | .bld .. | .fld .. | .ext .. | .mkf .. | .mki .. | .slc .. | .cvi _ | .ldi .. | .bnl .. | .ld .. => true
  | _ => false
section
variable {ρ : Operand → Value} {r : Rf → AV} {w : World} {C : Ctx} {R : Operand → Rf → Bool} {ce : CE} {σ : List Blk} {nl : Nat} {ps : List Pend}
theorem z9vx (b o n : Nat) : (⟨b, o, none⟩ : Addr).add n = ⟨b, o + n, none⟩ := by
  unfold Addr.add
  split
  · rename_i h; subst h; rfl
  · rfl
theorem VR.int_inv {H : Array Obj} {n : Int} {v : Value} (h : VR C H (.int n) v) : v = .int .i64 n := h
theorem VR.bool_inv {H : Array Obj} {n : Bool} {v : Value} (h : VR C H (.bool n) v) : v = .bool n := h
theorem zkIt {o : Oper} {op : BinOp} {t t' : TypeId} {x y : Operand} {b : Bin} {x' y' : Rf} {z : AV} {p : Option Pend} (ho : o.op = .binOp op t x y t') (hb : binIs op b = true)
    (hx : VR C w.heap (r x') (ρ x)) (hy : VR C w.heap (r y') (ρ y)) (he : ev ce σ nl ps r (.bin b x' y') = some (z, p)) : Plain P ρ o w C w.heap z ∧ p = none := by
  simp only [ev] at he
  cases hx' : r x' <;> simp only [hx'] at he <;> try (simp at he; done)
  cases hy' : r y' <;> simp only [hy'] at he <;> try (simp at he; done)
  rename_i n m
  rw [hx'] at hx; rw [hy'] at hy
  have hx := hx.int_inv; have hy := hy.int_inv
  cases hz : Ab.bin b n m with
  | none => simp [hz] at he
  | some z' =>
    simp [hz] at he
    obtain ⟨rfl, rfl⟩ := he
    obtain ⟨v, h1, h2⟩ := zMSb (P := P) (w := w) (C := C) (H := w.heap) hb hz t
    refine ⟨zBZO (s := do eqGuard op t x y (ρ x) (ρ y); binOp op t (ρ x) (ρ y)) (by simp only [execOp, ho]) ?_ h2, rfl⟩
    rw [hx, hy]
    have hg : (eqGuard op t x y (.int .i64 n) (.int .i64 m)).run P w = .ok () w := by
      unfold eqGuard
      split <;> simp
    simp only [Sem.run_bind, hg, Result.andThen_ok, h1]
theorem zqyU {o : Oper} {op : BinOp} {t t' : TypeId} {x y : Operand} {neg : Bool} {x' y' : Rf} {z : AV} {p : Option Pend} (ho : o.op = .binOp op t x y t')
    (hop : eqOp op neg = true) (ht : (match P.underlying t with | some .bool => true | _ => false) = true)
    (hx : VR C w.heap (r x') (ρ x)) (hy : VR C w.heap (r y') (ρ y)) (he : ev ce σ nl ps r (.beq neg x' y') = some (z, p)) : Plain P ρ o w C w.heap z ∧ p = none := by
  have hu : P.underlying t = some .bool := by
    split at ht
    · assumption
    · simp at ht
  simp only [ev] at he
  cases hx' : r x' <;> simp only [hx'] at he <;> try (simp at he; done)
  cases hy' : r y' <;> simp only [hy'] at he <;> try (simp at he; done)
  rename_i a b
  rw [hx'] at hx; rw [hy'] at hy
  have hx := hx.bool_inv; have hy := hy.bool_inv
  simp at he
  obtain ⟨rfl, rfl⟩ := he
  refine ⟨zBZO (s := do eqGuard op t x y (ρ x) (ρ y); binOp op t (ρ x) (ρ y)) (v := .bool ((a == b) != neg)) (by simp only [execOp, ho]) ?_ (by unfold VR; rfl), rfl⟩
  rw [hx, hy]
  have hg : (eqGuard op t x y (.bool a) (.bool b)).run P w = .ok () w := by
    unfold eqGuard
    split <;> simp
  have hq : (Op.equal t (.bool a) (.bool b)).run P w = .ok (a == b) w := by
    unfold Op.equal Op.maxDepth Op.equalIn
    simp only [Sem.run_bind, run_underlying hu, Result.andThen_ok, Sem.run_pure]
  unfold eqOp at hop
  split at hop
  · simp only [Sem.run_bind, hg, Result.andThen_ok, binOp, hq, Sem.run_pure]
    simp at hop; subst hop; simp
  · simp only [Sem.run_bind, hg, Result.andThen_ok, binOp, hq, Sem.run_pure]
    subst hop; simp
  · simp at hop
theorem zj0W : ∀ {xs ys : List AV} {b : Bool}, eqInts xs ys = some b → ∃ Xs Ys : List Int, xs = Xs.map .int ∧ ys = Ys.map .int ∧ Xs.length = Ys.length ∧ b = decide (Xs = Ys)
  | [], [], b, h => by simp [eqInts] at h; subst h; exact ⟨[], [], rfl, rfl, rfl, by simp⟩
  | .int a :: xs, .int c :: ys, b, h => by
    simp only [eqInts] at h
    cases hr : eqInts xs ys with
    | none => rw [hr] at h; simp at h
    | some d =>
      rw [hr] at h
      simp at h
      obtain ⟨Xs, Ys, h1, h2, h3, h4⟩ := zj0W hr
      refine ⟨a :: Xs, c :: Ys, by rw [h1]; rfl, by rw [h2]; rfl, by simp [h3], ?_⟩
      rw [← h, h4, Bool.eq_iff_iff]
      simp
theorem z1Jy {H : Array Obj} : ∀ {Xs : List Int} {vs : List Value}, VRL C H (Xs.map .int) vs → vs = Xs.map (Value.int .i64)
  | [], vs, h => h
  | x :: Xs, vs, h => by
    obtain ⟨v, s, rfl, h1, h2⟩ := h
    rw [z1Jy h2, h1.int_inv]; rfl
theorem z4Sq {d : Nat} {Xs Ys : List Int} {w : World} (hl : Xs.length = Ys.length) : ∀ {fs : List Field} {o : Nat}, intFields P fs o = true → o + fs.length = Xs.length →
    (Op.eqFields (d + 1) (Xs.map (Value.int .i64)).toArray (Ys.map (Value.int .i64)).toArray fs).run P w = .ok (decide (Xs.drop o = Ys.drop o)) w
  | [], o, _, ho => by
    simp only [Op.eqFields, Sem.run_pure]
    rw [List.drop_of_length_le (by simp at ho; omega), List.drop_of_length_le (by simp at ho; omega)]
    simp
  | f :: fs, o, hi, ho => by
    simp only [intFields, Bool.and_eq_true, beq_iff_eq, bne_iff_ne] at hi
    obtain ⟨⟨⟨⟨h1, h2⟩, h3⟩, h4⟩, h5⟩ := hi
    have hu : P.underlying f.type = some (.int .i64) := by
      split at h2
      · assumption
      · simp at h2
    simp only [List.length_cons] at ho
    have hX : o < Xs.length := by omega
    have hY : o < Ys.length := by omega
    have hp : ∀ (Z : List Int) (h : o < Z.length), (Go.part f.type (Z.map (Value.int .i64)).toArray f.offset).run P w = .ok (.int .i64 Z[o]) w := fun Z h => by
      have hg : (Z.map (Value.int .i64)).toArray[o]? = some (.int .i64 Z[o]) := by simp [h]
      simp only [Go.part, Sem.run_bind, zlNZ h3, Option.isSome_none, Result.andThen_ok, Bool.false_eq_true, if_false, h4, hg, Sem.run_pure]
    simp only [Op.eqFields, if_pos h1, Sem.run_bind, hp Xs hX, hp Ys hY, Result.andThen_ok, run_equalIn_int w d f.type .i64 .i64 _ _ hu]
    have ih := z4Sq (d := d) (w := w) hl h5 (by omega)
    have hiff : (Xs.drop o = Ys.drop o) ↔ (Xs[o] = Ys[o] ∧ Xs.drop (o + 1) = Ys.drop (o + 1)) := by
      rw [List.drop_eq_getElem_cons hX, List.drop_eq_getElem_cons hY, List.cons.injEq]
    by_cases e : Xs[o] = Ys[o]
    · have hd : decide (Xs.drop (o + 1) = Ys.drop (o + 1)) = decide (Xs.drop o = Ys.drop o) := by
        rw [Bool.eq_iff_iff, decide_eq_true_iff, decide_eq_true_iff, hiff]
        exact ⟨fun h => ⟨e, h⟩, fun h => h.2⟩
      have eb : (Xs[o] == Ys[o]) = true := by simpa using e
      simp only [eb, Bool.not_true, Bool.false_eq_true, if_false, ih, hd]
    · have e' : (Xs[o] == Ys[o]) = false := by simpa using e
      have hd : decide (Xs.drop o = Ys.drop o) = false := decide_eq_false fun h => e (hiff.1 h).1
      simp only [e', Bool.not_false, if_true, Sem.run_pure, hd]
theorem zTwW {o : Oper} {op : BinOp} {t t' : TypeId} {x y : Operand} {neg : Bool} {n : Nat} {x' y' : Rf} {z : AV} {p : Option Pend} (ho : o.op = .binOp op t x y t')
    (hop : eqOp op neg = true) (ht : seqOk P t n = true)
    (hx : VR C w.heap (r x') (ρ x)) (hy : VR C w.heap (r y') (ρ y)) (he : ev ce σ nl ps r (.seq neg n x' y') = some (z, p)) : Plain P ρ o w C w.heap z ∧ p = none := by
  unfold seqOk at ht
  simp only [Bool.and_eq_true, Bool.not_eq_true'] at ht
  obtain ⟨⟨ht1, ht2⟩, ht3⟩ := ht
  split at ht1
  case h_2 => simp at ht1
  rename_i fs hu
  simp only [Bool.and_eq_true, beq_iff_eq] at ht1
  obtain ⟨hn, hi⟩ := ht1
  simp only [ev] at he
  cases hx' : r x' <;> simp only [hx'] at he <;> try (simp at he; done)
  cases hy' : r y' <;> simp only [hy'] at he <;> try (simp at he; done)
  rename_i xs ys
  rw [hx'] at hx; rw [hy'] at hy
  split at he
  case isFalse => simp at he
  rename_i hxl
  cases hb : eqInts xs ys with
  | none => rw [hb] at he; simp at he
  | some b =>
    rw [hb] at he
    simp at he
    obtain ⟨rfl, rfl⟩ := he
    obtain ⟨Xs, Ys, rfl, rfl, hl, rfl⟩ := zj0W hb
    obtain ⟨vs, ex, hv1, _⟩ := hx
    obtain ⟨us, ey, hv2, _⟩ := hy
    rw [z1Jy hv1] at ex
    rw [z1Jy hv2] at ey
    have hfo : P.fieldsOf t = fs := by unfold Program.fieldsOf; rw [hu]
    have hXl : Xs.length = n := by simpa using hxl
    refine ⟨zBZO (s := do eqGuard op t x y (ρ x) (ρ y); binOp op t (ρ x) (ρ y)) (v := .bool ((decide (Xs = Ys)) != neg)) (by simp only [execOp, ho]) ?_ (by unfold VR; rfl), rfl⟩
    rw [ex, ey]
    have hg := run_eqGuard_agg w op t x y (Xs.map (Value.int .i64)).toArray (Ys.map (Value.int .i64)).toArray ht3
    have hq : (Op.equalIn 10000 t (.agg (Xs.map (Value.int .i64)).toArray) (.agg (Ys.map (Value.int .i64)).toArray)).run P w = .ok (decide (Xs = Ys)) w := by
      rw [show (10000 : Nat) = 9999 + 1 from rfl, run_equalIn_struct w 9999 t _ _ (by rw [hfo]; exact hu) ht2, hfo]
      have := z4Sq (P := P) (d := 9998) (w := w) hl (fs := fs.toList) (o := 0) hi (by simp [hXl, hn])
      simpa using this
    unfold eqOp at hop
    split at hop
    · simp only [Sem.run_bind, hg, Result.andThen_ok, run_eql_struct, hq]
      simp at hop; subst hop; simp
    · simp only [Sem.run_bind, hg, Result.andThen_ok, run_neq_struct, hq]
      subst hop; simp
    · simp at hop
theorem zLSU {a : Act} {x : Operand} (h : nilOpd x = true) (hρ : ρ = a.eval) : ρ x = .slice none 0 0 := by
  unfold nilOpd at h
  split at h
  · subst hρ; rfl
  · simp at h
theorem zFmu {neg : Bool} {x' : Rf} {z : AV} {p : Option Pend} {v : Value} (hup : ∀ b u B, upto σ b u = some B → ∃ id, C.own b u = some (B, id))
    (hx : VR C w.heap (r x') v) (he : ev ce σ nl ps r (.bnl neg x') = some (z, p)) : p = none ∧ ∃ n : Bool, z = .bool (n != neg) ∧ ((n = true ∧ v = .slice none 0 0) ∨ (n = false ∧ ∃ a l c, v = .slice (some a) l c)) := by
  simp only [ev] at he
  cases hx' : r x' <;> simp only [hx'] at he <;> try (simp at he; done)
  · simp at he; obtain ⟨rfl, rfl⟩ := he
    rw [hx'] at hx
    exact ⟨rfl, true, by cases neg <;> rfl, .inl ⟨rfl, hx⟩⟩
  · rename_i nn l
    have key : (z = .bool neg ∧ p = none) ∧ (nn = true ∨ l ≠ []) := by
      cases nn
      · cases l with
        | nil => simp at he
        | cons a b => simp at he; exact ⟨⟨he.1.symm, he.2.symm⟩, .inr (by simp)⟩
      · simp at he; exact ⟨⟨he.1.symm, he.2.symm⟩, .inl rfl⟩
    obtain ⟨⟨rfl, rfl⟩, hn⟩ := key
    rw [hx'] at hx
    unfold VR at hx
    refine ⟨rfl, false, by cases neg <;> rfl, .inr ⟨rfl, ?_⟩⟩
    rcases hx.2 with ⟨h2, a, rfl, h1⟩ | ⟨blk, off, cap, st, c, el, fz, rfl, _⟩
    · rcases hn with h | h
      · obtain ⟨q, rfl⟩ := Option.isSome_iff_exists.1 (h1 h); exact ⟨_, _, _, rfl⟩
      · exact absurd h2 h
    · exact ⟨_, _, _, rfl⟩
  · rename_i b u off len
    cases hu : upto σ b u with
    | none => simp [hu] at he
    | some B =>
      cases hs : B.st <;> simp [hu, hs] at he
      obtain ⟨rfl, rfl⟩ := he
      obtain ⟨id, ho⟩ := hup b u B hu
      rw [hx'] at hx
      unfold VR at hx
      have := hx.2.2 B id ho
      simp only [hs] at this
      obtain ⟨c, el, o, cap, _, rfl, _⟩ := this
      exact ⟨rfl, false, by cases neg <;> rfl, .inr ⟨rfl, _, _, _, rfl⟩⟩
theorem zeq1 {a : Act} {o : Oper} {op : BinOp} {t t' : TypeId} {x y : Operand} {neg : Bool} {z' : Rf} {z : AV} {p : Option Pend} (ho : o.op = .binOp op t x y t') (hρ : ρ = a.eval)
    (hop : eqOp op neg = true) (ht : (sliceOf P t).isSome = true) (hup : ∀ b u B, upto σ b u = some B → ∃ id, C.own b u = some (B, id))
    (hx : (nilOpd y = true ∧ VR C w.heap (r z') (ρ x)) ∨ (nilOpd x = true ∧ VR C w.heap (r z') (ρ y))) (he : ev ce σ nl ps r (.bnl neg z') = some (z, p)) : Plain P ρ o w C w.heap z ∧ p = none := by
  obtain ⟨e, he'⟩ := Option.isSome_iff_exists.1 ht
  have hu := zsha he' w
  have main : ∀ v1 v2 : Value, ρ x = v1 → ρ y = v2 → (∃ n : Bool, z = .bool (n != neg) ∧ ((v1 = .slice none 0 0 ∧ ((n = true ∧ v2 = .slice none 0 0) ∨ (n = false ∧ ∃ a l c, v2 = .slice (some a) l c))) ∨
      (v2 = .slice none 0 0 ∧ ((n = true ∧ v1 = .slice none 0 0) ∨ (n = false ∧ ∃ a l c, v1 = .slice (some a) l c))))) → Plain P ρ o w C w.heap z := by
    rintro v1 v2 e1 e2 ⟨n, rfl, h⟩
    refine zBZO (s := do eqGuard op t x y (ρ x) (ρ y); binOp op t (ρ x) (ρ y)) (v := .bool (n != neg)) (by simp only [execOp, ho]) ?_ (by unfold VR; rfl)
    rw [e1, e2]
    have hg : (eqGuard op t x y v1 v2).run P w = .ok () w := by
      unfold eqGuard
      rcases h with ⟨rfl, ⟨_, rfl⟩ | ⟨_, _, _, _, rfl⟩⟩ | ⟨rfl, ⟨_, rfl⟩ | ⟨_, _, _, _, rfl⟩⟩ <;> split <;> simp
    have hq : (Op.equal t v1 v2).run P w = .ok n w := by
      unfold Op.equal Op.maxDepth Op.equalIn
      rcases h with ⟨rfl, ⟨rfl, rfl⟩ | ⟨rfl, _, _, _, rfl⟩⟩ | ⟨rfl, ⟨rfl, rfl⟩ | ⟨rfl, _, _, _, rfl⟩⟩ <;> simp [Sem.run_bind, hu, Result.andThen_ok, Sem.run_pure]
    have hb : op = .eql ∧ neg = false ∨ op = .neq ∧ neg = true := by
      unfold eqOp at hop
      split at hop
      · simp at hop; exact .inl ⟨rfl, hop⟩
      · exact .inr ⟨rfl, hop⟩
      · simp at hop
    rcases hb with ⟨rfl, rfl⟩ | ⟨rfl, rfl⟩ <;>
      rcases h with ⟨rfl, ⟨rfl, rfl⟩ | ⟨rfl, _, _, _, rfl⟩⟩ | ⟨rfl, ⟨rfl, rfl⟩ | ⟨rfl, _, _, _, rfl⟩⟩ <;>
      simp [Sem.run_bind, hg, Result.andThen_ok, binOp, hq, Sem.run_pure]
  rcases hx with ⟨hn, hx⟩ | ⟨hn, hx⟩
  · obtain ⟨rfl, n, hz, h⟩ := zFmu hup hx he
    exact ⟨main _ _ rfl rfl ⟨n, hz, .inr ⟨zLSU hn hρ, h⟩⟩, rfl⟩
  · obtain ⟨rfl, n, hz, h⟩ := zFmu hup hx he
    exact ⟨main _ _ rfl rfl ⟨n, hz, .inl ⟨zLSU hn hρ, h⟩⟩, rfl⟩
theorem zqOW {o : Oper} {t : TypeId} {x : Operand} {y : Rf} {z : AV} {p : Option Pend} (ho : o.op = .unOp .not t x)
    (hx : VR C w.heap (r y) (ρ x)) (he : ev ce σ nl ps r (.not y) = some (z, p)) : Plain P ρ o w C w.heap z ∧ p = none := by
  simp only [ev] at he
  cases hx' : r y <;> simp only [hx'] at he <;> try (simp at he; done)
  rename_i b
  rw [hx'] at hx
  simp at he; obtain ⟨rfl, rfl⟩ := he
  refine ⟨zBZO (s := Op.unary .not (ρ x)) (v := .bool !b) (by simp only [execOp, ho]) ?_ (by unfold VR; rfl), rfl⟩
  rw [hx.bool_inv]; rfl
theorem zpis {o : Oper} {t : TypeId} {x : Operand} {y : Rf} {z : AV} {p : Option Pend} (ho : o.op = .unOp .neg t x)
    (hx : VR C w.heap (r y) (ρ x)) (hr : r (.c (.int 0)) = .int 0) (he : ev ce σ nl ps r (.bin .sub (.c (.int 0)) y) = some (z, p)) : Plain P ρ o w C w.heap z ∧ p = none := by
  simp only [ev, hr] at he
  cases hx' : r y <;> simp only [hx'] at he <;> try (simp at he; done)
  rename_i n
  rw [hx'] at hx
  simp only [bin] at he
  split at he <;> simp at he
  rename_i h
  obtain ⟨rfl, rfl⟩ := he
  refine ⟨zBZO (s := Op.unary .neg (ρ x)) (v := .int .i64 (0 - n)) (by simp only [execOp, ho]) ?_ (by unfold VR; simp), rfl⟩
  rw [hx.int_inv]
  simp only [Op.unary, Op.intArith, Sem.run_pure, zL9t h]
theorem zLpe {o : Oper} {c a b : Operand} {c' a' b' : Rf} {z : AV} {p : Option Pend} (ho : o.op = .pick c a b)
    (hc : VR C w.heap (r c') (ρ c)) (ha : VR C w.heap (r a') (ρ a)) (hb : VR C w.heap (r b') (ρ b)) (he : ev ce σ nl ps r (.pick c' a' b') = some (z, p)) : Plain P ρ o w C w.heap z ∧ p = none := by
  simp only [ev] at he
  cases hx' : r c' <;> simp only [hx'] at he <;> try (simp at he; done)
  rename_i q
  rw [hx'] at hc
  have hc := hc.bool_inv
  cases q <;> simp at he <;> obtain ⟨rfl, rfl⟩ := he
  · exact ⟨⟨ρ b, by simp only [execOp, ho, hc, asBool, Sem.run_bind, Result.andThen_ok, Sem.run_pure]; simp, hb⟩, rfl⟩
  · exact ⟨⟨ρ a, by simp only [execOp, ho, hc, asBool, Sem.run_bind, Result.andThen_ok, Sem.run_pure]; simp, ha⟩, rfl⟩
theorem znk4 {H : Array Obj} {x : AV} {v : Value} {n : Nat} (hv : VR C H x v) (h : x = .snil ∧ n = 0 ∨ (∃ nn l, x = .imm nn l ∧ n = l.length) ∨ (∃ b u o, x = .sl b u o n)) : ∃ a c, v = .slice a n c := by
  rcases h with ⟨rfl, rfl⟩ | ⟨nn, l, rfl, rfl⟩ | ⟨b, u, o, rfl⟩
  · exact ⟨_, _, hv⟩
  · unfold VR at hv
    rcases hv.2 with ⟨rfl, _, h, _⟩ | ⟨_, _, _, _, _, _, _, h, _⟩
    · exact ⟨_, _, h⟩
    · exact ⟨_, _, h⟩
  · unfold VR at hv
    obtain ⟨⟨a, c, h, _⟩, _⟩ := hv
    exact ⟨a, c, h⟩
theorem zQl7 {o : Oper} {ca : Call} {x : Operand} {t : TypeId} {y : Rf} {z : AV} {p : Option Pend} (ho : o.op = .call ca) (hc : ca.callee = .builtin .len) (ha : ca.args.toList = [x]) (hat : ca.argTypes.toList = [t])
    (ht : (sliceOf P t).isSome = true) (hx : VR C w.heap (r y) (ρ x)) (he : ev ce σ nl ps r (.len y) = some (z, p)) : Plain P ρ o w C w.heap z ∧ p = none := by
  obtain ⟨e, he'⟩ := Option.isSome_iff_exists.1 ht
  have hu := zsha he' w
  have key : ∃ n : Nat, z = .int n ∧ p = none ∧ ∃ a c, ρ x = .slice a n c := by
    simp only [ev] at he
    cases hx' : r y <;> simp only [hx'] at he <;> try (simp at he; done)
    · simp at he; obtain ⟨rfl, rfl⟩ := he
      exact ⟨0, rfl, rfl, znk4 (x := .snil) (by rw [← hx']; exact hx) (.inl ⟨rfl, rfl⟩)⟩
    · rename_i nn l
      simp at he; obtain ⟨rfl, rfl⟩ := he
      exact ⟨l.length, rfl, rfl, znk4 (x := .imm nn l) (by rw [← hx']; exact hx) (.inr (.inl ⟨nn, l, rfl, rfl⟩))⟩
    · rename_i b u off n
      simp at he; obtain ⟨rfl, rfl⟩ := he
      exact ⟨n, rfl, rfl, znk4 (x := .sl b u off n) (by rw [← hx']; exact hx) (.inr (.inr ⟨b, u, off, rfl⟩))⟩
  obtain ⟨n, rfl, rfl, a, c, hv⟩ := key
  have ha' : ca.args = #[x] := by rw [← Array.toList_inj]; simpa using ha
  have hat' : ca.argTypes = #[t] := by rw [← Array.toList_inj]; simpa using hat
  refine ⟨⟨.int .i64 n, ?_, by unfold VR; rfl⟩, rfl⟩
  simp only [execOp, ho, resolve, hc, ha', hat', Sem.run_bind, Sem.run_pure, Result.andThen_ok, invoke, builtin, Builtin.len_]
  simp [hv, Sem.run_bind, hu, goInt]
theorem pl_mx {o : Oper} {ca : Call} {x y : Operand} {m : Bool} {x' y' : Rf} {z : AV} {p : Option Pend} (ho : o.op = .call ca) (hc : ca.callee = .builtin (if m then .max else .min)) (ha : ca.args.toList = [x, y])
    (hx : VR C w.heap (r x') (ρ x)) (hy : VR C w.heap (r y') (ρ y)) (he : ev ce σ nl ps r (.mx m x' y') = some (z, p)) : Plain P ρ o w C w.heap z ∧ p = none := by
  simp only [ev] at he
  cases hx' : r x' <;> simp only [hx'] at he <;> try (simp at he; done)
  cases hy' : r y' <;> simp only [hy'] at he <;> try (simp at he; done)
  rename_i a b
  rw [hx'] at hx; rw [hy'] at hy
  have hx := hx.int_inv; have hy := hy.int_inv
  simp at he; obtain ⟨rfl, rfl⟩ := he
  have ha' : ca.args = #[x, y] := by rw [← Array.toList_inj]; simpa using ha
  refine ⟨⟨.int .i64 (if m then (if a < b then b else a) else (if b < a then b else a)), ?_, by unfold VR; cases m <;> rfl⟩, rfl⟩
  cases m
  · simp only [execOp, ho, resolve, hc, ha', Sem.run_bind, Sem.run_pure, Result.andThen_ok, invoke, builtin, Builtin.min_]
    simp [hx, hy, Builtin.min2]
  · simp only [execOp, ho, resolve, hc, ha', Sem.run_bind, Sem.run_pure, Result.andThen_ok, invoke, builtin, Builtin.max_]
    simp [hx, hy, Builtin.max2]
theorem zEZN {H : Array Obj} {x : AV} {v : Value} (h : VR C H (.pimm x) v) :
    noLoc x = true ∧ ∃ blk off c el fz y, v = .pointer (some ⟨blk, off, none⟩) ∧ C.I blk ∧ H[blk]? = some (.cells c el fz) ∧ VR C H x y ∧ ∀ j, j < y.cells.size → c[off + j]? = y.cells[j]? := by
  unfold VR at h; exact h
theorem zocG {cs : List AV} {off : Nat} {k : Option Nat} {x : AV} (h : noLocs cs = true) (hp : part cs off k = some x) : noLoc x = true := by
  have hmem : ∀ y ∈ cs, noLoc y = true := by
    clear hp
    induction cs with
    | nil => simp
    | cons a r ih =>
      simp only [noLocs, Bool.and_eq_true] at h
      intro y hy
      rcases List.mem_cons.1 hy with rfl | hy
      · exact h.1
      · exact ih h.2 y hy
  cases k with
  | none => simp only [part, znyW] at hp; exact hmem x (List.mem_of_getElem? hp)
  | some n =>
    simp only [part] at hp
    split at hp <;> simp at hp
    subst hp
    simp only [noLoc]
    exact za6m fun y hy => hmem y (List.mem_of_mem_drop (List.mem_of_mem_take hy))
theorem zla6 {x : AV} (h : noLoc x = true) : noLocs x.cells = true := by
  cases x <;> simp_all [AV.cells, noLoc, noLocs]
theorem zm8J {H : Array Obj} {x y : AV} {blk off : Nat} {c : Array Value} {el : TypeId} {fz : Nat × Nat} {val : Value} {d : Nat} {k : Option Nat} (hn : noLoc x = true) (hI : C.I blk) (hH : H[blk]? = some (.cells c el fz))
    (hv : VR C H x val) (hj : ∀ j, j < val.cells.size → c[off + j]? = val.cells[j]?) (hp : part x.cells d k = some y) :
    VR C H (.pimm y) (.pointer (some ⟨blk, off + d, none⟩)) := by
  obtain ⟨v, h1, h2, h3, _⟩ := ztYd (zSqJ hn) hv hp
  have hs := VR.size (zSqJ hn) hv
  have hle : d + kst k ≤ val.cells.size := by
    rw [hs]
    cases k with
    | none =>
      simp only [part, znyW] at hp
      have := (List.getElem?_eq_some_iff.1 hp).1
      simp [kst]; omega
    | some n =>
      simp only [part] at hp
      split at hp <;> simp at hp
      simp [kst]; omega
  unfold VR
  refine ⟨zocG (zla6 hn) hp, blk, off + d, c, el, fz, v, rfl, hI, hH, h1, fun j hj' => ?_⟩
  rw [← h3 j (by omega), ← hj (d + j) (by omega), Nat.add_assoc]
theorem zZou {o : Oper} {s : TypeId} {x : Operand} {f : Nat} {fs : Array Field} {fl : Field} {y : Rf} {off : Nat} {k : Option Nat} {z : AV} {p : Option Pend} (ho : o.op = .fieldAddr s x f)
    (hs : P.underlying s = some (.struct fs)) (hf : fs[f]? = some fl) (hoff : fl.offset = off) (hk : kindIs P fl.type k = true) (h0 : sizeIs P fl.type 0 = false)
    (hx : VR C w.heap (r y) (ρ x)) (he : ev ce σ nl ps r (.fad y off k) = some (z, p)) : Plain P ρ o w C w.heap z ∧ p = none := by
  have hk0 : kst k ≠ 0 := by
    intro h
    have := zu6q hk
    rw [h] at this
    rw [this] at h0; simp at h0
  have hrun : ∀ blk b, ρ x = .pointer (some ⟨blk, b, none⟩) → (Instr.fieldAt s (ρ x) f).run P w = .ok (.pointer (some ⟨blk, b + off, none⟩)) w := fun blk b e => by
    rw [e]
    simp only [Instr.fieldAt, Sem.run_bind, run_underlying hs, Result.andThen_ok, hf, Instr.sureAddr, Sem.run_pure, fieldPlace, zW9l (zu6q hk), if_neg hk0, hoff, z9vx]
  simp only [ev] at he
  cases hx' : r y <;> simp only [hx'] at he <;> try (simp at he; done)
  · rename_i q
    rw [hx'] at hx
    cases hp : part q.cells off k with
    | none => simp [hp] at he
    | some q' =>
      simp [hp] at he; obtain ⟨rfl, rfl⟩ := he
      obtain ⟨hn, blk, b, c, el, fz, val, e, hI, hH, hv, hj⟩ := zEZN hx
      exact ⟨zBZO (s := Instr.fieldAt s (ρ x) f) (by simp only [execOp, ho]) (hrun blk b e) (zm8J hn hI hH hv hj hp), rfl⟩
  · rename_i b u o'
    simp at he; obtain ⟨rfl, rfl⟩ := he
    rw [hx'] at hx
    unfold VR at hx
    obtain ⟨⟨blk, e⟩, h1, h3⟩ := hx
    refine ⟨zBZO (s := Instr.fieldAt s (ρ x) f) (by simp only [execOp, ho]) (hrun blk o' e) ?_, rfl⟩
    unfold VR
    refine ⟨⟨blk, rfl⟩, h1, fun B id hB hl => ?_⟩
    have := h3 B id hB hl
    rw [e] at this
    simp at this
    rw [this]
theorem zbDo {o : Oper} {s : TypeId} {x : Operand} {f : Nat} {fs : Array Field} {fl : Field} {y : Rf} {off : Nat} {k : Option Nat} {z : AV} {p : Option Pend} (ho : o.op = .field s x f)
    (hs : P.underlying s = some (.struct fs)) (hf : fs[f]? = some fl) (hoff : fl.offset = off) (hk : kindIs P fl.type k = true)
    (hx : VR C w.heap (r y) (ρ x)) (he : ev ce σ nl ps r (.fld y off k) = some (z, p)) : Plain P ρ o w C w.heap z ∧ p = none := by
  simp only [ev] at he
  cases hl : r y <;> simp only [hl] at he <;> try (simp at he; done)
  rename_i l
  cases hp : part l off k with
  | none => simp [hp] at he
  | some q' =>
    simp [hp] at he; obtain ⟨rfl, rfl⟩ := he
    have hp' := hp
    rw [show l = (r y).cells from by rw [hl]] at hp
    have hu : Solid (r y) := by rw [hl]; exact ⟨by simp, by simp⟩
    obtain ⟨v, h1, h2, h3, h4, h5⟩ := ztYd hu hx hp
    rw [hl] at hx
    unfold VR at hx
    obtain ⟨vs, e, hvl, _⟩ := hx
    refine ⟨zBZO (s := Instr.field s (ρ x) f) (by simp only [execOp, ho]) (v := v) ?_ h1, rfl⟩
    rw [e] at h3 ⊢
    simp only [Instr.field, Sem.run_bind, run_underlying hs, Result.andThen_ok, hf, asAgg, Sem.run_pure, hoff, Go.part, zlNZ hk]
    cases k with
    | none =>
      simp only [Option.isSome_none, Bool.false_eq_true, if_false]
      have := h3 0 (by simp [kst])
      rw [h4 rfl] at this
      simp [Value.cells] at this
      simp [this]
    | some n =>
      obtain ⟨us, rfl⟩ := h5 (by simp)
      simp only [Option.isSome_some, if_true, Sem.run_bind, zW9l (zu6q hk), Result.andThen_ok, Sem.run_pure, kst]
      congr 2
      simp only [Value.cells, kst] at h2 h3
      apply Array.ext
      · simp
        have : off + n ≤ vs.length := by
          rcases Nat.eq_zero_or_pos n with h0 | h0
          · subst h0
            simp only [part] at hp
            split at hp <;> simp at hp
            rename_i hle
            have hlen := VRL.length hvl
            rw [hl] at hle
            simp [AV.cells] at hle
            omega
          · have := h3 (n - 1) (by omega)
            rw [Array.getElem?_eq_getElem (by omega : n - 1 < us.size)] at this
            have := (Array.getElem?_eq_some_iff.1 this).1
            simp at this
            omega
        omega
      · intro i h1' h2'
        have := h3 i (by omega)
        rw [Array.getElem?_eq_getElem h2'] at this
        simp at this
        simp
        rw [List.getElem?_eq_some_iff] at this
        obtain ⟨h, e'⟩ := this
        exact e'
theorem zpHv {l : List AV} {v : Value} {q' : AV} {off : Nat} {t : TypeId} {k : Option Nat} (hk : kindIs P t k = true) (hx : VR C w.heap (.agg l) v) (hp : part l off k = some q') :
    ∃ cs v', v = .agg cs ∧ (Go.part t cs off).run P w = .ok v' w ∧ VR C w.heap q' v' := by
  have hp' := hp
  have hu : Solid (AV.agg l) := ⟨by simp, by simp⟩
  obtain ⟨v', h1, h2, h3, h4, h5⟩ := ztYd (x := .agg l) hu hx hp
  unfold VR at hx
  obtain ⟨vs, e, hvl, _⟩ := hx
  refine ⟨_, v', e, ?_, h1⟩
  rw [e] at h3
  simp only [Go.part, Sem.run_bind, zlNZ hk, Result.andThen_ok]
  cases k with
  | none =>
    simp only [Option.isSome_none, Bool.false_eq_true, if_false]
    have := h3 0 (by simp [kst])
    rw [h4 rfl] at this
    simp [Value.cells] at this
    simp [this]
  | some n =>
    obtain ⟨us, rfl⟩ := h5 (by simp)
    simp only [Option.isSome_some, if_true, Sem.run_bind, zW9l (zu6q hk), Result.andThen_ok, Sem.run_pure, kst]
    congr 2
    simp only [Value.cells, kst] at h2 h3
    apply Array.ext
    · simp
      have : off + n ≤ vs.length := by
        rcases Nat.eq_zero_or_pos n with h0 | h0
        · subst h0
          simp only [part] at hp
          split at hp <;> simp at hp
          rename_i hle
          have hlen := VRL.length hvl
          omega
        · have := h3 (n - 1) (by omega)
          rw [Array.getElem?_eq_getElem (by omega : n - 1 < us.size)] at this
          have := (Array.getElem?_eq_some_iff.1 this).1
          simp at this
          omega
      omega
    · intro i h1' h2'
      have := h3 i (by omega)
      rw [Array.getElem?_eq_getElem h2'] at this
      simp at this
      simp
      rw [List.getElem?_eq_some_iff] at this
      obtain ⟨h, e'⟩ := this
      exact e'
theorem zupC {o : Oper} {t : TypeId} {x i : Operand} {m : Nat} {e : TypeId} {x' i' : Rf} {k : Option Nat} {z : AV} {p : Option Pend} (ho : o.op = .index t x i)
    (ht : P.underlying t = some (.array m e)) (hk : kindIs P e k = true)
    (hx : VR C w.heap (r x') (ρ x)) (hi : VR C w.heap (r i') (ρ i)) (he : ev ce σ nl ps r (.idx x' i' m k) = some (z, p)) : Plain P ρ o w C w.heap z ∧ p = none := by
  simp only [ev] at he
  cases hx' : r x' <;> simp only [hx'] at he <;> try (simp at he; done)
  cases hi' : r i' <;> simp only [hi'] at he <;> try (simp at he; done)
  rename_i l j
  split at he
  case isFalse => simp at he
  rename_i hj
  cases hp : part l (j.toNat * kst k) k with
  | none => simp [hp] at he
  | some q' =>
    simp [hp] at he; obtain ⟨rfl, rfl⟩ := he
    rw [hx'] at hx; rw [hi'] at hi
    have hi := hi.int_inv
    obtain ⟨cs, v', e1, h1, h2⟩ := zpHv hk hx hp
    refine ⟨zBZO (s := Instr.index t (ρ x) (ρ i)) (v := v') (by simp only [execOp, ho]) ?_ h2, rfl⟩
    rw [e1, hi]
    simp only [Instr.index, asIntOf, Sem.run_bind, Sem.run_pure, Result.andThen_ok, run_underlying ht, if_pos hj, zW9l (zu6q hk)]
    exact h1
theorem z1w3 {H : Array Obj} {l : List AV} {nn : Bool} {v : Value} (h : VR C H (.imm nn l) v) {i : Nat} {x : AV} (hi : l[i]? = some x) :
    noLoc x = true ∧ ∃ blk off cap st c el fz val, v = .slice (some ⟨blk, off, none⟩) l.length cap ∧ C.I blk ∧ H[blk]? = some (.cells c el fz) ∧ VR C H x val ∧ val.cells.size = st ∧ ∀ j, j < st → c[off + i * st + j]? = val.cells[j]? := by
  unfold VR at h
  obtain ⟨hn, h⟩ := h
  have hnx : noLoc x = true := by
    have : ∀ {l : List AV}, noLocs l = true → ∀ y ∈ l, noLoc y = true := by
      intro l
      induction l with
      | nil => simp
      | cons a r ih =>
        intro h y hy
        simp only [noLocs, Bool.and_eq_true] at h
        rcases List.mem_cons.1 hy with rfl | hy
        · exact h.1
        · exact ih h.2 y hy
    exact this hn x (List.mem_of_getElem? hi)
  rcases h with ⟨rfl, _⟩ | ⟨blk, off, cap, st, c, el, fz, e, _, hI, hH, hl⟩
  · simp at hi
  · obtain ⟨val, h1, h2, h3⟩ := hl.get i x hi
    exact ⟨hnx, blk, off, cap, st, c, el, fz, val, e, hI, hH, h1, h2, h3⟩
theorem z420 {o : Oper} {t e : TypeId} {x i : Operand} {x' i' : Rf} {st : Nat} {z : AV} {p : Option Pend} (ho : o.op = .indexAddr t x i)
    (ht : sliceOf P t = some e) (hst : sizeIs P e st = true)
    (hx : VR C w.heap (r x') (ρ x)) (hi : VR C w.heap (r i') (ρ i)) (he : ev ce σ nl ps r (.iad x' i' st) = some (z, p)) : Plain P ρ o w C w.heap z ∧ p = none := by
  have hrun : ∀ blk off len cap (n : Int), ρ x = .slice (some ⟨blk, off, none⟩) len cap → ρ i = .int .i64 n → 0 ≤ n → n < len → (Instr.indexAt t (ρ x) (ρ i)).run P w = .ok (.pointer (some ⟨blk, off + n.toNat * st, none⟩)) w := fun blk off len cap n e1 e2 h1 h2 => by
    rw [e1, e2]
    simp only [Instr.indexAt, Sem.run_bind, asIntOf, Sem.run_pure, Result.andThen_ok, zsha ht]
    simp only [h1, h2, and_self, if_true, Sem.run_bind, zW9l hst, Result.andThen_ok, Sem.run_pure, z9vx]
  simp only [ev] at he
  cases hx' : r x' <;> simp only [hx'] at he <;> try (simp at he; done)
  · rename_i nn l
    cases hi' : r i' <;> simp only [hi'] at he <;> try (simp at he; done)
    rename_i n
    rw [hi'] at hi
    have hi := hi.int_inv
    split at he <;> try (simp at he; done)
    rename_i hn
    rw [znyW] at he
    cases hy : l[n.toNat]? with
    | none => simp [hy] at he
    | some y =>
      simp [hy] at he; obtain ⟨hsz, rfl, rfl⟩ := he
      rw [hx'] at hx
      obtain ⟨hnl, blk, off, cap, st', c, el, fz, val, e1, hI, hH, hv, hs, hj⟩ := z1w3 hx hy
      have hlt := (List.getElem?_eq_some_iff.1 hy).1
      have hst' : st' = st := by rw [← hs, VR.size (zSqJ hnl) hv, hsz]
      subst hst'
      refine ⟨zBZO (s := Instr.indexAt t (ρ x) (ρ i)) (by simp only [execOp, ho]) (hrun blk off l.length cap n e1 hi hn (by omega)) ?_, rfl⟩
      unfold VR
      exact ⟨hnl, blk, off + n.toNat * st', c, el, fz, val, rfl, hI, hH, hv, fun j hj' => hj j (by omega)⟩
  · rename_i b u off len
    cases hi' : r i' <;> simp only [hi'] at he <;> try (simp at he; done)
    rename_i n
    rw [hi'] at hi
    have hi := hi.int_inv
    split at he <;> simp at he
    rename_i hn
    obtain ⟨rfl, rfl⟩ := he
    rw [hx'] at hx
    unfold VR at hx
    obtain ⟨⟨a, cap, e1, hc, ha⟩, h1, h3⟩ := hx
    obtain ⟨blk, rfl⟩ := ha (by omega)
    refine ⟨zBZO (s := Instr.indexAt t (ρ x) (ρ i)) (by simp only [execOp, ho]) (hrun blk off len cap n e1 hi hn.1 hn.2) ?_, rfl⟩
    unfold VR
    refine ⟨⟨blk, rfl⟩, h1, fun B id hB hl => ?_⟩
    have := h3 B id hB
    simp only [hl] at this
    obtain ⟨c, el, o', cap', _, e2, _⟩ := this
    rw [e1] at e2
    simp at e2
    rw [e2.1.1]
theorem zwAQ {o : Oper} {x : Operand} {y : Rf} {z : AV} {p : Option Pend} (ho : o.op = .nilCheck x) (hx : VR C w.heap (r y) (ρ x)) (he : ev ce σ nl ps r (.nck y) = some (z, p)) : Plain P ρ o w C w.heap z ∧ p = none := by
  have key : z = r y ∧ p = none ∧ ∃ a, ρ x = .pointer (some a) := by
    simp only [ev] at he
    cases hx' : r y <;> simp only [hx'] at he <;> try (simp at he; done)
    · simp at he
      rw [hx'] at hx
      obtain ⟨_, blk, b, c, el, fz, val, e, _⟩ := zEZN hx
      exact ⟨he.1.symm, he.2.symm, _, e⟩
    · simp at he
      rw [hx'] at hx
      unfold VR at hx
      obtain ⟨⟨blk, e⟩, _⟩ := hx
      exact ⟨he.1.symm, he.2.symm, _, e⟩
  obtain ⟨rfl, rfl, a, e⟩ := key
  exact ⟨⟨ρ x, by simp only [execOp, ho, e, Sem.run_pure], hx⟩, rfl⟩
theorem zjgG {o : Oper} {x : Operand} {i : Nat} {y : Rf} {z : AV} {p : Option Pend} (ho : o.op = .extract x i) (hx : VR C w.heap (r y) (ρ x)) (he : ev ce σ nl ps r (.ext y i) = some (z, p)) : Plain P ρ o w C w.heap z ∧ p = none := by
  simp only [ev] at he
  cases hx' : r y <;> simp only [hx'] at he <;> try (simp at he; done)
  rename_i l
  rw [znyW] at he
  cases hy : l[i]? with
  | none => simp [hy] at he
  | some q =>
    simp [hy] at he; obtain ⟨rfl, rfl⟩ := he
    rw [hx'] at hx
    unfold VR at hx
    obtain ⟨vs, e, hl⟩ := hx
    obtain ⟨v, h1, h2⟩ := hl.get i q hy
    refine ⟨zBZO (s := Instr.extract (ρ x) i) (v := v) (by simp only [execOp, ho]) ?_ h2, rfl⟩
    rw [e]
    simp [Instr.extract, h1]
theorem zP0S {o : Oper} {f : Nat} {fst caps : Array Operand} {ys : List Rf} {z : AV} {p : Option Pend} (ho : o.op = .makeFunc (.func f) fst caps) (h0 : fst.isEmpty = true)
    (hx : VRL C w.heap (ys.map r) (caps.toList.map ρ)) (he : ev ce σ nl ps r (.mkf f ys) = some (z, p)) : Plain P ρ o w C w.heap z ∧ p = none := by
  simp [ev] at he; obtain ⟨rfl, rfl⟩ := he
  have : fst = #[] := by simpa using h0
  refine ⟨zBZO (s := Instr.makeFunc (.func f) (fst.map ρ) (caps.map ρ)) (v := .func (.func f) #[] (caps.toList.map ρ).toArray) (by simp only [execOp, ho]) ?_ (by unfold VR; exact ⟨_, rfl, hx⟩), rfl⟩
  subst this
  have : Array.map ρ caps = (List.map ρ caps.toList).toArray := by rw [← Array.toList_inj]; simp
  simp [Instr.makeFunc, this]
theorem zTIk {o : Oper} {t : Nat} {x : Operand} {y : Rf} {z : AV} {p : Option Pend} (ho : o.op = .makeInterface t x)
    (ht : (match P.underlying t with | some (.interface _) => false | some _ => true | none => false) = true) (hx : VR C w.heap (r y) (ρ x)) (he : ev ce σ nl ps r (.mki t y) = some (z, p)) : Plain P ρ o w C w.heap z ∧ p = none := by
  simp [ev] at he; obtain ⟨rfl, rfl⟩ := he
  refine ⟨zBZO (s := Instr.makeInterface t (ρ x)) (v := .iface t (ρ x)) (by simp only [execOp, ho]) ?_ (by unfold VR; exact ⟨_, rfl, hx⟩), rfl⟩
  cases hu : P.underlying t with
  | none => simp [hu] at ht
  | some d =>
    simp only [Instr.makeInterface, Sem.run_bind, run_underlying hu, Result.andThen_ok]
    cases d <;> simp_all
theorem zBQB {o : Oper} {s d : TypeId} {x : Operand} {y : Rf} {z : AV} {p : Option Pend} (ho : o.op = .convert s d x)
    (ht : (match P.underlying s, P.underlying d with | some (.int _), some (.int .i64) => true | _, _ => false) = true) (hx : VR C w.heap (r y) (ρ x)) (he : ev ce σ nl ps r (.cvi y) = some (z, p)) : Plain P ρ o w C w.heap z ∧ p = none := by
  have hu : ∃ k, P.underlying s = some (.int k) ∧ P.underlying d = some (.int .i64) := by
    split at ht
    · rename_i k h1 h2; exact ⟨k, h1, h2⟩
    · simp at ht
  obtain ⟨k, hu1, hu2⟩ := hu
  have main : ∀ K n, ρ x = .int K n → inR n = true → z = .int n → p = none → Plain P ρ o w C w.heap z ∧ p = none := by
    intro K n e h hz hp
    subst hz hp
    refine ⟨zBZO (s := Go.convert s d (ρ x)) (v := .int .i64 n) (by simp only [execOp, ho]) ?_ (by unfold VR; rfl), rfl⟩
    rw [e]
    simp only [Go.convert, Sem.run_bind, run_underlying hu1, run_underlying hu2, Result.andThen_ok, Conv.intToInt, Sem.run_pure, zL9t h]
  simp only [ev] at he
  cases hx' : r y <;> simp only [hx'] at he <;> try (simp at he; done)
  · rename_i n
    rw [hx'] at hx
    split at he <;> simp at he
    rename_i h
    exact main _ n hx.int_inv h he.1.symm he.2.symm
  · rename_i k' n
    rw [hx'] at hx
    split at he <;> simp at he
    rename_i h
    unfold VR at hx
    obtain ⟨K, _, e⟩ := hx
    exact main K n e h he.1.symm he.2.symm
theorem zQ8J {o : Oper} {t e : TypeId} {x i : Operand} {x' i' : Rf} {n : Nat} {k : Option Nat} {z : AV} {p : Option Pend} (ho : o.op = .indexAddr t x i)
    (ht : P.underlying t = some (.array n e)) (hk : kindIs P e k = true)
    (hx : VR C w.heap (r x') (ρ x)) (hi : VR C w.heap (r i') (ρ i)) (he : ev ce σ nl ps r (.iada x' i' n k) = some (z, p)) : Plain P ρ o w C w.heap z ∧ p = none := by
  have hrun : ∀ blk off (j : Int), ρ x = .pointer (some ⟨blk, off, none⟩) → ρ i = .int .i64 j → 0 ≤ j → j < n → (Instr.indexAt t (ρ x) (ρ i)).run P w = .ok (.pointer (some ⟨blk, off + j.toNat * kst k, none⟩)) w := fun blk off j e1 e2 h1 h2 => by
    rw [e1, e2]
    simp only [Instr.indexAt, Sem.run_bind, asIntOf, Sem.run_pure, Result.andThen_ok, run_underlying ht, Instr.sureAddr]
    simp only [h1, h2, and_self, if_true, Sem.run_bind, zW9l (zu6q hk), Result.andThen_ok, Sem.run_pure, z9vx]
  simp only [ev] at he
  cases hx' : r x' <;> simp only [hx'] at he <;> try (simp at he; done)
  · rename_i q
    cases hi' : r i' <;> simp only [hi'] at he <;> try (simp at he; done)
    rename_i j
    rw [hi'] at hi
    have hi := hi.int_inv
    split at he <;> try (simp at he; done)
    rename_i hj
    cases hp : part q.cells (j.toNat * kst k) k with
    | none => simp [hp] at he
    | some q' =>
      simp [hp] at he; obtain ⟨rfl, rfl⟩ := he
      rw [hx'] at hx
      obtain ⟨hnl, blk, b, c, el, fz, val, e1, hI, hH, hv, hc⟩ := zEZN hx
      exact ⟨zBZO (s := Instr.indexAt t (ρ x) (ρ i)) (by simp only [execOp, ho]) (hrun blk b j e1 hi hj.1 hj.2) (zm8J hnl hI hH hv hc hp), rfl⟩
  · rename_i b u o'
    cases hi' : r i' <;> simp only [hi'] at he <;> try (simp at he; done)
    rename_i j
    rw [hi'] at hi
    have hi := hi.int_inv
    split at he <;> simp at he
    rename_i hj
    obtain ⟨rfl, rfl⟩ := he
    rw [hx'] at hx
    unfold VR at hx
    obtain ⟨⟨blk, e1⟩, h1, h3⟩ := hx
    refine ⟨zBZO (s := Instr.indexAt t (ρ x) (ρ i)) (by simp only [execOp, ho]) (hrun blk o' j e1 hi hj.1 hj.2) ?_, rfl⟩
    unfold VR
    refine ⟨⟨blk, rfl⟩, h1, fun B id hB hl => ?_⟩
    have := h3 B id hB hl
    rw [e1] at this
    simp at this
    rw [this]
theorem zM7i {o : Oper} {t : TypeId} {x : Operand} {y : Rf} {k : Option Nat} {z : AV} {p : Option Pend} (ho : o.op = .load t x) (hk : kindIs P t k = true)
    (hx : VR C w.heap (r y) (ρ x)) (he : ev ce σ nl ps r (.ldi y k) = some (z, p)) : Plain P ρ o w C w.heap z ∧ p = none := by
  simp only [ev] at he
  cases hx' : r y <;> simp only [hx'] at he <;> try (simp at he; done)
  rename_i q
  rw [hx'] at hx
  obtain ⟨hn, blk, b, c, el, fz, val, e, hI, hH, hv, hj⟩ := zEZN hx
  have hu := zSqJ hn
  have hs := VR.size hu hv
  have key : z = q ∧ p = none ∧ q.cells.length = kst k ∧ (k = none → val.cells = #[val]) ∧ (k ≠ none → ∃ vs, val = .agg vs) := by
    cases k with
    | none =>
      have hq : ∀ l, q ≠ .agg l := by intro l e; subst e; simp at he
      refine ⟨?_, ?_, ?_, fun _ => zHSU (VR.leaf hq hu hv), fun h => absurd rfl h⟩
      · cases q <;> first | exact absurd rfl (hq _) | (simp at he; exact he.1.symm)
      · cases q <;> first | exact absurd rfl (hq _) | (simp at he; exact he.2.symm)
      · cases q <;> first | exact absurd rfl (hq _) | rfl
    | some n =>
      cases q <;> simp at he
      obtain ⟨h1, rfl, rfl⟩ := he
      refine ⟨rfl, rfl, h1, fun h => by simp at h, fun _ => ?_⟩
      unfold VR at hv
      obtain ⟨vs, e, _⟩ := hv
      exact ⟨_, e⟩
  obtain ⟨rfl, rfl, hl, hn1, hn2⟩ := key
  refine ⟨zBZO (s := Instr.loadAt t (ρ x)) (v := val) (by simp only [execOp, ho]) ?_ hv, rfl⟩
  rw [e]
  simp only [Instr.loadAt, Instr.sureAddr, Sem.run_bind, Sem.run_pure, Result.andThen_ok]
  exact zOk6 hk hH (by omega) (fun j hj' => hj j (by omega)) hn1 hn2
theorem pl_ld {o : Oper} {t : TypeId} {x : Operand} {y : Rf} {k : Option Nat} {z : AV} {p : Option Pend} (ho : o.op = .load t x) (hk : kindIs P t k = true) (hg : Good C w) (hup : ∀ b u B, upto σ b u = some B → ∃ id, C.own b u = some (B, id))
    (hx : VR C w.heap (r y) (ρ x)) (he : ev ce σ nl ps r (.ld y k) = some (z, p)) : Plain P ρ o w C w.heap z ∧ p = none := by
  by_cases hp : ∃ q, r y = .pimm q
  · obtain ⟨q, hq⟩ := hp
    refine zM7i ho hk hx (ce := ce) (σ := σ) (nl := nl) (ps := ps) ?_
    rw [← he]
    simp only [ev, hq]
  · simp only [ev] at he
    cases hx' : r y <;> simp only [hx'] at he <;> try (simp at he; done)
    · exact absurd ⟨_, hx'⟩ hp
    · rename_i b u o'
      cases hu : upto σ b u with
      | none => simp [hu] at he
      | some B =>
        simp only [hu] at he
        split at he <;> try (simp at he; done)
        rename_i hlive
        cases hpt : part B.cells o' k with
        | none => simp [hpt] at he
        | some q =>
          simp [hpt] at he; obtain ⟨rfl, rfl⟩ := he
          obtain ⟨id, ho'⟩ := hup b u B hu
          rw [hx'] at hx
          unfold VR at hx
          obtain ⟨⟨blk, e⟩, _, h3⟩ := hx
          have hs : B.st = .live := by revert hlive; cases B.st <;> simp [BSt.isLive]
          have e2 := h3 B id ho' hs
          obtain ⟨_, c, el, hH, hle, hc⟩ := hg.live b u B id ho' hs
          obtain ⟨v, g1, g2, g3, g4, g5⟩ := zyRY hc hpt
          refine ⟨zBZO (s := Instr.loadAt t (ρ x)) (v := v) (by simp only [execOp, ho]) ?_ g1, rfl⟩
          rw [e2]
          simp only [Instr.loadAt, Instr.sureAddr, Sem.run_bind, Sem.run_pure, Result.andThen_ok]
          exact zOk6 hk hH g2 g3 g4 g5
theorem zAtF (cs new : List AV) (off : Nat) (h : off + new.length ≤ cs.length) : (putAt cs off new).length = cs.length ∧
    ∀ j, (putAt cs off new)[j]? = if off ≤ j ∧ j < off + new.length then new[j - off]? else cs[j]? := by
  unfold putAt
  refine ⟨by simp; omega, fun j => ?_⟩
  by_cases h1 : j < off
  · rw [if_neg (by omega), List.append_assoc, List.getElem?_append_left (by simp; omega), List.getElem?_take_of_lt h1]
  · by_cases h2 : j < off + new.length
    · rw [if_pos ⟨by omega, h2⟩, List.getElem?_append_left (by simp; omega), List.getElem?_append_right (by simp; omega)]
      simp [Nat.min_eq_left (by omega : off ≤ cs.length)]
    · rw [if_neg (by omega), List.getElem?_append_right (by simp; omega)]
      simp [Nat.min_eq_left (by omega : off ≤ cs.length)]
      congr 1; omega
theorem VRL.of {H : Array Obj} : ∀ {l : List AV} {vs : List Value}, l.length = vs.length → (∀ (i : Nat) x v, l[i]? = some x → vs[i]? = some v → VR C H x v) → VRL C H l vs
  | [], [], _, _ => rfl
  | [], _ :: _, h, _ => by simp at h
  | _ :: _, [], h, _ => by simp at h
  | x :: l, v :: vs, h, hv => ⟨v, vs, rfl, hv 0 x v rfl rfl, VRL.of (by simpa using h) fun i y u h1 h2 => hv (i + 1) y u (by simpa using h1) (by simpa using h2)⟩
theorem zOjt (v : Value) (off : Nat) : ∀ (l : List Value) (k : Nat) (cs : Array Value), (l.zipIdx k).foldl (fun cs (c, j) => cs.setIfInBounds (off + j) c) cs =
    (l.zipIdx k).foldl (fun cs (c, j) => cs.setIfInBounds (off + j) c) cs := fun _ _ _ => rfl
theorem zB2t (off : Nat) : ∀ (l : List Value) (k : Nat) (cs : Array Value) (i : Nat), off + k + l.length ≤ cs.size →
    ((l.zipIdx k).foldl (fun cs (c, j) => cs.setIfInBounds (off + j) c) cs).size = cs.size ∧
    ((l.zipIdx k).foldl (fun cs (c, j) => cs.setIfInBounds (off + j) c) cs)[i]? = if off + k ≤ i ∧ i < off + k + l.length then l[i - (off + k)]? else cs[i]?
  | [], k, cs, i, _ => by simp; omega
  | c :: l, k, cs, i, h => by
    simp only [List.zipIdx_cons, List.foldl_cons]
    simp only [List.length_cons] at h
    obtain ⟨h1, h2⟩ := zB2t off l (k + 1) (cs.setIfInBounds (off + k) c) i (by simp; omega)
    refine ⟨by rw [h1]; simp, ?_⟩
    rw [h2]
    simp only [List.length_cons]
    by_cases e : i = off + k
    · subst e
      rw [if_neg (by omega), if_pos (by omega)]
      simp [Array.getElem?_setIfInBounds]; omega
    · by_cases hin : off + (k + 1) ≤ i ∧ i < off + (k + 1) + l.length
      · rw [if_pos hin, if_pos (by omega)]
        have : i - (off + k) = (i - (off + (k + 1))) + 1 := by omega
        rw [this]; simp
      · rw [if_neg hin, if_neg (by omega)]
        rw [Array.getElem?_setIfInBounds]
        rw [if_neg (by omega)]
end
end Ab
namespace Ab
open Go
variable {P : Program}
section
variable {ρ : Operand → Value} {r : Rf → AV} {w : World} {C : Ctx} {R : Operand → Rf → Bool} {ce : CE} {σ : List Blk} {nl : Nat} {ps : List Pend}
theorem z2Kg {x : AV} (h : notUnd x = true) : Solid x := by
  refine ⟨?_, fun l => ?_⟩ <;> (intro e; subst e; simp [notUnd] at h)
def CellsAre (C : Ctx) (H : Array Obj) (cs : List AV) (c : Array Value) : Prop :=
  cs.length = c.size ∧ ∀ (i : Nat) x v, cs[i]? = some x → c[i]? = some v → VR C H x v ∧ v.oneCell' = true
theorem CellsAre.put {H : Array Obj} {cs : List AV} {c : Array Value} {x : AV} {v : Value} {off : Nat} (h : CellsAre C H cs c) (hu : Solid x) (hv : VR C H x v) (hb : off + x.cells.length ≤ cs.length) :
    CellsAre C H (putAt cs off x.cells) ((v.cells.zipIdx.foldl (fun cs (c, j) => cs.setIfInBounds (off + j) c) c)) := by
  obtain ⟨h1, h2⟩ := zAtF cs x.cells off hb
  obtain ⟨g1, g2⟩ := VR.cells hu hv
  have hs := VR.size hu hv
  have hf : ∀ i, (v.cells.zipIdx.foldl (fun cs (c, j) => cs.setIfInBounds (off + j) c) c).size = c.size ∧ (v.cells.zipIdx.foldl (fun cs (c, j) => cs.setIfInBounds (off + j) c) c)[i]? = if off ≤ i ∧ i < off + v.cells.size then v.cells[i - off]? else c[i]? := fun i => by
    have := zB2t off v.cells.toList 0 c i (by rw [← h.1]; simp; omega)
    rw [← Array.foldl_toList]
    simp only [Array.toList_zipIdx]
    simpa using this
  refine ⟨by rw [h1, (hf 0).1]; exact h.1, fun i y u hi hu' => ?_⟩
  rw [h2] at hi
  rw [(hf i).2] at hu'
  by_cases hin : off ≤ i ∧ i < off + x.cells.length
  · rw [if_pos hin] at hi
    rw [if_pos (by omega)] at hu'
    obtain ⟨u', k1, k2⟩ := g1.get (i - off) y hi
    rw [Array.getElem?_toList] at k1
    rw [k1] at hu'
    simp at hu'; subst hu'
    exact ⟨k2, g2 _ (by rw [Array.mem_toList_iff]; exact Array.mem_of_getElem? k1)⟩
  · rw [if_neg hin] at hi
    rw [if_neg (by omega)] at hu'
    exact h.2 i y u hi hu'
theorem z4Xy {H : Array Obj} {place : Nat → Option (Nat × Nat)} (hR : ∀ x y, R x y = true → VR C H (r y) (ρ x)) : ∀ (xs : List (Nat × Operand)) (ys : List (Nat × Nat × Rf)) (cs cs' : List AV) (c : Array Value),
    partsIs R place xs ys = true → CellsAre C H cs c → fillP cs (ys.map fun p => (p.1, p.2.1, r p.2.2)) = some cs' →
    ∃ c', Instr.fill place c (xs.map fun (i, x) => (i, ρ x)) = some c' ∧ CellsAre C H cs' c'
  | [], [], cs, cs', c, _, hc, h => by simp [fillP] at h; subst h; exact ⟨c, rfl, hc⟩
  | (i, x) :: xs, (o, n, y) :: ys, cs, cs', c, hp, hc, h => by
    simp only [partsIs, Bool.and_eq_true] at hp
    obtain ⟨⟨hp1, hp2⟩, hp3⟩ := hp
    have hpl : place i = some (o, n) := by
      split at hp1
      · rename_i a b e; simp at hp1; rw [e, hp1.1, hp1.2]
      · simp at hp1
    simp only [List.map_cons, fillP] at h
    split at h <;> try (simp at h; done)
    rename_i hcond
    simp only [Bool.and_eq_true, beq_iff_eq, decide_eq_true_eq] at hcond
    obtain ⟨⟨e1, e2⟩, e3⟩ := hcond
    have hu := z2Kg e3
    have hv := hR _ _ hp2
    have hs := VR.size hu hv
    simp only [List.map_cons, Instr.fill, hpl]
    rw [if_neg (by rw [hs, e1, ← hc.1]; simp; omega)]
    exact z4Xy hR xs ys _ cs' _ hp3 (hc.put hu hv (by omega)) h
  | [], _ :: _, _, _, _, hp, _, _ => by simp [partsIs] at hp
  | (_, _) :: _, [], _, _, _, hp, _, _ => by simp [partsIs] at hp
theorem zfjA {t : TypeId} {z : List AV} (h : zeroIs P t z = true) (w : World) : ∃ v, (zeroValue t).run P w = .ok v w ∧ VRL C w.heap z v.cells.toList ∧ (∀ y, y ∈ v.cells.toList → y.oneCell' = true) := by
  unfold zeroIs at h
  cases hi : P.info? t with
  | none => simp [hi] at h
  | some i =>
    simp only [hi] at h
    cases hz : i.zero with
    | none => simp [hz] at h
    | some v =>
      simp only [hz] at h
      refine ⟨v, ?_, zIkN h, ?_⟩
      · simp only [zeroValue, Sem.run_bind, run_typeInfo w hi, Result.andThen_ok, hz, Sem.run_pure]
      · have : ∀ {vs : List Value} {xs : List AV}, constsAre vs xs = true → ∀ y ∈ vs, y.oneCell' = true := by
          intro vs
          induction vs with
          | nil => simp
          | cons v vs ih =>
            intro xs h y hy
            cases xs with
            | nil => simp [constsAre] at h
            | cons x xs =>
              simp only [constsAre, Bool.and_eq_true] at h
              rcases List.mem_cons.1 hy with rfl | hy
              · have := h.1
                unfold constIs at this
                split at this <;> first | rfl | (simp at this; done)
              · exact ih h.2 y hy
        exact this h
theorem zMxt {w : World} : ∀ {fs : List Field} {l : List (Nat × Nat)}, placesOf P fs = some l → (fs.mapM fun f => do pure (f.offset, ← Go.sizeOf f.type) : Sem (List (Nat × Nat))).run P w = .ok l w
  | [], l, h => by simp [placesOf] at h; subst h; simp
  | f :: r, l, h => by
    simp only [placesOf] at h
    cases hi : P.info? f.type with
    | none => simp [hi] at h
    | some i =>
      cases hl : placesOf P r with
      | none => simp [hi, hl] at h
      | some l' =>
        simp [hi, hl] at h; subst h
        have hs : (Go.sizeOf f.type).run P w = .ok i.size w := zW9l (by simp [sizeIs, hi]) w
        simp only [List.mapM_cons, Sem.run_bind, hs, Result.andThen_ok, Sem.run_pure, zMxt hl]
theorem zS6i {o : Oper} {t : TypeId} {xs : Array (Nat × Operand)} {z0 : List AV} {qs : List (Nat × Nat × Rf)} {z : AV} {p : Option Pend} (ho : o.op = .build t xs) (hz : zeroIs P t z0 = true)
    (ht : (match P.underlying t with
    | some (.struct fs) => (match placesOf P fs.toList with | some l => partsIs R (fun i => l[i]?) xs.toList qs | none => false)
    | some (.array _ e) => (match P.info? e with | some i => partsIs R (fun j => some (j * i.size, i.size)) xs.toList qs | none => false)
    | _ => false) = true)
    (hR : ∀ x y, R x y = true → VR C w.heap (r y) (ρ x)) (he : ev ce σ nl ps r (.bld z0 qs) = some (z, p)) : Plain P ρ o w C w.heap z ∧ p = none := by
  simp only [ev] at he
  cases hf : fillP z0 (qs.map fun p => (p.1, p.2.1, r p.2.2)) with
  | none => simp [hf] at he
  | some l =>
    simp [hf] at he; obtain ⟨rfl, rfl⟩ := he
    obtain ⟨v, h1, h2, h3⟩ := zfjA (C := C) hz w
    have hc0 : CellsAre C w.heap z0 v.cells := ⟨by have := VRL.length h2; simpa using this.symm, fun i x u hi hu => by
      obtain ⟨u', k1, k2⟩ := h2.get i x hi
      rw [Array.getElem?_toList, hu] at k1
      simp at k1; subst k1
      exact ⟨k2, h3 _ (by rw [Array.mem_toList_iff]; exact Array.mem_of_getElem? hu)⟩⟩
    have fin : ∀ c' : Array Value, CellsAre C w.heap l c' → VR C w.heap (.agg l) (.agg c') := fun c' hc => by
      unfold VR
      refine ⟨c'.toList, by simp, VRL.of (by simp [hc.1]) (fun i x u h1 h2 => (hc.2 i x u h1 (by simpa using h2)).1), fun y hy => ?_⟩
      obtain ⟨i, hi⟩ := List.getElem?_of_mem hy
      have hlt : i < l.length := by
        rw [hc.1]
        have := (List.getElem?_eq_some_iff.1 hi).1
        simpa using this
      exact (hc.2 i l[i] y (by simp [hlt]) (by simpa using hi)).2
    have hx : (xs.map fun (i, x) => (i, ρ x)).toList = xs.toList.map fun (i, x) => (i, ρ x) := by simp
    cases hu : P.underlying t with
    | none => simp [hu] at ht
    | some d =>
      cases d <;> simp only [hu] at ht <;> try (simp at ht; done)
      · rename_i n e
        cases hi : P.info? e with
        | none => simp [hi] at ht
        | some i =>
          simp only [hi] at ht
          obtain ⟨c', g1, g2⟩ := z4Xy hR xs.toList qs z0 l v.cells ht hc0 hf
          refine ⟨zBZO (s := Instr.build t (xs.map fun (i, x) => (i, ρ x))) (v := .agg c') (by simp only [execOp, ho]) ?_ (fin c' g2), rfl⟩
          have hs : (Go.sizeOf e).run P w = .ok i.size w := zW9l (by simp [sizeIs, hi]) w
          simp only [Instr.build, Sem.run_bind, h1, run_underlying hu, Result.andThen_ok, hs, hx, g1, Sem.run_pure]
      · rename_i fs
        cases hpl : placesOf P fs.toList with
        | none => simp [hpl] at ht
        | some pl =>
          simp only [hpl] at ht
          obtain ⟨c', g1, g2⟩ := z4Xy hR xs.toList qs z0 l v.cells ht hc0 hf
          refine ⟨zBZO (s := Instr.build t (xs.map fun (i, x) => (i, ρ x))) (v := .agg c') (by simp only [execOp, ho]) ?_ (fin c' g2), rfl⟩
          have hm : (fs.mapM fun f => do pure (f.offset, ← Go.sizeOf f.type) : Sem (Array (Nat × Nat))).run P w = .ok pl.toArray w := by
            rw [Array.mapM_eq_mapM_toList]
            have hr := zMxt (w := w) hpl
            have hm : ∀ m : Sem (List (Nat × Nat)), (List.toArray <$> m).run P w = (m >>= fun a => pure a.toArray).run P w := fun _ => rfl
            rw [hm, Sem.run_bind, hr]
            simp
          simp only [Instr.build, Sem.run_bind, h1, run_underlying hu, Result.andThen_ok, hm, hx]
          have : (fun i : Nat => pl.toArray[i]?) = fun i : Nat => pl[i]? := by funext i; simp
          simp only [this, g1, Sem.run_pure]
theorem zYRO {t e : TypeId} {v : Value} {lo hi : Option Value} {st : Nat} (ht : sliceOf P t = some e) (hst : sizeIs P e st = true) {a : Option Addr} {len cap l h : Nat} (e1 : v = .slice a len cap)
    (e2 : lo = none ∧ l = 0 ∨ lo = some (.int .i64 l)) (e3 : hi = none ∧ h = len ∨ hi = some (.int .i64 h)) (h1 : l ≤ h) (h2 : h ≤ len) (h3 : len ≤ cap) :
    (Instr.sliceAt t v lo hi none).run P w = .ok (.slice (if cap = l then a else a.map (·.add (l * st))) (h - l) (cap - l)) w := by
  subst e1
  have hu := zsha ht w
  have hs := zW9l hst w
  have hb : (Instr.sliceBounds true len cap lo hi none).run P w = .ok (l, h, cap) w := by
    have c1 : ((0 : Int) ≤ h ∧ (h : Int) ≤ cap) := by omega
    have c2 : ((0 : Int) ≤ l ∧ (l : Int) ≤ h) := by omega
    rcases e2 with ⟨rfl, rfl⟩ | rfl <;> rcases e3 with ⟨rfl, rfl⟩ | rfl <;>
      simp [Instr.sliceBounds, Instr.sliceBound, asIntOf, c1, c2, h1, h2, h3, Nat.le_trans h2 h3, Sem.run_bind, Result.andThen_ok]
  have hd : (Instr.sliceAt t (.slice a len cap) lo hi none).run P w = (Instr.slice t (.slice a len cap) lo hi none).run P w := by
    simp only [Instr.sliceAt, Sem.run_bind, hu, Result.andThen_ok]
  rw [hd]
  simp only [Instr.slice, Sem.run_bind, hu, Result.andThen_ok, hb, hs, Sem.run_pure]
theorem z2Cw {l : List AV} {a b : Nat} (h : noLocs l = true) : noLocs ((l.drop a).take b) = true := by
  have : ∀ {l : List AV}, noLocs l = true → ∀ y ∈ l, noLoc y = true := by
    intro l
    induction l with
    | nil => simp
    | cons a r ih =>
      intro h y hy
      simp only [noLocs, Bool.and_eq_true] at h
      rcases List.mem_cons.1 hy with rfl | hy
      · exact h.1
      · exact ih h.2 y hy
  exact za6m fun y hy => this h y (List.mem_of_mem_drop (List.mem_of_mem_take hy))
theorem zC18 {t e : TypeId} {st : Nat} (ht : sliceOf P t = some e) (hst : sizeIs P e st = true) {a : Option Addr} {len cap h m : Nat} (h1 : h ≤ m) (h2 : m ≤ cap) :
    (Instr.sliceAt t (.slice a len cap) none (some (.int .i64 h)) (some (.int .i64 m))).run P w = .ok (.slice (if m = 0 then a else a.map (·.add (0 * st))) h m) w := by
  have hu := zsha ht w
  have hs := zW9l hst w
  have hb : (Instr.sliceBounds true len cap none (some (.int .i64 h)) (some (.int .i64 m))).run P w = .ok (0, h, m) w := by
    have c1 : ((0 : Int) ≤ h ∧ (h : Int) ≤ m) := by omega
    have c2 : ((0 : Int) ≤ m ∧ (m : Int) ≤ cap) := by omega
    simp [Instr.sliceBounds, Instr.sliceBound, asIntOf, c1, c2, h1, h2, Sem.run_bind, Result.andThen_ok]
  have hd : (Instr.sliceAt t (.slice a len cap) none (some (.int .i64 h)) (some (.int .i64 m))).run P w = (Instr.slice t (.slice a len cap) none (some (.int .i64 h)) (some (.int .i64 m))).run P w := by
    simp only [Instr.sliceAt, Sem.run_bind, hu, Result.andThen_ok]
  rw [hd]
  simp only [Instr.slice, Sem.run_bind, hu, Result.andThen_ok, hb, hs, Sem.run_pure, Nat.sub_zero]
theorem zEd5 {o : Oper} {t e : TypeId} {x hi mx : Operand} {y hi' mx' : Rf} {st : Nat} {z : AV} {p : Option Pend} (ho : o.op = .slice t x none (some hi) (some mx))
    (ht : sliceOf P t = some e) (hst : sizeIs P e st = true) (hx : VR C w.heap (r y) (ρ x)) (hh : VR C w.heap (r hi') (ρ hi)) (hm : VR C w.heap (r mx') (ρ mx))
    (he : ev ce σ nl ps r (.slc3 y hi' mx' st) = some (z, p)) : Plain P ρ o w C w.heap z ∧ p = none := by
  simp only [ev] at he
  cases hx' : r y <;> simp only [hx'] at he <;> try (simp at he; done)
  cases hh' : r hi' <;> simp only [hh'] at he <;> try (simp at he; done)
  cases hm' : r mx' <;> simp only [hm'] at he <;> try (simp at he; done)
  rename_i nn l h m
  split at he <;> simp at he
  rename_i hc
  obtain ⟨rfl, rfl⟩ := he
  rw [hx'] at hx; rw [hh'] at hh; rw [hm'] at hm
  have hh := hh.int_inv; have hm := hm.int_inv
  refine ⟨?_, rfl⟩
  have fin : ∀ z v, (Instr.sliceAt t (ρ x) none (some (ρ hi)) (some (ρ mx))).run P w = .ok v w → VR C w.heap z v → Plain P ρ o w C w.heap z := fun z v h1 h2 =>
    zBZO (s := Instr.sliceAt t (ρ x) ((none : Option Operand).map ρ) ((some hi).map ρ) ((some mx).map ρ)) (v := v) (by simp only [execOp, ho]) h1 h2
  rw [hh, hm] at fin
  obtain ⟨A, rfl⟩ := Int.eq_ofNat_of_zero_le hc.1.1
  obtain ⟨B, rfl⟩ := Int.eq_ofNat_of_zero_le (by omega : 0 ≤ m)
  simp only [Int.toNat_natCast]
  have hAB : A ≤ B := by omega
  have hBl : B ≤ l.length := by omega
  unfold VR at hx
  obtain ⟨hn, hx⟩ := hx
  have hlen : (l.take A).length = A := by simp; omega
  rcases hx with ⟨rfl, a0, e1, hnn⟩ | ⟨blk, off, cap, st', c, el', fz, e1, hcap, hI, hH, hl⟩
  · simp at hBl
    subst hBl
    obtain rfl : A = 0 := by omega
    rw [e1] at fin
    refine fin _ _ (zC18 (w := w) ht hst (by omega) (by omega)) ?_
    unfold VR
    exact ⟨rfl, .inl ⟨by simp, a0, by simp, by simp⟩⟩
  · rw [e1] at fin
    refine fin _ _ (zC18 (w := w) ht hst hAB (by omega)) ?_
    have h0 := z2Cw (a := 0) (b := A) hn
    rw [List.drop_zero] at h0
    unfold VR
    refine ⟨h0, .inr ⟨blk, off, B, st', c, el', fz, ?_, by omega, hI, hH, VRI.of fun i u hi' => ?_⟩⟩
    · rw [hlen]; split <;> simp [z9vx]
    · have hi'' : l[i]? = some u := by
        have h0 := (List.getElem?_eq_some_iff.1 hi').1
        rw [List.getElem?_take_of_lt (by omega)] at hi'
        exact hi'
      exact hl.get i u hi''
theorem zYkD {lo : Option Operand} {lo' : Option Rf} {n : Int} (h : optR R lo lo' = true) (hR : ∀ x y, R x y = true → VR C w.heap (r y) (ρ x))
    (he : loV r lo' = some n) : lo.map ρ = none ∧ n = 0 ∨ lo.map ρ = some (.int .i64 n) := by
  cases lo with
  | none =>
    cases lo' with
    | none => simp [loV, hiV] at he; exact .inl ⟨rfl, he.symm⟩
    | some y => simp [optR] at h
  | some q =>
    cases lo' with
    | none => simp [optR] at h
    | some y =>
      simp only [optR] at h
      have := hR _ _ h
      right
      simp only [loV, hiV] at he
      cases hy : r y <;> simp [hy] at he
      subst he
      rw [hy] at this
      simp [this.int_inv]
theorem zSKF {lo : Option Operand} {lo' : Option Rf} {n : Option Int} (h : optR R lo lo' = true) (hR : ∀ x y, R x y = true → VR C w.heap (r y) (ρ x))
    (he : hiV r lo' = some n) : (lo.map ρ = none ∧ n = none) ∨ ∃ m, n = some m ∧ lo.map ρ = some (.int .i64 m) := by
  cases lo with
  | none =>
    cases lo' with
    | none => simp [loV, hiV] at he; exact .inl ⟨rfl, he.symm⟩
    | some y => simp [optR] at h
  | some q =>
    cases lo' with
    | none => simp [optR] at h
    | some y =>
      simp only [optR] at h
      have := hR _ _ h
      right
      simp only [loV, hiV] at he
      cases hy : r y <;> simp [hy] at he
      subst he
      rw [hy] at this
      exact ⟨_, rfl, by simp [this.int_inv]⟩
theorem zjQa {o : Oper} {t e : TypeId} {x : Operand} {lo hi : Option Operand} {y : Rf} {lo' hi' : Option Rf} {st : Nat} {z : AV} {p : Option Pend} (ho : o.op = .slice t x lo hi none)
    (ht : sliceOf P t = some e) (hst : sizeIs P e st = true) (hup : ∀ b u B, upto σ b u = some B → ∃ id, C.own b u = some (B, id)) (hx : VR C w.heap (r y) (ρ x)) (hlo : optR R lo lo' = true) (hhi : optR R hi hi' = true)
    (hR : ∀ x y, R x y = true → VR C w.heap (r y) (ρ x)) (he : ev ce σ nl ps r (.slc y lo' hi' st) = some (z, p)) : Plain P ρ o w C w.heap z ∧ p = none := by
  simp only [ev] at he
  have fin : ∀ z v, (Instr.sliceAt t (ρ x) (lo.map ρ) (hi.map ρ) none).run P w = .ok v w → VR C w.heap z v → Plain P ρ o w C w.heap z := fun z v h1 h2 =>
    zBZO (s := Instr.sliceAt t (ρ x) (lo.map ρ) (hi.map ρ) ((none : Option Operand).map ρ)) (v := v) (by simp only [execOp, ho]) h1 h2
  cases ha : loV r lo' with
  | none => simp [ha] at he
  | some a =>
    cases hb : hiV r hi' with
    | none => simp [ha, hb] at he
    | some b =>
      simp only [ha, hb] at he
      have el := zYkD hlo hR ha
      have eh := zSKF hhi hR hb
      cases hx' : r y <;> simp only [hx'] at he <;> try (simp at he; done)
      · rename_i nn l
        split at he <;> simp at he
        rename_i hc
        obtain ⟨rfl, rfl⟩ := he
        rw [hx'] at hx
        refine ⟨?_, rfl⟩
        -- bounds as natural numbers
        obtain ⟨A, rfl⟩ := Int.eq_ofNat_of_zero_le hc.1.1
        obtain ⟨B, hB⟩ := Int.eq_ofNat_of_zero_le (by omega : 0 ≤ b.getD l.length)
        rw [hB] at hc ⊢
        have e3 : hi.map ρ = none ∧ B = l.length ∨ hi.map ρ = some (.int .i64 B) := by
          rcases eh with ⟨h1, rfl⟩ | ⟨m, rfl, h1⟩
          · left; simp at hB; exact ⟨h1, by omega⟩
          · right; simp at hB; rw [h1, hB]
        have e2 : lo.map ρ = none ∧ A = 0 ∨ lo.map ρ = some (.int .i64 A) := by
          rcases el with ⟨h1, h2⟩ | h1
          · exact .inl ⟨h1, by omega⟩
          · exact .inr h1
        simp only [Int.toNat_natCast]
        have hx0 := hx
        unfold VR at hx
        obtain ⟨hn, hx⟩ := hx
        have hlen : ((l.drop A).take (B - A)).length = B - A := by simp; omega
        rcases hx with ⟨rfl, a0, e1, hnn⟩ | ⟨blk, off, cap, st', c, el', fz, e1, hcap, hI, hH, hl⟩
        · simp at hc
          obtain rfl : B = 0 := by omega
          obtain rfl : A = 0 := by omega
          have := zYRO (w := w) ht hst e1 e2 e3 (by omega) (by simp) (Nat.le_refl 0)
          refine fin _ _ this ?_
          unfold VR
          exact ⟨rfl, .inl ⟨by simp, a0, by simp, by simp⟩⟩
        · have := zYRO (w := w) ht hst e1 e2 e3 (by omega) (by omega) hcap
          refine fin _ _ this ?_
          unfold VR
          refine ⟨z2Cw hn, .inr ?_⟩
          by_cases hcA : cap = A
          · refine ⟨blk, off, cap - A, st', c, el', fz, by rw [if_pos hcA, hlen], by rw [hlen]; omega, hI, hH, ?_⟩
            have : (l.drop A).take (B - A) = [] := by rw [show B - A = 0 by omega]; simp
            rw [this]; trivial
          · refine ⟨blk, off + A * st, cap - A, st', c, el', fz, by rw [if_neg hcA, hlen]; simp [z9vx], by rw [hlen]; omega, hI, hH, ?_⟩
            refine VRI.of fun i u hi' => ?_
            have hi'' : l[A + i]? = some u := by
              have h0 := (List.getElem?_eq_some_iff.1 hi').1
              rw [List.getElem?_take_of_lt (by omega), List.getElem?_drop] at hi'
              exact hi'
            obtain ⟨v, g1, g2, g3⟩ := hl.get (A + i) u hi''
            have hst' : st' = st := by
              have hf := hc.2
              cases l with
              | nil => simp at hi''
              | cons x0 r0 =>
                simp only [firstIs, beq_iff_eq] at hf
                obtain ⟨v0, k1, k2, _⟩ := hl.get 0 x0 rfl
                have : noLoc x0 = true := by simp only [noLocs, Bool.and_eq_true] at hn; exact hn.1
                rw [← k2, VR.size (zSqJ this) k1, hf]
            subst hst'
            refine ⟨v, g1, g2, fun j hj => ?_⟩
            rw [← g3 j hj, Nat.add_mul]
            congr 1; omega
      · rename_i b' u off len
        cases hup' : upto σ b' u with
        | none => simp [hup'] at he
        | some B0 =>
        simp only [hup'] at he
        obtain ⟨id0, hB0⟩ := hup b' u B0 hup'
        split at he <;> simp at he
        rename_i hc
        obtain ⟨rfl, rfl⟩ := he
        rw [hx'] at hx
        refine ⟨?_, rfl⟩
        obtain ⟨A, rfl⟩ := Int.eq_ofNat_of_zero_le hc.1.1
        obtain ⟨B, hB⟩ := Int.eq_ofNat_of_zero_le (by omega : 0 ≤ b.getD len)
        rw [hB] at hc ⊢
        have e3 : hi.map ρ = none ∧ B = len ∨ hi.map ρ = some (.int .i64 B) := by
          rcases eh with ⟨h1, rfl⟩ | ⟨m, rfl, h1⟩
          · left; simp at hB; exact ⟨h1, by omega⟩
          · right; simp at hB; rw [h1, hB]
        have e2 : lo.map ρ = none ∧ A = 0 ∨ lo.map ρ = some (.int .i64 A) := by
          rcases el with ⟨h1, h2⟩ | h1
          · exact .inl ⟨h1, by omega⟩
          · exact .inr h1
        simp only [Int.toNat_natCast]
        unfold VR at hx
        obtain ⟨⟨q, cap, e1, hcap, hq⟩, h1, h3⟩ := hx
        have := zYRO (w := w) ht hst e1 e2 e3 (by omega) (by omega) hcap
        refine fin _ _ this ?_
        unfold VR
        refine ⟨⟨_, _, rfl, by omega, fun hlt => ?_⟩, h1, fun B' id hB' => ?_⟩
        · obtain ⟨blk, rfl⟩ := hq (by omega)
          exact ⟨blk, by rw [if_neg (by omega)]; simp [z9vx]⟩
        · have hv := h3 B' id hB'
          cases hs : B'.st with
          | dead => trivial
          | map es => trivial
          | nul =>
            simp only [hs] at hv
            obtain ⟨rfl, rfl, e4⟩ := hv
            rw [e1] at e4
            simp at e4
            obtain ⟨rfl, rfl⟩ := e4
            obtain rfl : B = 0 := by omega
            obtain rfl : A = 0 := by omega
            simp
          | live =>
            simp only [hs] at hv
            obtain ⟨c, el', o', cap', g1, g2, g3, g4, g5⟩ := hv
            rw [e1] at g2
            simp at g2
            obtain ⟨rfl, rfl⟩ := g2
            rw [hB0] at hB'
            simp at hB'
            obtain ⟨rfl, rfl⟩ := hB'
            have hk := hc.2
            rw [hk] at g5 ⊢
            have hmul : A * st + (cap - A) * st = cap * st := by rw [← Nat.add_mul, Nat.add_sub_cancel' (by omega)]
            by_cases hcA : cap = A
            · refine ⟨c, el', o', 0, g1, by rw [if_pos hcA, show cap - A = 0 by omega], fun h => absurd h (Nat.lt_irrefl 0), by omega, ?_⟩
              subst hcA; simpa using g5
            · refine ⟨c, el', off + A * st, cap - A, g1, ?_, fun _ => rfl, by omega, ?_⟩
              · rw [if_neg hcA]
                obtain rfl := g3 (by omega)
                simp [z9vx]
              · omega
end
end Ab
