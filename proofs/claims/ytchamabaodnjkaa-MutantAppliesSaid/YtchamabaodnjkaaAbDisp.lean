/- What is known after an effect is the new list of blocks, and the old one can still be seen. A region: whatever order its operations come in, it does what its lines do in the text's order. Condition: the callees answer as the interpreter says. What holds in the midst of a region. A step of a region keeps what holds. Operations that look at owned blocks, and operations that turn them. Condition: the callees answer as the interpreter says. Condition: none. -/
import Derived.Test.YtchamabaodnjkaaAbPhase
set_option linter.all false
namespace Ab
open Go

/-- What is known is this list of blocks, or more. -/
def Shows (C : Ctx) (σ : List Blk) : Prop := ∃ ids, (∀ b u e, (ctxOf σ ids C.I).own b u = some e → C.own b u = some e) ∧ ∀ b u, C.lim b u → (ctxOf σ ids C.I).lim b u
/-- The blocks of this list can be seen. -/
def Seen (C : Ctx) (σ : List Blk) : Prop := ∀ b u B, upto σ b u = some B → ∃ id, C.own b u = some (B, id)

theorem Shows.seen {C : Ctx} {σ : List Blk} (h : Shows C σ) : Seen C σ := fun b u B hu => by
  obtain ⟨ids, h1, _⟩ := h
  exact ⟨_, h1 b u _ (upto_own ids C.I hu)⟩
theorem shows_ctx (σ : List Blk) (ids : Nat → Nat) (I : Nat → Prop) : Shows (ctxOf σ ids I) σ := ⟨ids, fun _ _ _ h => h, fun _ _ h => h⟩
theorem Shows.withI {C : Ctx} {σ : List Blk} (h : Shows C σ) (I' : Nat → Prop) : Shows { C with I := I' } σ := by
  obtain ⟨ids, h1, h2⟩ := h
  exact ⟨ids, h1, h2⟩
theorem Seen.withI {C : Ctx} {σ : List Blk} (h : Seen C σ) (I' : Nat → Prop) : Seen { C with I := I' } σ := h

/-- No more is known than the list. -/
theorem Shows.take {C : Ctx} {σ : List Blk} {w : World} (h : Shows C σ) (hg : Good C w) : ∃ ids, Good (ctxOf σ ids C.I) w ∧ Step C w (ctxOf σ ids C.I) w := by
  obtain ⟨ids, h1, h2⟩ := h
  exact ⟨ids, Good.shrink hg rfl h1 h2⟩

theorem Ext.shows {σ : List Blk} {ids : Nat → Nat} {I : Nat → Prop} {p : Option Pend} {C' : Ctx} {w' : World} (hg : Good C' w') (h : Ext σ.length p (ctxOf σ ids I) C') :
    Shows C' (match p with | some q => commit σ q | none => σ) ∧ Seen C' σ := by
  cases p with
  | none =>
    obtain ⟨h1, h2⟩ := h
    have hs : Shows C' σ := ⟨ids, fun b u e he => by rw [h1]; exact he, fun b u he => by rw [h2] at he; exact he⟩
    exact ⟨hs, hs.seen⟩
  | some q =>
    cases q with
    | new B =>
      obtain ⟨id, h1, h2⟩ := h
      have hnd : B.st ≠ .dead := (hg.ent σ.length B.cells.length B id (by rw [h1]; simp [addOwn])).2.2.2
      refine ⟨⟨fun q => if q = σ.length then id else ids q, fun b u e he => ?_, fun b u he => ?_⟩, fun b u B' hu => ?_⟩
      · rw [h1]; exact ctxOf_push (I := C'.I) hnd b u e he
      · rw [h2] at he; exact ctxOf_push_lim (ids := ids) (I := C'.I) (id := id) b u he
      · obtain ⟨hb, _⟩ := upto_blk hu
        have hlt : b < σ.length := by rw [blk_eq] at hb; exact (List.getElem?_eq_some_iff.1 hb).1
        rw [h1]
        simp only [addOwn]
        rw [if_neg (by omega)]
        exact ⟨_, upto_own ids I hu⟩
    | news l =>
      obtain ⟨ids2, h1, h2⟩ := h
      have hblk : ∀ b, blk (σ ++ l) b = if b < σ.length then blk σ b else blk l (b - σ.length) := fun b => by
        rw [blk_eq, blk_eq, blk_eq]
        by_cases hb : b < σ.length
        · rw [if_pos hb, List.getElem?_append_left hb]
        · rw [if_neg hb, List.getElem?_append_right (by omega)]
      refine ⟨⟨fun q => if q < σ.length then ids q else ids2 (q - σ.length), fun b u e he => ?_, fun b u he => ?_⟩, fun b u B' hu => ?_⟩
      · rw [h1]
        simp only [ctxOf, commit, hblk] at he ⊢
        by_cases hb : b < σ.length
        · rw [if_neg (by omega)]
          simp only [hb, if_true] at he
          exact he
        · simp only [hb, if_false] at he
          have hlt : b - σ.length < l.length := by
            cases hq : blk l (b - σ.length) with
            | none => simp [hq] at he
            | some q => rw [blk_eq] at hq; exact (List.getElem?_eq_some_iff.1 hq).1
          rw [if_pos (by omega)]
          exact he
      · rw [h2] at he
        simp only [ctxOf, commit, hblk] at he ⊢
        rcases he with ⟨k1, B1, k2, k3⟩ | ⟨B1, k2, k3⟩
        · exact ⟨B1, by rw [if_neg (by omega)]; exact k2, k3⟩
        · have hlt : b < σ.length := by rw [blk_eq] at k2; exact (List.getElem?_eq_some_iff.1 k2).1
          exact ⟨B1, by rw [if_pos hlt]; exact k2, k3⟩
      · obtain ⟨hb, _⟩ := upto_blk hu
        have hlt : b < σ.length := by rw [blk_eq] at hb; exact (List.getElem?_eq_some_iff.1 hb).1
        rw [h1]
        simp only
        rw [if_neg (by omega)]
        exact ⟨_, upto_own ids I hu⟩
    | grow b cs =>
      obtain ⟨B0, id0, id, hne, h0, h1, h2⟩ := h
      obtain ⟨_, hb, _⟩ := own_upto h0
      have hlen : B0.cells.length < (B0.cells ++ cs).length := by
        have : 0 < cs.length := List.length_pos_iff.2 hne
        simp; omega
      have hgr : commit σ (.grow b cs) = setB σ b ⟨B0.k, B0.cells ++ cs, .live⟩ := by simp only [commit, growB, hb]
      simp only [hgr]
      refine ⟨⟨fun q => if q = b then id else ids q, fun b1 u e he => ?_, fun b1 u he => ?_⟩, fun b1 u B' hu => ?_⟩
      · rw [h1]
        exact ctxOf_set (ids := ids) (I := C'.I) (B' := ⟨B0.k, B0.cells ++ cs, .live⟩) (id' := id) hb (by simp) b1 u e he
      · rw [h2] at he
        rcases he with ⟨rfl, rfl⟩ | he
        · have hlt : b1 < σ.length := by rw [blk_eq] at hb; exact (List.getElem?_eq_some_iff.1 hb).1
          exact ⟨⟨B0.k, B0.cells ++ cs, .live⟩, by rw [blk_set hlt]; simp, Nat.le_refl _⟩
        · exact ctxOf_set_lim (ids := ids) (I := C'.I) hb (by show _ ≤ (B0.cells ++ cs).length; omega) b1 u he
      · obtain ⟨k1, k2, _⟩ := upto_blk hu
        rw [h1]
        simp only [addOwn]
        rw [if_neg (by
          rintro ⟨rfl, rfl⟩
          rw [hb] at k1
          simp at k1; subst k1
          omega)]
        exact ⟨_, upto_own ids I hu⟩
end Ab
namespace Ab
open Go
variable {P : Program}

/-! ### The states of the lexical run -/
theorem lines_states {ce : CE} {vars : List AV} : ∀ {ls : List Ln} {s s' : LS}, lines ce vars ls s = some s' →
    ∃ st : Nat → LS, st 0 = s ∧ st ls.length = s' ∧ ∀ i l, ls[i]? = some l → line1 ce vars (st i) l = some (st (i + 1))
  | [], s, s', h => by
    simp [lines] at h; subst h
    exact ⟨fun _ => s, rfl, rfl, fun i l h => by simp at h⟩
  | l :: ls, s, s', h => by
    simp only [lines] at h
    cases h1 : line1 ce vars s l with
    | none => simp [h1] at h
    | some s1 =>
      simp only [h1] at h
      obtain ⟨st, e0, en, hst⟩ := lines_states h
      refine ⟨fun i => match i with | 0 => s | i + 1 => st i, rfl, by simpa using en, fun i l' hl => ?_⟩
      cases i with
      | zero => simp at hl; subst hl; simp only [h1, e0]
      | succ i => exact hst i l' (by simpa using hl)

theorem line1_env {ce : CE} {vars : List AV} {s s' : LS} {l : Ln} (h : line1 ce vars s l = some s') : ∃ v, s'.env = v :: s.env := by
  unfold line1 at h
  split at h
  · simp at h
  · simp at h; subst h; exact ⟨_, rfl⟩
  · split at h
    · split at h
      · simp at h; subst h; exact ⟨_, rfl⟩
      · simp at h
    · split at h
      · simp at h; subst h; exact ⟨_, rfl⟩
      · simp at h; subst h; exact ⟨_, rfl⟩
      · simp at h

/-- The value of line i. -/
def valOf (st : Nat → LS) (i : Nat) : AV := nth (st (i + 1)).env 0

theorem env_len {st : Nat → LS} {n : Nat} (h0 : (st 0).env = []) (h : ∀ i, i < n → ∃ v, (st (i + 1)).env = v :: (st i).env) : ∀ i, i ≤ n → (st i).env.length = i
  | 0, _ => by rw [h0]; rfl
  | i + 1, hi => by
    obtain ⟨v, hv⟩ := h i (by omega)
    rw [hv, List.length_cons, env_len h0 h i (by omega)]
theorem env_nth {st : Nat → LS} {n : Nat} (h0 : (st 0).env = []) (h : ∀ i, i < n → ∃ v, (st (i + 1)).env = v :: (st i).env) : ∀ i, i ≤ n → ∀ d, d < i → nth (st i).env d = valOf st (i - 1 - d)
  | 0, _, d, hd => absurd hd (Nat.not_lt_zero d)
  | i + 1, hi, d, hd => by
    obtain ⟨v, hv⟩ := h i (by omega)
    cases d with
    | zero => simp [valOf]
    | succ d =>
      rw [hv]
      simp only [nth]
      rw [env_nth h0 h i (by omega) d (by omega)]
      congr 1
      omega

theorem ev_none {ce : CE} {σ : List Blk} {nl : Nat} {ps : List Pend} {r : Rf → AV} {op : IOp} {x : AV} {p : Option Pend} (h : op.isE = false) (he : ev ce σ nl ps r op = some (x, p)) : p = none := by
  cases op <;> first
    | (simp [IOp.isE] at h; done)
    | (simp only [ev] at he; simp at he; exact he.2.symm)
    | (simp only [ev] at he; (repeat' split at he) <;> first | (simp at he; done) | (simp at he; exact he.2.symm) | (simp at he; obtain ⟨_, _, _, e⟩ := he; exact e.symm) | (simp at he; obtain ⟨_, _, e⟩ := he; exact e.symm))

/-! ### The static check -/
/-- i comes before j in every order. -/
def bfr (draw : Bool) (bf : List Nat) (i j : Nat) : Bool := if draw then ((bf[j]?).getD 0).testBit i else decide (i < j)
def maskOf (bf : List Nat) (o : Oper) : Nat := o.after.toList.foldl (fun s e => if Region.binds .any e then s ||| 2 ^ e.on ||| (bf[e.on]?).getD 0 else s) 0
/-- Which operations come before which: all that an `after` edge leads to. -/
def befs (ops : List Oper) : List Nat := ops.foldl (fun acc o => acc ++ [maskOf acc o]) []

def dstAt (ops : List Oper) (i : Nat) : Option Nat := (ops[i]?).bind (·.dst)
/-- The allocation that line i fills. -/
def tgt (ls : List Ln) (i : Nat) : Option Nat :=
  match ls[i]? with
  | some l => match l.op with
    | .ini (.t d) _ _ => some (i - 1 - d)
    | _ => none
  | none => none
/-- The slot that holds the value of line i. -/
def slotOf (ops : List Oper) (ls : List Ln) (i : Nat) : Option Nat :=
  match tgt ls i with
  | some j => dstAt ops j
  | none => dstAt ops i
def effAt (ls : List Ln) (i : Nat) : Bool :=
  match ls[i]? with
  | some l => l.op.isE || l.op.isW
  | none => false
def eAt (ls : List Ln) (i : Nat) : Bool :=
  match ls[i]? with
  | some l => l.op.isE && l.g.isNone
  | none => false
def alcAt (ls : List Ln) (i : Nat) : Option Nat :=
  match ls[i]? with
  | some l => match l.op with
    | .alc0 m => some m
    | _ => none
  | none => none

def okRef (draw : Bool) (bf : List Nat) (ops : List Oper) (ls : List Ln) (sl : List Nat) (i : Nat) : Operand → Rf → Bool
  | .tmp s, .t d => decide (d < i) && slotOf ops ls (i - 1 - d) == some s && bfr draw bf (i - 1 - d) i
  | .tmp s, .v k => sl[k]? == some s && (List.range ops.length).all fun j => !(dstAt ops j == some s) || bfr draw bf i j
  | .const v, .c x => constIs v x
  | .func f, .c (.func g []) => f == g
  | _, _ => false
def okGuard (draw : Bool) (bf : List Nat) (ops : List Oper) (ls : List Ln) (i : Nat) (o : Oper) (l : Ln) : Bool :=
  match o.guard, l.g with
  | none, none => true
  | some (j, b), some (.t d, b') => b == b' && decide (d < i) && j == i - 1 - d && (tgt ls j).isNone && (dstAt ops j).isSome && bfr draw bf j i
  | _, _ => false
def okDst (ops : List Oper) (nt i : Nat) (o : Oper) : Bool :=
  match o.dst with
  | none => true
  | some s => decide (s < nt) && (List.range i).all fun j => !(dstAt ops j == some s)
def okIni (ls : List Ln) (draw : Bool) (bf : List Nat) (i : Nat) (o : Oper) (l : Ln) : Bool :=
  match l.op with
  | .alc0 _ => l.g.isNone && o.dst.isSome
  | .ini (.t d) _ m => l.g.isNone && o.dst.isNone && decide (d < i) && alcAt ls (i - 1 - d) == some m && bfr draw bf (i - 1 - d) i && (List.range i).all fun j => !(tgt ls j == some (i - 1 - d))
  | .ini .. => false
  | _ => true
/-- Makes blocks, looks at none. -/
def freeAt (ls : List Ln) (i : Nat) : Bool :=
  match ls[i]? with
  | some l => l.g.isNone && (match l.op with
    | .mks .. | .can .. | .alc .. => true
    | _ => false)
  | none => false
/-- Two effects that are not ordered. -/
def loose (ls : List Ln) (draw : Bool) (bf : List Nat) (j i : Nat) : Bool := effAt ls j && effAt ls i && decide (j < i) && !bfr draw bf j i
def looseL (ls : List Ln) (draw : Bool) (bf : List Nat) (j : Nat) : Bool := (List.range ls.length).any fun i => loose ls draw bf j i
def looseR (ls : List Ln) (draw : Bool) (bf : List Nat) (i : Nat) : Bool := (List.range ls.length).any fun j => loose ls draw bf j i
/-- From the first to the last of the effects that are not ordered. -/
def inG (ls : List Ln) (draw : Bool) (bf : List Nat) (k : Nat) : Bool := ((List.range (k + 1)).any fun j => looseL ls draw bf j) && ((List.range ls.length).any fun i => decide (k ≤ i) && looseR ls draw bf i)
def okEff (ls : List Ln) (draw : Bool) (bf : List Nat) (i : Nat) (l : Ln) : Bool :=
  if l.op.isE || l.op.isW then !l.prev && (!inG ls draw bf i || freeAt ls i) else true
/-- The line whose blocks a reading line looks at. -/
def verOf (ls : List Ln) (i : Nat) (l : Ln) : Nat := if l.prev then ((List.range i).reverse.find? (effAt ls)).getD 0 else i
def noEff (ls : List Ln) (a b : Nat) : Bool := (List.range b).all fun k => !(decide (a ≤ k)) || !effAt ls k
def okRead (ls : List Ln) (draw : Bool) (bf : List Nat) (i : Nat) (l : Ln) : Bool :=
  if l.op.isE || l.op.isW || l.op.isP then true else
    (if l.prev then decide (verOf ls i l < i) && eAt ls (verOf ls i l) && noEff ls (verOf ls i l + 1) i else true) &&
    (List.range ls.length).all fun j => !effAt ls j || (if j < verOf ls i l then bfr draw bf j i else bfr draw bf i j || (j != i && eAt ls j && noEff ls (verOf ls i l) j))
def okBf (draw : Bool) (bf : List Nat) (i : Nat) (o : Oper) : Bool :=
  if draw then bf[i]? == some (maskOf bf o) && o.after.toList.all fun e => !Region.binds .any e || decide (e.on < i) else true
def okLine (P : Program) (draw : Bool) (bf : List Nat) (ops : List Oper) (ls : List Ln) (sl : List Nat) (nt i : Nat) : Bool :=
  match ops[i]?, ls[i]? with
  | some o, some l => okOp P (okRef draw bf ops ls sl i) o.op l.op && okGuard draw bf ops ls i o l && okDst ops nt i o && okIni ls draw bf i o l && okEff ls draw bf i l && okRead ls draw bf i l && okBf draw bf i o
  | _, _ => false

theorem mask_fold (bf : List Nat) (i : Nat) : ∀ (es : List Edge) (s : Nat), (es.foldl (fun s e => if Region.binds .any e then s ||| 2 ^ e.on ||| (bf[e.on]?).getD 0 else s) s).testBit i = true →
    s.testBit i = true ∨ ∃ e ∈ es, Region.binds .any e = true ∧ (e.on = i ∨ ((bf[e.on]?).getD 0).testBit i = true)
  | [], s, h => .inl h
  | e :: es, s, h => by
    simp only [List.foldl_cons] at h
    rcases mask_fold bf i es _ h with h | ⟨e', h1, h2⟩
    · by_cases hb : Region.binds .any e = true
      · rw [if_pos hb] at h
        simp only [Nat.testBit_or, Bool.or_eq_true, Nat.testBit_two_pow, decide_eq_true_eq] at h
        rcases h with (h | h) | h
        · exact .inl h
        · exact .inr ⟨e, by simp, hb, .inl h⟩
        · exact .inr ⟨e, by simp, hb, .inr h⟩
      · rw [if_neg hb] at h
        exact .inl h
    · exact .inr ⟨e', by simp [h1], h2⟩

/-- A region with its lines, and the run of the lines. -/
structure RC (P : Program) where
  draw : Bool
  bf : List Nat
  ops : List Oper
  ls : List Ln
  sl : List Nat
  nt : Nat
  ce : CE
  vars : List AV
  σ0 : List Blk
  st : Nat → LS
  len : ops.length = ls.length
  ok : ∀ i, i < ls.length → okLine P draw bf ops ls sl nt i = true
  st0 : st 0 = ⟨[], σ0, σ0⟩
  run : ∀ i l, ls[i]? = some l → line1 ce vars (st i) l = some (st (i + 1))
  hce : CallOk P ce
  hbd : HasBody P ce

structure Facts (X : RC P) (i : Nat) (o : Oper) (l : Ln) : Prop where
  op : okOp P (okRef X.draw X.bf X.ops X.ls X.sl i) o.op l.op = true
  g : okGuard X.draw X.bf X.ops X.ls i o l = true
  dst : okDst X.ops X.nt i o = true
  ini : okIni X.ls X.draw X.bf i o l = true
  eff : okEff X.ls X.draw X.bf i l = true
  read : okRead X.ls X.draw X.bf i l = true
  bf : okBf X.draw X.bf i o = true

namespace RC
variable (X : RC P)

theorem at_ {i : Nat} (h : i < X.ls.length) : ∃ o l, X.ops[i]? = some o ∧ X.ls[i]? = some l ∧ Facts X i o l := by
  have := X.ok i h
  unfold okLine at this
  split at this
  · rename_i o l ho hl
    simp only [Bool.and_eq_true] at this
    obtain ⟨⟨⟨⟨⟨⟨a1, a2⟩, a3⟩, a4⟩, a5⟩, a6⟩, a7⟩ := this
    exact ⟨o, l, ho, hl, a1, a2, a3, a4, a5, a6, a7⟩
  · simp at this

theorem env1 {i : Nat} (h : i < X.ls.length) : ∃ v, (X.st (i + 1)).env = v :: (X.st i).env := by
  obtain ⟨o, l, _, hl, _⟩ := X.at_ h
  exact line1_env (X.run i l hl)
theorem envAt {i : Nat} (h : i ≤ X.ls.length) {d : Nat} (hd : d < i) : nth (X.st i).env d = valOf X.st (i - 1 - d) :=
  env_nth (by rw [X.st0]) (fun i hi => X.env1 hi) i h d hd

/-- Lines that are no effects leave the blocks. -/
theorem still {i : Nat} {l : Ln} (hl : X.ls[i]? = some l) (h : effAt X.ls i = false) : (X.st (i + 1)).σ = (X.st i).σ ∧ (X.st (i + 1)).σp = (X.st i).σp := by
  have hr := X.run i l hl
  have h' : l.op.isE = false ∧ l.op.isW = false := by simpa [effAt, hl] using h
  unfold line1 at hr
  split at hr
  · simp at hr
  · simp at hr; rw [← hr]; exact ⟨rfl, rfl⟩
  · rw [if_neg (by rw [h'.2]; simp)] at hr
    split at hr
    · simp only [h'.1, Bool.false_eq_true, if_false, Option.some.injEq] at hr; rw [← hr]; exact ⟨rfl, rfl⟩
    · rename_i he
      have := ev_none h'.1 he
      simp at this
    · simp at hr

theorem same {p : Nat} : ∀ (k : Nat), p + k ≤ X.ls.length → (∀ j, p ≤ j → j < p + k → effAt X.ls j = false) → (X.st (p + k)).σ = (X.st p).σ ∧ (X.st (p + k)).σp = (X.st p).σp
  | 0, _, _ => ⟨rfl, rfl⟩
  | k + 1, h, hn => by
    obtain ⟨_, l, _, hl, _⟩ := X.at_ (show p + k < X.ls.length by omega)
    obtain ⟨h1, h2⟩ := X.still hl (hn (p + k) (by omega) (by omega))
    obtain ⟨g1, g2⟩ := same k (by omega) fun j a b => hn j a (by omega)
    exact ⟨h1.trans g1, h2.trans g2⟩
theorem same' {p q : Nat} (h : p ≤ q) (hq : q ≤ X.ls.length) (hn : ∀ j, p ≤ j → j < q → effAt X.ls j = false) : (X.st q).σ = (X.st p).σ ∧ (X.st q).σp = (X.st p).σp := by
  have := X.same (p := p) (q - p) (by omega) (fun j a b => hn j a (by omega))
  rwa [show p + (q - p) = q by omega] at this
end RC
end Ab
namespace Ab
open Go
variable {P : Program}

/-- The effects before f are done, no others. -/
structure FrontN (X : RC P) (D : Nat → Prop) (C : Ctx) (f : Nat) : Prop where
  fle : f ≤ X.ls.length
  lo : ∀ e, e < f → effAt X.ls e = true → D e
  hi : ∀ e, f ≤ e → effAt X.ls e = true → ¬ D e
  shows : Shows C (X.st f).σ
  last : 0 < f → effAt X.ls (f - 1) = true ∧ (eAt X.ls (f - 1) = true → Seen C (X.st (f - 1)).σ)
/-- The blocks that are there: those before lo, and those of the group's effects that are done. -/
def alive (X : RC P) (D : Nat → Prop) (lo : Nat) (b : Nat) : Prop := b < (X.st lo).σ.length ∨ ∃ i, effAt X.ls i = true ∧ inG X.ls X.draw X.bf i = true ∧ D i ∧ (X.st i).σ.length ≤ b ∧ b < (X.st (i + 1)).σ.length
/-- Some of the group of unordered effects are done, and all effects before it, none behind it. -/
structure FrontG (X : RC P) (D : Nat → Prop) (C : Ctx) (lo hi : Nat) : Prop where
  grp : ∀ k, inG X.ls X.draw X.bf k = true ↔ lo ≤ k ∧ k ≤ hi
  ehi : effAt X.ls hi = true
  le : lo ≤ hi
  before : ∀ e, e < lo → effAt X.ls e = true → D e
  behind : ∀ e, hi < e → effAt X.ls e = true → ¬ D e
  shows : ∃ ids, (∀ b u e, alive X D lo b → (ctxOf (X.st (hi + 1)).σ ids C.I).own b u = some e → C.own b u = some e) ∧ ∀ b u, C.lim b u → alive X D lo b ∧ (ctxOf (X.st (hi + 1)).σ ids C.I).lim b u
def Front (X : RC P) (D : Nat → Prop) (C : Ctx) (f : Nat) : Prop := FrontN X D C f ∨ ∃ lo hi, FrontG X D C lo hi ∧ ∃ k, effAt X.ls k = true ∧ inG X.ls X.draw X.bf k = true ∧ D k
/-- The region has got so far: D is what was carried out; what is known of memory is C, and the effects before f are done. -/
structure Inv (X : RC P) (C0 : Ctx) (w0 : World) (ds : List Deferred) (D : Nat → Prop) (C : Ctx) (f : Nat) (a : Act) (w : World) : Prop where
  good : Good C w
  step : Step C0 w0 C w
  size : a.tmps.size = X.nt
  defers : a.defers = ds
  below : ∀ j, D j → j < X.ls.length
  closed : ∀ i j, D j → bfr X.draw X.bf i j = true → D i
  tv : ∀ j s, D j → slotOf X.ops X.ls j = some s → VR C w.heap (valOf X.st j) (a.tmps.getD s undef)
  vv : ∀ k s, X.sl[k]? = some s → (∀ j, D j → dstAt X.ops j ≠ some s) → VR C w.heap (nth X.vars k) (a.tmps.getD s undef)
  lb : ∀ j m, D j → alcAt X.ls j = some m → (∀ i, D i → tgt X.ls i ≠ some j) → ∃ s id c el, dstAt X.ops j = some s ∧ a.tmps.getD s undef = .pointer (some ⟨id, 0, none⟩) ∧ w0.heap.size ≤ id ∧ ¬ C.I id ∧ ¬ owned C id ∧
    w.heap[id]? = some (.cells c el (0, 0)) ∧ c.size = m
  lbd : ∀ j j' m m' s s' id, D j → D j' → alcAt X.ls j = some m → alcAt X.ls j' = some m' → (∀ i, D i → tgt X.ls i ≠ some j) → (∀ i, D i → tgt X.ls i ≠ some j') → dstAt X.ops j = some s → dstAt X.ops j' = some s' → j ≠ j' →
    a.tmps.getD s undef = .pointer (some ⟨id, 0, none⟩) → a.tmps.getD s' undef ≠ .pointer (some ⟨id, 0, none⟩)
  fr : Front X D C f

section
variable {X : RC P} {C0 : Ctx} {w0 : World} {ds : List Deferred} {D : Nat → Prop} {C : Ctx} {f : Nat} {a : Act} {w : World}

/-- An operation's operands stand for what the lines say. -/
theorem Inv.ref (h : Inv X C0 w0 ds D C f a w) {i : Nat} (hi : i < X.ls.length) (hD : ¬ D i) (hb : ∀ j, bfr X.draw X.bf j i = true → D j) {x : Operand} {y : Rf} (hr : okRef X.draw X.bf X.ops X.ls X.sl i x y = true) :
    VR C w.heap (rv X.vars (X.st i).env y) (a.eval x) := by
  unfold okRef at hr
  split at hr
  · simp only [Bool.and_eq_true, decide_eq_true_eq, beq_iff_eq] at hr
    obtain ⟨⟨h1, h2⟩, h3⟩ := hr
    show VR C w.heap (nth (X.st i).env _) (a.tmps.getD _ undef)
    rw [X.envAt (by omega) h1]
    exact h.tv _ _ (hb _ h3) h2
  · rename_i s k
    simp only [Bool.and_eq_true, beq_iff_eq, List.all_eq_true, List.mem_range, Bool.or_eq_true, Bool.not_eq_true', beq_eq_false_iff_ne] at hr
    refine h.vv k s hr.1 fun j hj hd => ?_
    rcases hr.2 j (by rw [X.len]; exact h.below j hj) with h1 | h1
    · exact h1 hd
    · exact hD (h.closed _ _ hj h1)
  · exact constIs_VR hr
  · simp only [beq_iff_eq] at hr
    subst hr
    show VR C w.heap (.func _ []) (.func (.func _) #[] #[])
    unfold VR
    exact ⟨[], rfl, rfl⟩
  · simp at hr

/-- Whether it is carried out. -/
theorem Inv.wanted (h : Inv X C0 w0 ds D C f a w) {i : Nat} (hi : i < X.ls.length) (hb : ∀ j, bfr X.draw X.bf j i = true → D j) {o : Oper} {l : Ln} (hF : Facts X i o l) {b : Bool} (hw : want X.vars (X.st i).env l.g = some b) :
    Region.wanted o (yielded X.ops.toArray a.tmps) = b := by
  have hg := hF.g
  unfold okGuard at hg
  split at hg
  · rename_i h1 h2
    rw [h2] at hw
    simp [want] at hw; subst hw
    unfold Region.wanted; rw [h1]
  · rename_i j b1 d b2 h1 h2
    simp only [Bool.and_eq_true, beq_iff_eq, decide_eq_true_eq, Option.isNone_iff_eq_none] at hg
    obtain ⟨⟨⟨⟨⟨rfl, hd⟩, rfl⟩, ht⟩, hsome⟩, hbf⟩ := hg
    rw [h2] at hw
    simp only [want, rv, X.envAt (Nat.le_of_lt hi) hd] at hw
    unfold Region.wanted; rw [h1]
    simp only
    have hDj := hb _ hbf
    have hval : ∀ s, dstAt X.ops (i - 1 - d) = some s → VR C w.heap (valOf X.st (i - 1 - d)) (a.tmps.getD s undef) := fun s hs => h.tv _ s hDj (by simp only [slotOf, ht]; exact hs)
    have hy : yielded X.ops.toArray a.tmps (i - 1 - d) = match (dstAt X.ops (i - 1 - d)).bind (a.tmps[·]?) with
        | some (.bool b) => some b
        | _ => none := by
      unfold yielded dstAt
      simp only [List.getElem?_toArray]
      rfl
    rw [hy]
    cases hds : dstAt X.ops (i - 1 - d) with
    | none => rw [hds] at hsome; simp at hsome
    | some s =>
      have hv := hval s hds
      simp only [Option.bind_some]
      cases hq : valOf X.st (i - 1 - d) <;> simp only [hq] at hw <;> try (simp at hw; done)
      · rw [hq] at hv
        have hv : a.tmps.getD s undef = .bool _ := hv
        simp at hw; subst hw
        have : a.tmps[s]? = some (.bool ‹Bool›) := by
          rw [Array.getD_eq_getD_getElem?] at hv
          cases ht' : a.tmps[s]? with
          | none => rw [ht'] at hv; simp [undef] at hv
          | some v => rw [ht'] at hv; simp at hv; rw [hv]
        rw [this]
        simp
      · rename_i tl
        cases tl with
        | cons _ _ => simp at hw
        | nil =>
          simp at hw; subst hw
          rw [hq] at hv
          unfold VR at hv
          obtain ⟨vs, e1, e2⟩ := hv
          have e2 : vs = [] := e2
          subst e2
          rw [Array.getD_eq_getD_getElem?] at e1
          cases ht' : a.tmps[s]? with
          | none => rfl
          | some v => rw [ht'] at e1; simp at e1; rw [e1]; rfl
  · simp at hg
end
end Ab
namespace Ab
open Go
variable {P : Program}

theorem put_getD {a : Act} {dst : Option Tmp} {v : Value} {nt : Nat} (hn : a.tmps.size = nt) (hs : ∀ s, dst = some s → s < nt) (s : Nat) : (a.put dst v).tmps.getD s undef = if dst = some s then v else a.tmps.getD s undef := by
  cases dst with
  | none => simp [Act.put]
  | some d =>
    have hd := hs d rfl
    simp only [Act.put, Array.getD_eq_getD_getElem?, Array.getElem?_setIfInBounds]
    by_cases e : d = s
    · subst e
      simp [hn, hd]
    · simp [e]
theorem put_size (a : Act) (dst : Option Tmp) (v : Value) : (a.put dst v).tmps.size = a.tmps.size := by cases dst <;> simp [Act.put]
theorem put_defers (a : Act) (dst : Option Tmp) (v : Value) : (a.put dst v).defers = a.defers := by cases dst <;> rfl

namespace RC
variable (X : RC P)
theorem dst_lt {i s : Nat} (h : dstAt X.ops i = some s) : i < X.ls.length := by
  unfold dstAt at h
  cases ho : X.ops[i]? with
  | none => simp [ho] at h
  | some o => rw [← X.len]; exact (List.getElem?_eq_some_iff.1 ho).1
theorem dst_nt {i s : Nat} (h : dstAt X.ops i = some s) : s < X.nt := by
  obtain ⟨o, l, ho, hl, hF⟩ := X.at_ (X.dst_lt h)
  have := hF.dst
  simp only [dstAt, ho, Option.bind_some] at h
  simp only [okDst, h, Bool.and_eq_true, decide_eq_true_eq] at this
  exact this.1
theorem dst_ne {i j s : Nat} (h : dstAt X.ops i = some s) (k : dstAt X.ops j = some s) (hlt : j < i) : False := by
  obtain ⟨o, l, ho, hl, hF⟩ := X.at_ (X.dst_lt h)
  have := hF.dst
  simp only [dstAt, ho, Option.bind_some] at h
  simp only [okDst, h, Bool.and_eq_true, List.all_eq_true, List.mem_range] at this
  have := this.2 j hlt
  simp [k] at this
theorem dst_inj {i j s : Nat} (h : dstAt X.ops i = some s) (k : dstAt X.ops j = some s) : i = j := by
  rcases Nat.lt_trichotomy i j with hlt | he | hlt
  · exact (X.dst_ne k h hlt).elim
  · exact he
  · exact (X.dst_ne h k hlt).elim
theorem tgt_spec {i t : Nat} (h : tgt X.ls i = some t) : i < X.ls.length ∧ ∃ o l d x m, X.ops[i]? = some o ∧ X.ls[i]? = some l ∧ Facts X i o l ∧ l.op = .ini (.t d) x m ∧ l.g = none ∧ o.dst = none ∧ d < i ∧ t = i - 1 - d ∧ alcAt X.ls t = some m ∧
    bfr X.draw X.bf t i = true ∧ ∀ j, j < i → tgt X.ls j ≠ some t := by
  unfold tgt at h
  cases hl : X.ls[i]? with
  | none => simp [hl] at h
  | some l =>
    have hi := (List.getElem?_eq_some_iff.1 hl).1
    obtain ⟨o, l', ho, hl', hF⟩ := X.at_ hi
    rw [hl] at hl'; simp at hl'; subst hl'
    simp only [hl] at h
    split at h
    · rename_i d x m hop
      have := hF.ini
      simp only [okIni, hop, Bool.and_eq_true, Option.isNone_iff_eq_none, decide_eq_true_eq, beq_iff_eq, List.all_eq_true, List.mem_range, Bool.not_eq_true', beq_eq_false_iff_ne] at this
      obtain ⟨⟨⟨⟨⟨a1, a2⟩, a3⟩, a4⟩, a5⟩, a6⟩ := this
      simp at h; subst h
      exact ⟨hi, o, l, d, x, m, ho, rfl, hF, hop, a1, a2, a3, rfl, a4, a5, a6⟩
    · simp at h
theorem tgt_inj {i j t : Nat} (h : tgt X.ls i = some t) (k : tgt X.ls j = some t) : i = j := by
  obtain ⟨_, _, _, _, _, _, _, _, _, _, _, _, _, _, _, _, h1⟩ := X.tgt_spec h
  obtain ⟨_, _, _, _, _, _, _, _, _, _, _, _, _, _, _, _, h2⟩ := X.tgt_spec k
  rcases Nat.lt_trichotomy i j with hlt | he | hlt
  · exact absurd h (h2 i hlt)
  · exact he
  · exact absurd k (h1 j hlt)
end RC

section
variable {X : RC P} {C0 : Ctx} {w0 : World} {ds : List Deferred} {D : Nat → Prop} {C : Ctx} {f : Nat} {a : Act} {w : World}

/-- Behind an operation that is no effect. -/
theorem Front.noeff {i : Nat} (h : Front X D C f) (he : effAt X.ls i = false) (I' : Nat → Prop) : Front X (fun j => D j ∨ j = i) { C with I := I' } f := by
  rcases h with h | ⟨j, i2, h, k0, y1, y2, y3⟩
  · refine .inl ⟨h.fle, fun e h1 h2 => .inl (h.lo e h1 h2), fun e h1 h2 h3 => ?_, h.shows.withI I', fun hf => ⟨(h.last hf).1, fun he => ((h.last hf).2 he).withI I'⟩⟩
    rcases h3 with h3 | rfl
    · exact h.hi e h1 h2 h3
    · rw [he] at h2; simp at h2
  · obtain ⟨ids, e1, e2⟩ := h.shows
    have hal : ∀ b, alive X (fun k => D k ∨ k = i) j b ↔ alive X D j b := fun b => by
      constructor
      · rintro (h1 | ⟨k, k1, k2, k3, k4⟩)
        · exact .inl h1
        · rcases k3 with k3 | rfl
          · exact .inr ⟨k, k1, k2, k3, k4⟩
          · rw [he] at k1; simp at k1
      · rintro (h1 | ⟨k, k1, k2, k3, k4⟩)
        · exact .inl h1
        · exact .inr ⟨k, k1, k2, .inl k3, k4⟩
    refine .inr ⟨j, i2, ⟨h.grp, h.ehi, h.le, fun e h1 h2 => .inl (h.before e h1 h2), fun e h1 h2 h3 => ?_, ids, fun b u e ha ho => e1 b u e ((hal b).1 ha) ho, fun b u hl => ⟨(hal b).2 (e2 b u hl).1, (e2 b u hl).2⟩⟩, k0, y1, y2, .inl y3⟩
    rcases h3 with h3 | rfl
    · exact h.behind e h1 h2 h3
    · rw [he] at h2; simp at h2
/-- A line that is no filling of an allocation was carried out. -/
theorem Inv.after (h : Inv X C0 w0 ds D C f a w) {i : Nat} (hi : i < X.ls.length) (hD : ¬ D i) (hb : ∀ j, bfr X.draw X.bf j i = true → D j) {o : Oper} (ho : X.ops[i]? = some o) {C' : Ctx} {w' : World} {v : Value} {f' : Nat}
    (hg' : Good C' w') (hst : Step C w C' w') (hini : tgt X.ls i = none) (hv : VR C' w'.heap (valOf X.st i) v)
    (hal : ∀ m, alcAt X.ls i = some m → (∃ s, o.dst = some s) ∧ ∃ id c el, v = .pointer (some ⟨id, 0, none⟩) ∧ w.heap.size ≤ id ∧ ¬ C'.I id ∧ ¬ owned C' id ∧ w'.heap[id]? = some (.cells c el (0, 0)) ∧ c.size = m)
    (hfr : Front X (fun j => D j ∨ j = i) C' f') : Inv X C0 w0 ds (fun j => D j ∨ j = i) C' f' (a.put o.dst v) w' := by
  have hdi : dstAt X.ops i = o.dst := by simp [dstAt, ho]
  have hget := put_getD (v := v) h.size (dst := o.dst) fun s hs => X.dst_nt (i := i) (by rw [hdi]; exact hs)
  have hgo : ∀ j s, D j → dstAt X.ops j = some s → (a.put o.dst v).tmps.getD s undef = a.tmps.getD s undef := fun j s hj hs => by
    rw [hget, if_neg]
    intro e
    have := X.dst_inj hs (hdi.trans e)
    exact hD (this ▸ hj)
  have old : ∀ j m, D j → alcAt X.ls j = some m → (∀ i', (D i' ∨ i' = i) → tgt X.ls i' ≠ some j) → ∃ s id c el, dstAt X.ops j = some s ∧ a.tmps.getD s undef = .pointer (some ⟨id, 0, none⟩) ∧ (a.put o.dst v).tmps.getD s undef = .pointer (some ⟨id, 0, none⟩) ∧
      w0.heap.size ≤ id ∧ ¬ C'.I id ∧ ¬ owned C' id ∧ w'.heap[id]? = some (.cells c el (0, 0)) ∧ c.size = m ∧ id < w.heap.size := fun j m hj hm hn => by
    obtain ⟨s, id, c, el, k1, k2, k3, k4, k5, k6, k7⟩ := h.lb j m hj hm fun i' hi' => hn i' (.inl hi')
    have hlt := (Array.getElem?_eq_some_iff.1 k6).1
    refine ⟨s, id, c, el, k1, k2, by rw [hgo j s hj k1]; exact k2, k3, fun hI => ?_, fun hO => ?_, by rw [hst.frame id hlt k5]; exact k6, k7, hlt⟩
    · rcases hst.immOrig id hI with q | q | q
      · exact k4 q
      · exact k5 q
      · omega
    · rcases hst.ownOrig id hO with q | q
      · exact k5 q
      · omega
  refine ⟨hg', h.step.trans hst, by rw [put_size]; exact h.size, by rw [put_defers]; exact h.defers, fun j hj => hj.elim (h.below j) (fun e => e ▸ hi), fun i' j hj hbf => ?_, fun j s hj hs => ?_, fun k s hk hn => ?_, fun j m hj hm hn => ?_, ?_, hfr⟩
  · rcases hj with hj | rfl
    · exact .inl (h.closed _ _ hj hbf)
    · exact .inl (hb _ hbf)
  · rcases hj with hj | rfl
    · have hne : o.dst ≠ some s := fun e => by
        unfold slotOf at hs
        cases ht : tgt X.ls j with
        | none =>
          simp only [ht] at hs
          exact hD (X.dst_inj hs (hdi.trans e) ▸ hj)
        | some t =>
          simp only [ht] at hs
          obtain ⟨_, _, _, _, _, _, _, _, _, _, _, _, _, _, _, hbt, _⟩ := X.tgt_spec ht
          exact hD (X.dst_inj hs (hdi.trans e) ▸ h.closed _ _ hj hbt)
      rw [hget, if_neg hne]
      exact VR.mono hst.ev _ _ (h.tv j s hj hs)
    · simp only [slotOf, hini, hdi] at hs
      rw [hget, if_pos hs]
      exact hv
  · have hne : o.dst ≠ some s := fun e => hn i (.inr rfl) (hdi.trans e)
    rw [hget, if_neg hne]
    exact VR.mono hst.ev _ _ (h.vv k s hk fun j hj => hn j (.inl hj))
  · rcases hj with hj | rfl
    · obtain ⟨s, id, c, el, k1, _, k2, k3, k4, k5, k6, k7, _⟩ := old j m hj hm hn
      exact ⟨s, id, c, el, k1, k2, k3, k4, k5, k6, k7⟩
    · obtain ⟨⟨s, hs⟩, id, c, el, k1, k2, k3, k4, k5, k6⟩ := hal m hm
      exact ⟨s, id, c, el, hdi.trans hs, by rw [hget, if_pos hs]; exact k1, Nat.le_trans h.step.size k2, k3, k4, k5, k6⟩
  · intro j j' m m' s s' id hj hj' hm hm' hn hn' hs hs' hne e1 e2
    rcases hj with hj | rfl <;> rcases hj' with hj' | rfl
    · rw [hgo j s hj hs] at e1
      rw [hgo j' s' hj' hs'] at e2
      exact h.lbd j j' m m' s s' id hj hj' hm hm' (fun i' hi' => hn i' (.inl hi')) (fun i' hi' => hn' i' (.inl hi')) hs hs' hne e1 e2
    · obtain ⟨s1, id1, c, el, k1, _, k2, _, _, _, _, _, k3⟩ := old j m hj hm hn
      rw [k1] at hs; simp at hs; subst hs
      obtain ⟨_, id2, c2, el2, q1, q2, _⟩ := hal m' hm'
      rw [hget, if_pos (hdi.symm.trans hs'), q1] at e2
      rw [k2] at e1
      simp at e1 e2
      omega
    · obtain ⟨s1, id1, c, el, k1, _, k2, _, _, _, _, _, k3⟩ := old j' m' hj' hm' hn'
      rw [k1] at hs'; simp at hs'; subst hs'
      obtain ⟨_, id2, c2, el2, q1, q2, _⟩ := hal m hm
      rw [hget, if_pos (hdi.symm.trans hs), q1] at e1
      rw [k2] at e2
      simp at e1 e2
      omega
    · exact hne rfl

/-- An allocation was filled: it is never written again. -/
theorem Inv.fill (h : Inv X C0 w0 ds D C f a w) {i t d m : Nat} {x : Rf} (hi : i < X.ls.length) (hD : ¬ D i) (hb : ∀ j, bfr X.draw X.bf j i = true → D j) {l : Ln} (hl : X.ls[i]? = some l) (hop : l.op = .ini (.t d) x m) (ht : tgt X.ls i = some t)
    {xv : AV} {y : Value} (hval : valOf X.st i = .pimm xv) (hn : noLoc xv = true) (hxy : VR C w.heap xv y) {s id : Nat} {c : Array Value} {el : TypeId} (hs : dstAt X.ops t = some s) (hp : a.tmps.getD s undef = .pointer (some ⟨id, 0, none⟩))
    (hid : w0.heap.size ≤ id) (hI : ¬ C.I id) (hO : ¬ owned C id) (hH : w.heap[id]? = some (.cells c el (0, 0))) {c' : Array Value} (hsz : c'.size = c.size) (hc : ∀ j, j < y.cells.size → c'[j]? = y.cells[j]?) :
    Inv X C0 w0 ds (fun j => D j ∨ j = i) { C with I := fun k => C.I k ∨ k = id } f a (w.setRow id c') := by
  obtain ⟨_, o, l', d', x', m', ho, hl', hF, hop', hg, hdst, hd, htd, hal, hbt, huniq⟩ := X.tgt_spec ht
  have hDt := hb _ hbt
  have hdi : dstAt X.ops i = none := by simp [dstAt, ho, hdst]
  have hH' : (w.setRow id c').heap[id]? = some (.cells c' el (0, 0)) := setRow_heap w id c c' el (0, 0) hH
  have hlt := (Array.getElem?_eq_some_iff.1 hH).1
  have ev : Evol C w.heap { C with I := fun k => C.I k ∨ k = id } (w.setRow id c').heap := by
    refine ⟨fun k hk => .inl hk, fun k hk => setRow_other w id c' fun e => hI (e ▸ hk), fun _ _ h => h, fun b u B' id2 _ hown => ⟨B', hown, rfl, rfl, fun c2 el2 hc2 => ?_⟩⟩
    by_cases e : id2 = id
    · subst e
      rw [hH] at hc2; simp at hc2; obtain ⟨rfl, rfl⟩ := hc2
      exact ⟨c', hH', hsz⟩
    · exact ⟨c2, by rw [setRow_other w id c' e]; exact hc2, rfl⟩
  have hgood : Good { C with I := fun k => C.I k ∨ k = id } (w.setRow id c') := by
    refine ⟨fun k hk => by rw [setRow_size]; exact hk.elim (h.good.I k) (fun e => e ▸ hlt), h.good.ent, fun b u B i' hown hlv => ?_, h.good.apart⟩
    obtain ⟨k1, c2, el2, k2, k3, k4⟩ := h.good.live b u B i' hown hlv
    have hne : i' ≠ id := fun e => hO ⟨b, u, B, e ▸ hown, hlv⟩
    refine ⟨fun hk => hk.elim k1 hne, c2, el2, by rw [setRow_other w id c' hne]; exact k2, k3, fun i2 x2 hx2 => ?_⟩
    obtain ⟨y2, j1, j2, j3⟩ := k4 i2 x2 hx2
    exact ⟨y2, j1, VR.mono ev _ _ j2, j3⟩
  have hstep : Step C0 w0 { C with I := fun k => C.I k ∨ k = id } (w.setRow id c') := by
    refine ⟨h.step.ev.trans ev, by rw [setRow_size]; exact h.step.size, fun k hk hno => by rw [setRow_other w id c' (by omega)]; exact h.step.frame k hk hno, fun k hk => h.step.ownOrig k hk, fun k hk => ?_, h.step.os, h.step.tape, h.step.output⟩
    rcases hk with hk | rfl
    · exact h.step.immOrig k hk
    · exact .inr (.inr hid)
  have hne : effAt X.ls i = false := by simp [effAt, hl, hop, IOp.isE, IOp.isW]
  have hnt : ∀ i', D i' → tgt X.ls i' ≠ some t := fun i' hi' e => hD (X.tgt_inj ht e ▸ hi')
  refine ⟨hgood, hstep, h.size, h.defers, fun j hj => hj.elim (h.below j) (fun e => e ▸ hi), fun i' j hj hbf => ?_, fun j s' hj hs' => ?_, fun k s' hk hn' => ?_, fun j m2 hj hm hn' => ?_, ?_, h.fr.noeff hne _⟩
  · rcases hj with hj | rfl
    · exact .inl (h.closed _ _ hj hbf)
    · exact .inl (hb _ hbf)
  · rcases hj with hj | rfl
    · exact VR.mono ev _ _ (h.tv j s' hj hs')
    · simp only [slotOf, ht] at hs'
      rw [hs] at hs'; simp at hs'; subst hs'
      rw [hval, hp]
      unfold VR
      exact ⟨hn, id, 0, c', el, (0, 0), y, rfl, .inr rfl, hH', VR.mono ev _ _ hxy, fun j hj => by rw [Nat.zero_add]; exact hc j hj⟩
  · exact VR.mono ev _ _ (h.vv k s' hk fun j hj => hn' j (.inl hj))
  · rcases hj with hj | rfl
    · obtain ⟨s2, id2, c2, el2, k1, k2, k3, k4, k5, k6, k7⟩ := h.lb j m2 hj hm fun i' hi' => hn' i' (.inl hi')
      have hjt : j ≠ t := fun e => hn' i (.inr rfl) (e ▸ ht)
      have hne2 : id2 ≠ id := fun e => by
        subst e
        exact h.lbd j t m2 m' s2 s id2 hj hDt hm hal (fun i' hi' => hn' i' (.inl hi')) hnt k1 hs hjt k2 hp
      exact ⟨s2, id2, c2, el2, k1, k2, k3, fun hk => hk.elim k4 hne2, k5, by rw [setRow_other w id c' hne2]; exact k6, k7⟩
    · simp [alcAt, hl, hop] at hm
  · intro j j' m1 m2 s1 s2 id2 hj hj' hm hm' hn1 hn2 hs1 hs2 hne' e1 e2
    have hji : ∀ j m, (D j ∨ j = i) → alcAt X.ls j = some m → D j := fun j m hj hm => hj.elim (fun q => q) fun e => by
      subst e; simp [alcAt, hl, hop] at hm
    exact h.lbd j j' m1 m2 s1 s2 id2 (hji j m1 hj hm) (hji j' m2 hj' hm') hm hm' (fun i' hi' => hn1 i' (.inl hi')) (fun i' hi' => hn2 i' (.inl hi')) hs1 hs2 hne' e1 e2
end
end Ab
namespace Ab
open Go
variable {P : Program}
section
variable {a : Act} {r : Rf → AV} {w : World} {C : Ctx} {R : Operand → Rf → Bool} {ce : CE} {σ : List Blk} {nl : Nat} {ps : List Pend}

/-- **An operation that looks at owned blocks.** -/
theorem opR {o : Oper} {iop : IOp} {x : AV} {p : Option Pend} (hok : okOp P R o.op iop = true) (hP : iop.isP = false) (hE : iop.isE = false) (hW : iop.isW = false) (hce : CallOk P ce) (hg : Good C w)
    (hup : ∀ b u B, upto σ b u = some B → ∃ id, C.own b u = some (B, id))
    (hR : ∀ x y, R x y = true → VR C w.heap (r y) (a.eval x)) (he : ev ce σ nl ps r iop = some (x, p)) : Does P o a w (PostP C w x) := by
  obtain ⟨dst, op, type, pos, after, guard⟩ := o
  have pl : ∀ {x' : AV} {p' : Option Pend}, Plain P a.eval ⟨dst, op, type, pos, after, guard⟩ w C w.heap x' ∧ p' = none → Does P ⟨dst, op, type, pos, after, guard⟩ a w (PostP C w x') := fun h => h.1.does hg
  simp only [okOp] at hok
  split at hok
  all_goals first
    | (exfalso; simp [IOp.isP] at hP; done)
    | (exfalso; simp [IOp.isW] at hW; done)
    | (exfalso; simp [IOp.isE] at hE; done)
    | skip
  · simp only [Bool.and_eq_true, Bool.or_eq_true] at hok
    exact pl (pl_bnl (a := a) rfl rfl hok.1.1 hok.1.2 hup (hok.2.imp (fun h => ⟨h.1, hR _ _ h.2⟩) (fun h => ⟨h.1, hR _ _ h.2⟩)) he)
  · simp only [Bool.and_eq_true] at hok
    exact pl (pl_ld rfl hok.1 hg hup (hR _ _ hok.2) he)
  · simp only [Bool.and_eq_true] at hok
    obtain ⟨⟨⟨h1, h2⟩, h3⟩, h4⟩ := hok
    split at h1
    · rename_i e ht
      exact pl (pl_slc rfl ht h1 hup (hR _ _ h2) h3 h4 hR he)
    · simp at h1
  · simp only [Bool.and_eq_true, beq_iff_eq] at hok
    obtain ⟨⟨rfl, h1⟩, h2⟩ := hok
    exact (dp_cab hce rfl rfl h1 hg hup (allR_VRL hR h2) he).1
  · simp at hok

/-- **An operation that may turn blocks.** -/
theorem opW {o : Oper} {iop : IOp} {x : AV} {σ' : List Blk} {ids : Nat → Nat} {I : Nat → Prop} (hok : okOp P R o.op iop = true) (hW : iop.isW = true) (hce : CallOk P ce) (hbd : HasBody P ce) (hg : Good (ctxOf σ ids I) w)
    (hR : ∀ x y, R x y = true → VR (ctxOf σ ids I) w.heap (r y) (a.eval x)) (he : evW ce σ r iop = some (x, σ')) : Does P o a w (PostW σ ids I w x σ') := by
  obtain ⟨dst, op, type, pos, after, guard⟩ := o
  simp only [okOp] at hok
  split at hok
  all_goals first
    | (exfalso; simp [IOp.isW] at hW; done)
    | skip
  · simp only [Bool.and_eq_true] at hok
    exact dw_st rfl hok.1.1 hg (hR _ _ hok.1.2) (hR _ _ hok.2) he
  · split at hok
    · rename_i ha hat
      simp only [Bool.and_eq_true] at hok
      obtain ⟨⟨⟨h1, h2⟩, h3⟩, h4⟩ := hok
      split at h1
      · rename_i e ht
        simp only [Bool.and_eq_true] at h1
        exact dw_appw rfl rfl ha hat ht h2 h1.1.1 h1.1.2 h1.2 hg (hR _ _ h3) (hR _ _ h4) he
      · simp at h1
    · simp at hok
  · simp only [Bool.and_eq_true, beq_iff_eq] at hok
    obtain ⟨⟨rfl, h1⟩, h2⟩ := hok
    exact dw_cam hce rfl rfl h1 hg (allR_VRL hR h2) he
  · simp only [Bool.and_eq_true] at hok
    exact dw_camd hce hbd rfl rfl hg (hR _ _ hok.1) (allR_VRL hR hok.2) he
  · simp only [Bool.and_eq_true] at hok
    exact dw_invm hce hbd rfl rfl hok.2 hg (hR _ _ hok.1.1) (allR_VRL hR hok.1.2) he
  · split at hok
    · rename_i ha hat
      simp only [Bool.and_eq_true] at hok
      obtain ⟨h1, h2⟩ := hok
      split at h1
      · rename_i e ht
        simp only [Bool.and_eq_true] at h1
        exact dw_clr rfl rfl ha hat ht h1.1 h1.2 hg (hR _ _ h2) he
      · simp at h1
    · simp at hok
  · simp at hok

/-- **An allocation that is to be filled.** -/
theorem opA {o : Oper} {n : Nat} (hok : okOp P R o.op (.alc0 n) = true) (hg : Good C w) :
    Does P o a w fun v w' => Good C w' ∧ Step C w C w' ∧ ∃ id c el, v = .pointer (some ⟨id, 0, none⟩) ∧ w.heap.size ≤ id ∧ ¬ C.I id ∧ ¬ owned C id ∧ w'.heap[id]? = some (.cells c el (0, 0)) ∧ c.size = n := by
  obtain ⟨dst, op, type, pos, after, guard⟩ := o
  simp only [okOp] at hok
  split at hok
  all_goals first
    | (rename_i heq; exfalso; simp at heq; done)
    | skip
  · rename_i t n' heq
    simp at heq; subst heq
    simp only [Bool.and_eq_true] at hok
    obtain ⟨_, h2⟩ := hok
    cases hi : P.info? t with
    | none => simp [hi] at h2
    | some i =>
      simp only [hi] at h2
      cases hz : i.zero with
      | none => simp [hz] at h2
      | some v =>
        simp only [hz, beq_iff_eq] at h2
        obtain ⟨g1, g2⟩ := hg.grow (w' := pushW w (.cells v.cells t)) (by simp [pushW]) fun k hk => push_old w _ hk
        refine Does.val (v := .pointer (some ⟨w.heap.size, 0, none⟩)) (w' := pushW w (.cells v.cells t)) ?_ ⟨g1, ⟨g2, by simp [pushW], fun k hk _ => push_old w _ hk, fun k hk => .inl hk, fun k hk => .inl hk, rfl, ⟨rfl, Nat.le_refl _⟩, rfl⟩, w.heap.size, v.cells, t, rfl, Nat.le_refl _, fun hI => Nat.lt_irrefl _ (hg.I _ hI), fun hO => Nat.lt_irrefl _ (hg.lt hO), push_new w _, h2⟩
        simp only [execOp, Instr.alloc, zeroValue, Sem.run_bind, run_typeInfo w hi, Result.andThen_ok, hz, Sem.run_pure, run_newVar]
  · simp at hok

/-- **The filling of an allocation.** -/
theorem opI {o : Oper} {p x : Rf} {n : Nat} (hok : okOp P R o.op (.ini p x n) = true) {id : Nat} {c : Array Value} {el : TypeId} (hp : ∀ q, R q p = true → a.eval q = .pointer (some ⟨id, 0, none⟩)) (hH : w.heap[id]? = some (.cells c el (0, 0))) (hc : c.size = n)
    (hR : ∀ q, R q x = true → VR C w.heap (r x) (a.eval q)) (hn : noLoc (r x) = true) (hx : (r x).cells.length = n) :
    ∃ y, VR C w.heap (r x) y ∧ Does P o a w fun _ w' => ∃ c', w' = w.setRow id c' ∧ c'.size = c.size ∧ ∀ j, j < y.cells.size → c'[j]? = y.cells[j]? := by
  obtain ⟨dst, op, type, pos, after, guard⟩ := o
  simp only [okOp] at hok
  split at hok
  all_goals first
    | (rename_i heq; exfalso; simp at heq; done)
    | skip
  · rename_i t q z p' x' n' heq
    simp at heq; obtain ⟨rfl, rfl, rfl⟩ := heq
    simp only [Bool.and_eq_true] at hok
    obtain ⟨⟨h1, h2⟩, h3⟩ := hok
    have hv := hR _ h3
    have hsol : Solid (r x) := ⟨fun e => by rw [e] at hn; simp [noLoc] at hn, fun l e => by rw [e] at hn; simp [noLoc] at hn⟩
    have hsz := VR.size hsol hv
    have hone : ∀ v ∈ (a.eval z).cells.toList, v.oneCell' = true := (VR.cells hsol hv).2
    have e := hp _ h2
    refine ⟨a.eval z, hv, ?_⟩
    have hstore := run_storeCells_at P id 0 el (a.eval z).cells.toList 0 c w hH (by simp; omega) hone
    refine Does.skip (w' := w.setRow id (c.toList.take 0 ++ (a.eval z).cells.toList ++ c.toList.drop (0 + (a.eval z).cells.toList.length)).toArray) ?_ ⟨_, rfl, ?_, fun j hj => ?_⟩
    · have hsi := info_size h1 w
      simp only [execOp, Instr.storeAt, e, Instr.sureAddr, storeVar, Sem.run_bind, Sem.run_pure, Result.andThen_ok, hsi]
      rw [if_neg (by rw [hsz, hx]; simp)]
      simp only [Nat.add_zero] at hstore
      rw [hstore]
      rfl
    · simp; omega
    · simp [List.getElem?_append_left, hj]
  · simp at hok
end
end Ab
