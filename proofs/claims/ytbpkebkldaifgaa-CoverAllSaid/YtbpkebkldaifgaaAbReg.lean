/- A region: whatever order its operations come in, it does what its lines do in the text's order. Condition: the callees answer as the interpreter says. -/
import Derived.Test.YtbpkebkldaifgaaAbShow
set_option linter.all false
namespace Ab
open Go
variable {P : Program}

/-! ### The states of the lexical run -/
theorem lines_states {ce : CE} {vars : List AV} : ∀ {ls : List Ln} {s s' : LS}, lines ce vars ls s = some s' →
    ∃ st : Nat → LS, st 0 = s ∧ st ls.length = s' ∧ ∀ i l, ls[i]? = some l → line1 ce vars (st i) l = some (st (i + 1))
  | [], s, s', h => by
    simp [lines] at h; subst h
    exact ⟨fun _ => s, rfl, rfl, fun i l h => by simp at h⟩
  | l :: ls, s, s', h => by
    simp only [lines] at h
    cases h1 : line1 ce vars s l with
    | none => simp [h1] at h
    | some s1 =>
      simp only [h1] at h
      obtain ⟨st, e0, en, hst⟩ := lines_states h
      refine ⟨fun i => match i with | 0 => s | i + 1 => st i, rfl, by simpa using en, fun i l' hl => ?_⟩
      cases i with
      | zero => simp at hl; subst hl; simp only [h1, e0]
      | succ i => exact hst i l' (by simpa using hl)

theorem line1_env {ce : CE} {vars : List AV} {s s' : LS} {l : Ln} (h : line1 ce vars s l = some s') : ∃ v, s'.env = v :: s.env := by
  unfold line1 at h
  split at h
  · simp at h
  · simp at h; subst h; exact ⟨_, rfl⟩
  · split at h
    · split at h
      · simp at h; subst h; exact ⟨_, rfl⟩
      · simp at h
    · split at h
      · simp at h; subst h; exact ⟨_, rfl⟩
      · simp at h; subst h; exact ⟨_, rfl⟩
      · simp at h

/-- The value of line i. -/
def valOf (st : Nat → LS) (i : Nat) : AV := nth (st (i + 1)).env 0

theorem env_len {st : Nat → LS} {n : Nat} (h0 : (st 0).env = []) (h : ∀ i, i < n → ∃ v, (st (i + 1)).env = v :: (st i).env) : ∀ i, i ≤ n → (st i).env.length = i
  | 0, _ => by rw [h0]; rfl
  | i + 1, hi => by
    obtain ⟨v, hv⟩ := h i (by omega)
    rw [hv, List.length_cons, env_len h0 h i (by omega)]
theorem env_nth {st : Nat → LS} {n : Nat} (h0 : (st 0).env = []) (h : ∀ i, i < n → ∃ v, (st (i + 1)).env = v :: (st i).env) : ∀ i, i ≤ n → ∀ d, d < i → nth (st i).env d = valOf st (i - 1 - d)
  | 0, _, d, hd => absurd hd (Nat.not_lt_zero d)
  | i + 1, hi, d, hd => by
    obtain ⟨v, hv⟩ := h i (by omega)
    cases d with
    | zero => simp [valOf]
    | succ d =>
      rw [hv]
      simp only [nth]
      rw [env_nth h0 h i (by omega) d (by omega)]
      congr 1
      omega

theorem ev_none {ce : CE} {σ : List Blk} {nl : Nat} {ps : List Pend} {r : Rf → AV} {op : IOp} {x : AV} {p : Option Pend} (h : op.isE = false) (he : ev ce σ nl ps r op = some (x, p)) : p = none := by
  cases op <;> first
    | (simp [IOp.isE] at h; done)
    | (simp only [ev] at he; simp at he; exact he.2.symm)
    | (simp only [ev] at he; (repeat' split at he) <;> first | (simp at he; done) | (simp at he; exact he.2.symm) | (simp at he; obtain ⟨_, _, _, e⟩ := he; exact e.symm) | (simp at he; obtain ⟨_, _, e⟩ := he; exact e.symm))

/-! ### The static check -/
/-- i comes before j in every order. -/
def bfr (draw : Bool) (bf : List Nat) (i j : Nat) : Bool := if draw then ((bf[j]?).getD 0).testBit i else decide (i < j)
def maskOf (bf : List Nat) (o : Oper) : Nat := o.after.toList.foldl (fun s e => if Region.binds .any e then s ||| 2 ^ e.on ||| (bf[e.on]?).getD 0 else s) 0
/-- Which operations come before which: all that an `after` edge leads to. -/
def befs (ops : List Oper) : List Nat := ops.foldl (fun acc o => acc ++ [maskOf acc o]) []

def dstAt (ops : List Oper) (i : Nat) : Option Nat := (ops[i]?).bind (·.dst)
/-- The allocation that line i fills. -/
def tgt (ls : List Ln) (i : Nat) : Option Nat :=
  match ls[i]? with
  | some l => match l.op with
    | .ini (.t d) _ _ => some (i - 1 - d)
    | _ => none
  | none => none
/-- The slot that holds the value of line i. -/
def slotOf (ops : List Oper) (ls : List Ln) (i : Nat) : Option Nat :=
  match tgt ls i with
  | some j => dstAt ops j
  | none => dstAt ops i
def effAt (ls : List Ln) (i : Nat) : Bool :=
  match ls[i]? with
  | some l => l.op.isE || l.op.isW
  | none => false
def eAt (ls : List Ln) (i : Nat) : Bool :=
  match ls[i]? with
  | some l => l.op.isE && l.g.isNone
  | none => false
def alcAt (ls : List Ln) (i : Nat) : Option Nat :=
  match ls[i]? with
  | some l => match l.op with
    | .alc0 m => some m
    | _ => none
  | none => none

def okRef (draw : Bool) (bf : List Nat) (ops : List Oper) (ls : List Ln) (sl : List Nat) (i : Nat) : Operand → Rf → Bool
  | .tmp s, .t d => decide (d < i) && slotOf ops ls (i - 1 - d) == some s && bfr draw bf (i - 1 - d) i
  | .tmp s, .v k => sl[k]? == some s && (List.range ops.length).all fun j => !(dstAt ops j == some s) || bfr draw bf i j
  | .const v, .c x => constIs v x
  | .func f, .c (.func g []) => f == g
  | _, _ => false
def okGuard (draw : Bool) (bf : List Nat) (ops : List Oper) (ls : List Ln) (i : Nat) (o : Oper) (l : Ln) : Bool :=
  match o.guard, l.g with
  | none, none => true
  | some (j, b), some (.t d, b') => b == b' && decide (d < i) && j == i - 1 - d && (tgt ls j).isNone && (dstAt ops j).isSome && bfr draw bf j i
  | _, _ => false
def okDst (ops : List Oper) (nt i : Nat) (o : Oper) : Bool :=
  match o.dst with
  | none => true
  | some s => decide (s < nt) && (List.range i).all fun j => !(dstAt ops j == some s)
def okIni (ls : List Ln) (draw : Bool) (bf : List Nat) (i : Nat) (o : Oper) (l : Ln) : Bool :=
  match l.op with
  | .alc0 _ => l.g.isNone && o.dst.isSome
  | .ini (.t d) _ m => l.g.isNone && o.dst.isNone && decide (d < i) && alcAt ls (i - 1 - d) == some m && bfr draw bf (i - 1 - d) i && (List.range i).all fun j => !(tgt ls j == some (i - 1 - d))
  | .ini .. => false
  | _ => true
/-- Makes blocks, looks at none. -/
def freeAt (ls : List Ln) (i : Nat) : Bool :=
  match ls[i]? with
  | some l => l.g.isNone && (match l.op with
    | .mks .. | .can .. | .alc .. => true
    | _ => false)
  | none => false
/-- Two effects that are not ordered. -/
def loose (ls : List Ln) (draw : Bool) (bf : List Nat) (j i : Nat) : Bool := effAt ls j && effAt ls i && decide (j < i) && !bfr draw bf j i
def looseL (ls : List Ln) (draw : Bool) (bf : List Nat) (j : Nat) : Bool := (List.range ls.length).any fun i => loose ls draw bf j i
def looseR (ls : List Ln) (draw : Bool) (bf : List Nat) (i : Nat) : Bool := (List.range ls.length).any fun j => loose ls draw bf j i
/-- From the first to the last of the effects that are not ordered. -/
def inG (ls : List Ln) (draw : Bool) (bf : List Nat) (k : Nat) : Bool := ((List.range (k + 1)).any fun j => looseL ls draw bf j) && ((List.range ls.length).any fun i => decide (k ≤ i) && looseR ls draw bf i)
def okEff (ls : List Ln) (draw : Bool) (bf : List Nat) (i : Nat) (l : Ln) : Bool :=
  if l.op.isE || l.op.isW then !l.prev && (!inG ls draw bf i || freeAt ls i) else true
/-- The line whose blocks a reading line looks at. -/
def verOf (ls : List Ln) (i : Nat) (l : Ln) : Nat := if l.prev then ((List.range i).reverse.find? (effAt ls)).getD 0 else i
def noEff (ls : List Ln) (a b : Nat) : Bool := (List.range b).all fun k => !(decide (a ≤ k)) || !effAt ls k
def okRead (ls : List Ln) (draw : Bool) (bf : List Nat) (i : Nat) (l : Ln) : Bool :=
  if l.op.isE || l.op.isW || l.op.isP then true else
    (if l.prev then decide (verOf ls i l < i) && eAt ls (verOf ls i l) && noEff ls (verOf ls i l + 1) i else true) &&
    (List.range ls.length).all fun j => !effAt ls j || (if j < verOf ls i l then bfr draw bf j i else bfr draw bf i j || (j != i && eAt ls j && noEff ls (verOf ls i l) j))
def okBf (draw : Bool) (bf : List Nat) (i : Nat) (o : Oper) : Bool :=
  if draw then bf[i]? == some (maskOf bf o) && o.after.toList.all fun e => !Region.binds .any e || decide (e.on < i) else true
def okLine (P : Program) (draw : Bool) (bf : List Nat) (ops : List Oper) (ls : List Ln) (sl : List Nat) (nt i : Nat) : Bool :=
  match ops[i]?, ls[i]? with
  | some o, some l => okOp P (okRef draw bf ops ls sl i) o.op l.op && okGuard draw bf ops ls i o l && okDst ops nt i o && okIni ls draw bf i o l && okEff ls draw bf i l && okRead ls draw bf i l && okBf draw bf i o
  | _, _ => false

theorem mask_fold (bf : List Nat) (i : Nat) : ∀ (es : List Edge) (s : Nat), (es.foldl (fun s e => if Region.binds .any e then s ||| 2 ^ e.on ||| (bf[e.on]?).getD 0 else s) s).testBit i = true →
    s.testBit i = true ∨ ∃ e ∈ es, Region.binds .any e = true ∧ (e.on = i ∨ ((bf[e.on]?).getD 0).testBit i = true)
  | [], s, h => .inl h
  | e :: es, s, h => by
    simp only [List.foldl_cons] at h
    rcases mask_fold bf i es _ h with h | ⟨e', h1, h2⟩
    · by_cases hb : Region.binds .any e = true
      · rw [if_pos hb] at h
        simp only [Nat.testBit_or, Bool.or_eq_true, Nat.testBit_two_pow, decide_eq_true_eq] at h
        rcases h with (h | h) | h
        · exact .inl h
        · exact .inr ⟨e, by simp, hb, .inl h⟩
        · exact .inr ⟨e, by simp, hb, .inr h⟩
      · rw [if_neg hb] at h
        exact .inl h
    · exact .inr ⟨e', by simp [h1], h2⟩

/-- A region with its lines, and the run of the lines. -/
structure RC (P : Program) where
  draw : Bool
  bf : List Nat
  ops : List Oper
  ls : List Ln
  sl : List Nat
  nt : Nat
  ce : CE
  vars : List AV
  σ0 : List Blk
  st : Nat → LS
  len : ops.length = ls.length
  ok : ∀ i, i < ls.length → okLine P draw bf ops ls sl nt i = true
  st0 : st 0 = ⟨[], σ0, σ0⟩
  run : ∀ i l, ls[i]? = some l → line1 ce vars (st i) l = some (st (i + 1))
  hce : CallOk P ce
  hbd : HasBody P ce

structure Facts (X : RC P) (i : Nat) (o : Oper) (l : Ln) : Prop where
  op : okOp P (okRef X.draw X.bf X.ops X.ls X.sl i) o.op l.op = true
  g : okGuard X.draw X.bf X.ops X.ls i o l = true
  dst : okDst X.ops X.nt i o = true
  ini : okIni X.ls X.draw X.bf i o l = true
  eff : okEff X.ls X.draw X.bf i l = true
  read : okRead X.ls X.draw X.bf i l = true
  bf : okBf X.draw X.bf i o = true

namespace RC
variable (X : RC P)

theorem at_ {i : Nat} (h : i < X.ls.length) : ∃ o l, X.ops[i]? = some o ∧ X.ls[i]? = some l ∧ Facts X i o l := by
  have := X.ok i h
  unfold okLine at this
  split at this
  · rename_i o l ho hl
    simp only [Bool.and_eq_true] at this
    obtain ⟨⟨⟨⟨⟨⟨a1, a2⟩, a3⟩, a4⟩, a5⟩, a6⟩, a7⟩ := this
    exact ⟨o, l, ho, hl, a1, a2, a3, a4, a5, a6, a7⟩
  · simp at this

theorem env1 {i : Nat} (h : i < X.ls.length) : ∃ v, (X.st (i + 1)).env = v :: (X.st i).env := by
  obtain ⟨o, l, _, hl, _⟩ := X.at_ h
  exact line1_env (X.run i l hl)
theorem envAt {i : Nat} (h : i ≤ X.ls.length) {d : Nat} (hd : d < i) : nth (X.st i).env d = valOf X.st (i - 1 - d) :=
  env_nth (by rw [X.st0]) (fun i hi => X.env1 hi) i h d hd

/-- Lines that are no effects leave the blocks. -/
theorem still {i : Nat} {l : Ln} (hl : X.ls[i]? = some l) (h : effAt X.ls i = false) : (X.st (i + 1)).σ = (X.st i).σ ∧ (X.st (i + 1)).σp = (X.st i).σp := by
  have hr := X.run i l hl
  have h' : l.op.isE = false ∧ l.op.isW = false := by simpa [effAt, hl] using h
  unfold line1 at hr
  split at hr
  · simp at hr
  · simp at hr; rw [← hr]; exact ⟨rfl, rfl⟩
  · rw [if_neg (by rw [h'.2]; simp)] at hr
    split at hr
    · simp only [h'.1, Bool.false_eq_true, if_false, Option.some.injEq] at hr; rw [← hr]; exact ⟨rfl, rfl⟩
    · rename_i he
      have := ev_none h'.1 he
      simp at this
    · simp at hr

theorem same {p : Nat} : ∀ (k : Nat), p + k ≤ X.ls.length → (∀ j, p ≤ j → j < p + k → effAt X.ls j = false) → (X.st (p + k)).σ = (X.st p).σ ∧ (X.st (p + k)).σp = (X.st p).σp
  | 0, _, _ => ⟨rfl, rfl⟩
  | k + 1, h, hn => by
    obtain ⟨_, l, _, hl, _⟩ := X.at_ (show p + k < X.ls.length by omega)
    obtain ⟨h1, h2⟩ := X.still hl (hn (p + k) (by omega) (by omega))
    obtain ⟨g1, g2⟩ := same k (by omega) fun j a b => hn j a (by omega)
    exact ⟨h1.trans g1, h2.trans g2⟩
theorem same' {p q : Nat} (h : p ≤ q) (hq : q ≤ X.ls.length) (hn : ∀ j, p ≤ j → j < q → effAt X.ls j = false) : (X.st q).σ = (X.st p).σ ∧ (X.st q).σp = (X.st p).σp := by
  have := X.same (p := p) (q - p) (by omega) (fun j a b => hn j a (by omega))
  rwa [show p + (q - p) = q by omega] at this
end RC
end Ab
