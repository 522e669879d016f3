/- What is known after an effect is the new list of blocks, and the old one can still be seen. A region: whatever order its operations come in, it does what its lines do in the text's order. Condition: the callees answer as the interpreter says. What holds in the midst of a region. A step of a region keeps what holds. Operations that look at owned blocks, and operations that turn them. Condition: the callees answer as the interpreter says. One operation of a region in any order. One operation of a region, whatever its class. A region does what its lines say. Condition: the callees answer as the interpreter says. An owned value is given away for good; blocks of a round are forgotten. The code of a function does what its small text says. Condition: the callees answer as the interpreter says. Functions do what the interpreter says. Condition: the check of each function. Condition: none. -/
import Derived.Test.YtkchnhfeebkogaaAbPhase
import Derived.Scope
set_option linter.all false
namespace Ab
open Go
theorem zc4K {σ : List Blk} {b u : Nat} {B : Blk} (h : uptoX σ b u = some B) : blk σ b = some B ∧ B.cells.length = u ∧ B.st ≠ .dead := by
  unfold uptoX at h
  cases hb : blk σ b with
  | none => simp [hb] at h
  | some B' =>
    simp only [hb] at h
    cases hs : B'.st <;> simp only [hs] at h <;> first
      | (simp at h; done)
      | (by_cases hu : B'.cells.length = u
         · simp [hu] at h; subst h; exact ⟨rfl, hu, by rw [hs]; simp⟩
         · simp [hu] at h)
def Shows (C : Ctx) (σ : List Blk) : Prop := ∃ ids, (∀ b u e, (ctxOf σ ids C.I).own b u = some e → C.own b u = some e) ∧ ∀ b u, C.lim b u → (ctxOf σ ids C.I).lim b u
def Seen (C : Ctx) (σ : List Blk) : Prop := ∀ b u B, uptoX σ b u = some B → ∃ id, C.own b u = some (B, id)
theorem Shows.seen {C : Ctx} {σ : List Blk} (h : Shows C σ) : Seen C σ := fun b u B hu => by
  obtain ⟨ids, h1, _⟩ := h
  exact ⟨_, h1 b u _ (zEU6 ids C.I hu)⟩
theorem zce0 (σ : List Blk) (ids : Nat → Nat) (I : Nat → Prop) : Shows (ctxOf σ ids I) σ := ⟨ids, fun _ _ _ h => h, fun _ _ h => h⟩
theorem Shows.withI {C : Ctx} {σ : List Blk} (h : Shows C σ) (I' : Nat → Prop) : Shows { C with I := I' } σ := by
  obtain ⟨ids, h1, h2⟩ := h
  exact ⟨ids, h1, h2⟩
theorem Seen.withI {C : Ctx} {σ : List Blk} (h : Seen C σ) (I' : Nat → Prop) : Seen { C with I := I' } σ := h
theorem Shows.take {C : Ctx} {σ : List Blk} {w : World} (h : Shows C σ) (hg : Good C w) : ∃ ids, Good (ctxOf σ ids C.I) w ∧ Step C w (ctxOf σ ids C.I) w := by
  obtain ⟨ids, h1, h2⟩ := h
  exact ⟨ids, Good.shrink hg rfl h1 h2⟩
theorem Ext.shows {σ : List Blk} {ids : Nat → Nat} {I : Nat → Prop} {p : Option Pend} {C' : Ctx} {w' : World} (hg : Good C' w') (h : Ext σ.length p (ctxOf σ ids I) C') :
    Shows C' (match p with | some q => commit σ q | none => σ) ∧ Seen C' σ := by
  cases p with
  | none =>
    obtain ⟨h1, h2⟩ := h
    have hs : Shows C' σ := ⟨ids, fun b u e he => by rw [h1]; exact he, fun b u he => by rw [h2] at he; exact he⟩
    exact ⟨hs, hs.seen⟩
  | some q =>
    cases q with
    | new B =>
      obtain ⟨id, h1, h2⟩ := h
      have hnd : B.st ≠ .dead := (hg.ent σ.length B.cells.length B id (by rw [h1]; simp [addOwn])).2.2.2
      refine ⟨⟨fun q => if q = σ.length then id else ids q, fun b u e he => ?_, fun b u he => ?_⟩, fun b u B' hu => ?_⟩
      · rw [h1]; exact zltG (I := C'.I) hnd b u e he
      · rw [h2] at he; exact zBmS (ids := ids) (I := C'.I) (id := id) b u he
      · obtain ⟨hb, _⟩ := zc4K hu
        have hlt : b < σ.length := by rw [zzWB] at hb; exact (List.getElem?_eq_some_iff.1 hb).1
        rw [h1]
        simp only [addOwn]
        rw [if_neg (by omega)]
        exact ⟨_, zEU6 ids I hu⟩
    | news l =>
      obtain ⟨ids2, h1, h2⟩ := h
      have hblk : ∀ b, blk (σ ++ l) b = if b < σ.length then blk σ b else blk l (b - σ.length) := fun b => by
        rw [zzWB, zzWB, zzWB]
        by_cases hb : b < σ.length
        · rw [if_pos hb, List.getElem?_append_left hb]
        · rw [if_neg hb, List.getElem?_append_right (by omega)]
      refine ⟨⟨fun q => if q < σ.length then ids q else ids2 (q - σ.length), fun b u e he => ?_, fun b u he => ?_⟩, fun b u B' hu => ?_⟩
      · rw [h1]
        simp only [ctxOf, commit, hblk] at he ⊢
        by_cases hb : b < σ.length
        · rw [if_neg (by omega)]
          simp only [hb, if_true] at he
          exact he
        · simp only [hb, if_false] at he
          have hlt : b - σ.length < l.length := by
            cases hq : blk l (b - σ.length) with
            | none => simp [hq] at he
            | some q => rw [zzWB] at hq; exact (List.getElem?_eq_some_iff.1 hq).1
          rw [if_pos (by omega)]
          exact he
      · rw [h2] at he
        simp only [ctxOf, commit, hblk] at he ⊢
        rcases he with ⟨k1, B1, k2, k3⟩ | ⟨B1, k2, k3⟩
        · exact ⟨B1, by rw [if_neg (by omega)]; exact k2, k3⟩
        · have hlt : b < σ.length := by rw [zzWB] at k2; exact (List.getElem?_eq_some_iff.1 k2).1
          exact ⟨B1, by rw [if_pos hlt]; exact k2, k3⟩
      · obtain ⟨hb, _⟩ := zc4K hu
        have hlt : b < σ.length := by rw [zzWB] at hb; exact (List.getElem?_eq_some_iff.1 hb).1
        rw [h1]
        simp only
        rw [if_neg (by omega)]
        exact ⟨_, zEU6 ids I hu⟩
    | grow b cs =>
      obtain ⟨B0, id0, id, hne, h0, h1, h2⟩ := h
      obtain ⟨hb, _⟩ := zvxc h0
      have hlen : B0.cells.length < (B0.cells ++ cs).length := by
        have : 0 < cs.length := List.length_pos_iff.2 hne
        simp; omega
      have hgr : commit σ (.grow b cs) = setB σ b ⟨B0.k, B0.cells ++ cs, .live⟩ := by simp only [commit, growB, hb]
      simp only [hgr]
      refine ⟨⟨fun q => if q = b then id else ids q, fun b1 u e he => ?_, fun b1 u he => ?_⟩, fun b1 u B' hu => ?_⟩
      · rw [h1]
        exact zKck (ids := ids) (I := C'.I) (B' := ⟨B0.k, B0.cells ++ cs, .live⟩) (id' := id) hb (by simp) b1 u e he
      · rw [h2] at he
        rcases he with ⟨rfl, rfl⟩ | he
        · have hlt : b1 < σ.length := by rw [zzWB] at hb; exact (List.getElem?_eq_some_iff.1 hb).1
          exact ⟨⟨B0.k, B0.cells ++ cs, .live⟩, by rw [zUGJ hlt]; simp, Nat.le_refl _⟩
        · exact zkpY (ids := ids) (I := C'.I) hb (by show _ ≤ (B0.cells ++ cs).length; omega) b1 u he
      · obtain ⟨k1, k2, _⟩ := zc4K hu
        rw [h1]
        simp only [addOwn]
        rw [if_neg (by
          rintro ⟨rfl, rfl⟩
          rw [hb] at k1
          simp at k1; subst k1
          omega)]
        exact ⟨_, zEU6 ids I hu⟩
end Ab
namespace Ab
open Go
variable {P : Program}
theorem zFWA {ce : CE} {vars : List AV} : ∀ {ls : List Ln} {s s' : LS}, lines ce vars ls s = some s' →
    ∃ st : Nat → LS, st 0 = s ∧ st ls.length = s' ∧ ∀ i l, ls[i]? = some l → line1 ce vars (st i) l = some (st (i + 1))
  | [], s, s', h => by
    simp [lines] at h; subst h
    exact ⟨fun _ => s, rfl, rfl, fun i l h => by simp at h⟩
  | l :: ls, s, s', h => by
    simp only [lines] at h
    cases h1 : line1 ce vars s l with
    | none => simp [h1] at h
    | some s1 =>
      simp only [h1] at h
      obtain ⟨st, e0, en, hst⟩ := zFWA h
      refine ⟨fun i => match i with | 0 => s | i + 1 => st i, rfl, by simpa using en, fun i l' hl => ?_⟩
      cases i with
      | zero => simp at hl; subst hl; simp only [h1, e0]
      | succ i => exact hst i l' (by simpa using hl)
theorem zA9R {ce : CE} {vars : List AV} {s s' : LS} {l : Ln} (h : line1 ce vars s l = some s') : ∃ v, s'.env = v :: s.env := by
  unfold line1 at h
  split at h
  · simp at h
  · simp at h; subst h; exact ⟨_, rfl⟩
  · split at h
    · split at h
      · simp at h; subst h; exact ⟨_, rfl⟩
      · simp at h
    · split at h
      · simp at h; subst h; exact ⟨_, rfl⟩
      · simp at h; subst h; exact ⟨_, rfl⟩
      · simp at h
def valOf (st : Nat → LS) (i : Nat) : AV := nth (st (i + 1)).env 0
theorem zCV0 {st : Nat → LS} {n : Nat} (h0 : (st 0).env = []) (h : ∀ i, i < n → ∃ v, (st (i + 1)).env = v :: (st i).env) : ∀ i, i ≤ n → (st i).env.length = i
  | 0, _ => by rw [h0]; rfl
  | i + 1, hi => by
    obtain ⟨v, hv⟩ := h i (by omega)
    rw [hv, List.length_cons, zCV0 h0 h i (by omega)]
theorem zcIt {st : Nat → LS} {n : Nat} (h0 : (st 0).env = []) (h : ∀ i, i < n → ∃ v, (st (i + 1)).env = v :: (st i).env) : ∀ i, i ≤ n → ∀ d, d < i → nth (st i).env d = valOf st (i - 1 - d)
  | 0, _, d, hd => absurd hd (Nat.not_lt_zero d)
  | i + 1, hi, d, hd => by
    obtain ⟨v, hv⟩ := h i (by omega)
    cases d with
    | zero => simp [valOf]
    | succ d =>
      rw [hv]
      simp only [nth]
      rw [zcIt h0 h i (by omega) d (by omega)]
      congr 1
      omega
theorem zKtX {ce : CE} {σ : List Blk} {nl : Nat} {ps : List Pend} {r : Rf → AV} {op : IOp} {x : AV} {p : Option Pend} (h : op.isE = false) (he : ev ce σ nl ps r op = some (x, p)) : p = none := by
  cases op <;> first
    | (simp [IOp.isE] at h; done)
    | (simp only [ev] at he; simp at he; exact he.2.symm)
    | (simp only [ev] at he; (repeat' split at he) <;> first | (simp at he; done) | (simp at he; exact he.2.symm) | (simp at he; obtain ⟨_, _, _, e⟩ := he; exact e.symm) | (simp at he; obtain ⟨_, _, e⟩ := he; exact e.symm))
def bfr (draw : Bool) (bf : List Nat) (i j : Nat) : Bool := if draw then ((bf[j]?).getD 0).testBit i else decide (i < j)
def maskOf (bf : List Nat) (o : Oper) : Nat := o.after.toList.foldl (fun s e => if Region.binds .any e then s ||| 2 ^ e.on ||| (bf[e.on]?).getD 0 else s) 0
def befs (ops : List Oper) : List Nat := ops.foldl (fun acc o => acc ++ [maskOf acc o]) []
def dstAt (ops : List Oper) (i : Nat) : Option Nat := (ops[i]?).bind (·.dst)
def tgt (ls : List Ln) (i : Nat) : Option Nat :=
  match ls[i]? with
  | some l => match l.op with
    | .ini (.t d) _ _ => some (i - 1 - d)
    | _ => none
  | none => none
def slotOf (ops : List Oper) (ls : List Ln) (i : Nat) : Option Nat :=
  match tgt ls i with
  | some j => dstAt ops j
  | none => dstAt ops i
def effAt (ls : List Ln) (i : Nat) : Bool :=
  match ls[i]? with
  | some l => l.op.isE || l.op.isW
  | none => false
def eAt (ls : List Ln) (i : Nat) : Bool :=
  match ls[i]? with
  | some l => l.op.isE && l.g.isNone
  | none => false
def alcAt (ls : List Ln) (i : Nat) : Option Nat :=
  match ls[i]? with
  | some l => match l.op with
    | .alc0 m => some m
    | _ => none
  | none => none
def okRef (draw : Bool) (bf : List Nat) (ops : List Oper) (ls : List Ln) (sl : List Nat) (i : Nat) : Operand → Rf → Bool
  | .tmp s, .t d => decide (d < i) && slotOf ops ls (i - 1 - d) == some s && bfr draw bf (i - 1 - d) i
  | .tmp s, .v k => sl[k]? == some s && (List.range ops.length).all fun j => !(dstAt ops j == some s) || bfr draw bf i j
  | .const v, .c x => constIs v x
  | .func f, .c (.func g []) => f == g
  | _, _ => false
def okGuard (draw : Bool) (bf : List Nat) (ops : List Oper) (ls : List Ln) (i : Nat) (o : Oper) (l : Ln) : Bool :=
  match o.guard, l.g with
  | none, none => true
  | some (j, b), some (.t d, b') => b == b' && decide (d < i) && j == i - 1 - d && (tgt ls j).isNone && (dstAt ops j).isSome && bfr draw bf j i
  | _, _ => false
def okDst (ops : List Oper) (nt i : Nat) (o : Oper) : Bool :=
  match o.dst with
  | none => true
  | some s => decide (s < nt) && (List.range i).all fun j => !(dstAt ops j == some s)
def okIni (ls : List Ln) (draw : Bool) (bf : List Nat) (i : Nat) (o : Oper) (l : Ln) : Bool :=
  match l.op with
  | .alc0 _ => l.g.isNone && o.dst.isSome
  | .ini (.t d) _ m => l.g.isNone && o.dst.isNone && decide (d < i) && alcAt ls (i - 1 - d) == some m && bfr draw bf (i - 1 - d) i && (List.range i).all fun j => !(tgt ls j == some (i - 1 - d))
  | .ini .. => false
  | _ => true
def freeAt (ls : List Ln) (i : Nat) : Bool :=
  match ls[i]? with
  | some l => l.g.isNone && (match l.op with
    | .mks .. | .can .. | .alc .. => true
    | _ => false)
  | none => false
def loose (ls : List Ln) (draw : Bool) (bf : List Nat) (j i : Nat) : Bool := effAt ls j && effAt ls i && decide (j < i) && !bfr draw bf j i
def looseL (ls : List Ln) (draw : Bool) (bf : List Nat) (j : Nat) : Bool := (List.range ls.length).any fun i => loose ls draw bf j i
def looseR (ls : List Ln) (draw : Bool) (bf : List Nat) (i : Nat) : Bool := (List.range ls.length).any fun j => loose ls draw bf j i
def inG (ls : List Ln) (draw : Bool) (bf : List Nat) (k : Nat) : Bool := ((List.range (k + 1)).any fun j => looseL ls draw bf j) && ((List.range ls.length).any fun i => decide (k ≤ i) && looseR ls draw bf i)
def okEff (ls : List Ln) (draw : Bool) (bf : List Nat) (i : Nat) (l : Ln) : Bool :=
  if l.op.isE || l.op.isW then !l.prev && (!inG ls draw bf i || freeAt ls i) else true
def verOf (ls : List Ln) (i : Nat) (l : Ln) : Nat := if l.prev then ((List.range i).reverse.find? (effAt ls)).getD 0 else i
def noEff (ls : List Ln) (a b : Nat) : Bool := (List.range b).all fun k => !(decide (a ≤ k)) || !effAt ls k
def okRead (ls : List Ln) (draw : Bool) (bf : List Nat) (i : Nat) (l : Ln) : Bool :=
  if l.op.isE || l.op.isW || l.op.isP then true else
    (if l.prev then decide (verOf ls i l < i) && eAt ls (verOf ls i l) && noEff ls (verOf ls i l + 1) i else true) &&
    (List.range ls.length).all fun j => !effAt ls j || (if j < verOf ls i l then bfr draw bf j i else bfr draw bf i j || (j != i && eAt ls j && noEff ls (verOf ls i l) j))
def okBf (draw : Bool) (bf : List Nat) (i : Nat) (o : Oper) : Bool :=
  if draw then bf[i]? == some (maskOf bf o) && o.after.toList.all fun e => !Region.binds .any e || decide (e.on < i) else true
def okLine (P : Program) (draw : Bool) (bf : List Nat) (ops : List Oper) (ls : List Ln) (sl : List Nat) (nt i : Nat) : Bool :=
  match ops[i]?, ls[i]? with
  | some o, some l => okOp P (okRef draw bf ops ls sl i) o.op l.op && okGuard draw bf ops ls i o l && okDst ops nt i o && okIni ls draw bf i o l && okEff ls draw bf i l && okRead ls draw bf i l && okBf draw bf i o
  | _, _ => false
theorem z4lV (bf : List Nat) (i : Nat) : ∀ (es : List Edge) (s : Nat), (es.foldl (fun s e => if Region.binds .any e then s ||| 2 ^ e.on ||| (bf[e.on]?).getD 0 else s) s).testBit i = true →
    s.testBit i = true ∨ ∃ e ∈ es, Region.binds .any e = true ∧ (e.on = i ∨ ((bf[e.on]?).getD 0).testBit i = true)
  | [], s, h => .inl h
  | e :: es, s, h => by
    simp only [List.foldl_cons] at h
    rcases z4lV bf i es _ h with h | ⟨e', h1, h2⟩
    · by_cases hb : Region.binds .any e = true
      · rw [if_pos hb] at h
        simp only [Nat.testBit_or, Bool.or_eq_true, Nat.testBit_two_pow, decide_eq_true_eq] at h
        rcases h with (h | h) | h
        · exact .inl h
        · exact .inr ⟨e, by simp, hb, .inl h⟩
        · exact .inr ⟨e, by simp, hb, .inr h⟩
      · rw [if_neg hb] at h
        exact .inl h
    · exact .inr ⟨e', by simp [h1], h2⟩
structure RC (P : Program) where
  draw : Bool
  bf : List Nat
  ops : List Oper
  ls : List Ln
  sl : List Nat
  nt : Nat
  ce : CE
  vars : List AV
  σ0 : List Blk
  st : Nat → LS
  len : ops.length = ls.length
  ok : ∀ i, i < ls.length → okLine P draw bf ops ls sl nt i = true
  st0 : st 0 = ⟨[], σ0, σ0⟩
  run : ∀ i l, ls[i]? = some l → line1 ce vars (st i) l = some (st (i + 1))
  hce : CallOk P ce
  hbd : HasBody P ce
structure Facts (X : RC P) (i : Nat) (o : Oper) (l : Ln) : Prop where
  op : okOp P (okRef X.draw X.bf X.ops X.ls X.sl i) o.op l.op = true
  g : okGuard X.draw X.bf X.ops X.ls i o l = true
  dst : okDst X.ops X.nt i o = true
  ini : okIni X.ls X.draw X.bf i o l = true
  eff : okEff X.ls X.draw X.bf i l = true
  read : okRead X.ls X.draw X.bf i l = true
  bf : okBf X.draw X.bf i o = true
namespace RC
variable (X : RC P)
theorem at_ {i : Nat} (h : i < X.ls.length) : ∃ o l, X.ops[i]? = some o ∧ X.ls[i]? = some l ∧ Facts X i o l := by
  have := X.ok i h
  unfold okLine at this
  split at this
  · rename_i o l ho hl
    simp only [Bool.and_eq_true] at this
    obtain ⟨⟨⟨⟨⟨⟨a1, a2⟩, a3⟩, a4⟩, a5⟩, a6⟩, a7⟩ := this
    exact ⟨o, l, ho, hl, a1, a2, a3, a4, a5, a6, a7⟩
  · simp at this
theorem env1 {i : Nat} (h : i < X.ls.length) : ∃ v, (X.st (i + 1)).env = v :: (X.st i).env := by
  obtain ⟨o, l, _, hl, _⟩ := X.at_ h
  exact zA9R (X.run i l hl)
theorem envAt {i : Nat} (h : i ≤ X.ls.length) {d : Nat} (hd : d < i) : nth (X.st i).env d = valOf X.st (i - 1 - d) :=
  zcIt (by rw [X.st0]) (fun i hi => X.env1 hi) i h d hd
theorem still {i : Nat} {l : Ln} (hl : X.ls[i]? = some l) (h : effAt X.ls i = false) : (X.st (i + 1)).σ = (X.st i).σ ∧ (X.st (i + 1)).σp = (X.st i).σp := by
  have hr := X.run i l hl
  have h' : l.op.isE = false ∧ l.op.isW = false := by simpa [effAt, hl] using h
  unfold line1 at hr
  split at hr
  · simp at hr
  · simp at hr; rw [← hr]; exact ⟨rfl, rfl⟩
  · rw [if_neg (by rw [h'.2]; simp)] at hr
    split at hr
    · simp only [h'.1, Bool.false_eq_true, if_false, Option.some.injEq] at hr; rw [← hr]; exact ⟨rfl, rfl⟩
    · rename_i he
      have := zKtX h'.1 he
      simp at this
    · simp at hr
theorem same {p : Nat} : ∀ (k : Nat), p + k ≤ X.ls.length → (∀ j, p ≤ j → j < p + k → effAt X.ls j = false) → (X.st (p + k)).σ = (X.st p).σ ∧ (X.st (p + k)).σp = (X.st p).σp
  | 0, _, _ => ⟨rfl, rfl⟩
  | k + 1, h, hn => by
    obtain ⟨_, l, _, hl, _⟩ := X.at_ (show p + k < X.ls.length by omega)
    obtain ⟨h1, h2⟩ := X.still hl (hn (p + k) (by omega) (by omega))
    obtain ⟨g1, g2⟩ := same k (by omega) fun j a b => hn j a (by omega)
    exact ⟨h1.trans g1, h2.trans g2⟩
theorem same' {p q : Nat} (h : p ≤ q) (hq : q ≤ X.ls.length) (hn : ∀ j, p ≤ j → j < q → effAt X.ls j = false) : (X.st q).σ = (X.st p).σ ∧ (X.st q).σp = (X.st p).σp := by
  have := X.same (p := p) (q - p) (by omega) (fun j a b => hn j a (by omega))
  rwa [show p + (q - p) = q by omega] at this
end RC
end Ab
namespace Ab
open Go
variable {P : Program}
structure FrontN (X : RC P) (D : Nat → Prop) (C : Ctx) (f : Nat) : Prop where
  fle : f ≤ X.ls.length
  lo : ∀ e, e < f → effAt X.ls e = true → D e
  hi : ∀ e, f ≤ e → effAt X.ls e = true → ¬ D e
  shows : Shows C (X.st f).σ
  last : 0 < f → effAt X.ls (f - 1) = true ∧ (eAt X.ls (f - 1) = true → Seen C (X.st (f - 1)).σ)
def alive (X : RC P) (D : Nat → Prop) (lo : Nat) (b : Nat) : Prop := b < (X.st lo).σ.length ∨ ∃ i, effAt X.ls i = true ∧ inG X.ls X.draw X.bf i = true ∧ D i ∧ (X.st i).σ.length ≤ b ∧ b < (X.st (i + 1)).σ.length
structure FrontG (X : RC P) (D : Nat → Prop) (C : Ctx) (lo hi : Nat) : Prop where
  grp : ∀ k, inG X.ls X.draw X.bf k = true ↔ lo ≤ k ∧ k ≤ hi
  ehi : effAt X.ls hi = true
  le : lo ≤ hi
  before : ∀ e, e < lo → effAt X.ls e = true → D e
  behind : ∀ e, hi < e → effAt X.ls e = true → ¬ D e
  shows : ∃ ids, (∀ b u e, alive X D lo b → (ctxOf (X.st (hi + 1)).σ ids C.I).own b u = some e → C.own b u = some e) ∧ ∀ b u, C.lim b u → alive X D lo b ∧ (ctxOf (X.st (hi + 1)).σ ids C.I).lim b u
def Front (X : RC P) (D : Nat → Prop) (C : Ctx) (f : Nat) : Prop := FrontN X D C f ∨ ∃ lo hi, FrontG X D C lo hi ∧ ∃ k, effAt X.ls k = true ∧ inG X.ls X.draw X.bf k = true ∧ D k
structure Inv (X : RC P) (C0 : Ctx) (w0 : World) (ds : List Deferred) (D : Nat → Prop) (C : Ctx) (f : Nat) (a : Act) (w : World) : Prop where
  good : Good C w
  step : Step C0 w0 C w
  size : a.tmps.size = X.nt
  defers : a.defers = ds
  below : ∀ j, D j → j < X.ls.length
  closed : ∀ i j, D j → bfr X.draw X.bf i j = true → D i
  tv : ∀ j s, D j → slotOf X.ops X.ls j = some s → VR C w.heap (valOf X.st j) (a.tmps.getD s undef)
  vv : ∀ k s, X.sl[k]? = some s → (∀ j, D j → dstAt X.ops j ≠ some s) → VR C w.heap (nth X.vars k) (a.tmps.getD s undef)
  lb : ∀ j m, D j → alcAt X.ls j = some m → (∀ i, D i → tgt X.ls i ≠ some j) → ∃ s id c el, dstAt X.ops j = some s ∧ a.tmps.getD s undef = .pointer (some ⟨id, 0, none⟩) ∧ w0.heap.size ≤ id ∧ ¬ C.I id ∧ ¬ owned C id ∧
    w.heap[id]? = some (.cells c el (0, 0)) ∧ c.size = m
  lbd : ∀ j j' m m' s s' id, D j → D j' → alcAt X.ls j = some m → alcAt X.ls j' = some m' → (∀ i, D i → tgt X.ls i ≠ some j) → (∀ i, D i → tgt X.ls i ≠ some j') → dstAt X.ops j = some s → dstAt X.ops j' = some s' → j ≠ j' →
    a.tmps.getD s undef = .pointer (some ⟨id, 0, none⟩) → a.tmps.getD s' undef ≠ .pointer (some ⟨id, 0, none⟩)
  fr : Front X D C f
section
variable {X : RC P} {C0 : Ctx} {w0 : World} {ds : List Deferred} {D : Nat → Prop} {C : Ctx} {f : Nat} {a : Act} {w : World}
theorem Inv.ref (h : Inv X C0 w0 ds D C f a w) {i : Nat} (hi : i < X.ls.length) (hD : ¬ D i) (hb : ∀ j, bfr X.draw X.bf j i = true → D j) {x : Operand} {y : Rf} (hr : okRef X.draw X.bf X.ops X.ls X.sl i x y = true) :
    VR C w.heap (rv X.vars (X.st i).env y) (a.eval x) := by
  unfold okRef at hr
  split at hr
  · simp only [Bool.and_eq_true, decide_eq_true_eq, beq_iff_eq] at hr
    obtain ⟨⟨h1, h2⟩, h3⟩ := hr
    show VR C w.heap (nth (X.st i).env _) (a.tmps.getD _ undef)
    rw [X.envAt (by omega) h1]
    exact h.tv _ _ (hb _ h3) h2
  · rename_i s k
    simp only [Bool.and_eq_true, beq_iff_eq, List.all_eq_true, List.mem_range, Bool.or_eq_true, Bool.not_eq_true', beq_eq_false_iff_ne] at hr
    refine h.vv k s hr.1 fun j hj hd => ?_
    rcases hr.2 j (by rw [X.len]; exact h.below j hj) with h1 | h1
    · exact h1 hd
    · exact hD (h.closed _ _ hj h1)
  · exact zULH hr
  · simp only [beq_iff_eq] at hr
    subst hr
    show VR C w.heap (.func _ []) (.func (.func _) #[] #[])
    unfold VR
    exact ⟨[], rfl, rfl⟩
  · simp at hr
theorem Inv.wanted (h : Inv X C0 w0 ds D C f a w) {i : Nat} (hi : i < X.ls.length) (hb : ∀ j, bfr X.draw X.bf j i = true → D j) {o : Oper} {l : Ln} (hF : Facts X i o l) {b : Bool} (hw : want X.vars (X.st i).env l.g = some b) :
    Region.wanted o (yielded X.ops.toArray a.tmps) = b := by
  have hg := hF.g
  unfold okGuard at hg
  split at hg
  · rename_i h1 h2
    rw [h2] at hw
    simp [want] at hw; subst hw
    unfold Region.wanted; rw [h1]
  · rename_i j b1 d b2 h1 h2
    simp only [Bool.and_eq_true, beq_iff_eq, decide_eq_true_eq, Option.isNone_iff_eq_none] at hg
    obtain ⟨⟨⟨⟨⟨rfl, hd⟩, rfl⟩, ht⟩, hsome⟩, hbf⟩ := hg
    rw [h2] at hw
    simp only [want, rv, X.envAt (Nat.le_of_lt hi) hd] at hw
    unfold Region.wanted; rw [h1]
    simp only
    have hDj := hb _ hbf
    have hval : ∀ s, dstAt X.ops (i - 1 - d) = some s → VR C w.heap (valOf X.st (i - 1 - d)) (a.tmps.getD s undef) := fun s hs => h.tv _ s hDj (by simp only [slotOf, ht]; exact hs)
    have hy : yielded X.ops.toArray a.tmps (i - 1 - d) = match (dstAt X.ops (i - 1 - d)).bind (a.tmps[·]?) with
        | some (.bool b) => some b
        | _ => none := by
      unfold yielded dstAt
      simp only [List.getElem?_toArray]
      rfl
    rw [hy]
    cases hds : dstAt X.ops (i - 1 - d) with
    | none => rw [hds] at hsome; simp at hsome
    | some s =>
      have hv := hval s hds
      simp only [Option.bind_some]
      cases hq : valOf X.st (i - 1 - d) <;> simp only [hq] at hw <;> try (simp at hw; done)
      · rw [hq] at hv
        have hv : a.tmps.getD s undef = .bool _ := hv
        simp at hw; subst hw
        have : a.tmps[s]? = some (.bool ‹Bool›) := by
          rw [Array.getD_eq_getD_getElem?] at hv
          cases ht' : a.tmps[s]? with
          | none => rw [ht'] at hv; simp [undef] at hv
          | some v => rw [ht'] at hv; simp at hv; rw [hv]
        rw [this]
        simp
      · rename_i tl
        cases tl with
        | cons _ _ => simp at hw
        | nil =>
          simp at hw; subst hw
          rw [hq] at hv
          unfold VR at hv
          obtain ⟨vs, e1, e2⟩ := hv
          have e2 : vs = [] := e2
          subst e2
          rw [Array.getD_eq_getD_getElem?] at e1
          cases ht' : a.tmps[s]? with
          | none => rfl
          | some v => rw [ht'] at e1; simp at e1; rw [e1]; rfl
  · simp at hg
end
end Ab
namespace Ab
open Go
variable {P : Program}
theorem zi9j {a : Act} {dst : Option Tmp} {v : Value} {nt : Nat} (hn : a.tmps.size = nt) (hs : ∀ s, dst = some s → s < nt) (s : Nat) : (a.put dst v).tmps.getD s undef = if dst = some s then v else a.tmps.getD s undef := by
  cases dst with
  | none => simp [Act.put]
  | some d =>
    have hd := hs d rfl
    simp only [Act.put, Array.getD_eq_getD_getElem?, Array.getElem?_setIfInBounds]
    by_cases e : d = s
    · subst e
      simp [hn, hd]
    · simp [e]
theorem z58c (a : Act) (dst : Option Tmp) (v : Value) : (a.put dst v).tmps.size = a.tmps.size := by cases dst <;> simp [Act.put]
theorem zx89 (a : Act) (dst : Option Tmp) (v : Value) : (a.put dst v).defers = a.defers := by cases dst <;> rfl
namespace RC
variable (X : RC P)
theorem dst_lt {i s : Nat} (h : dstAt X.ops i = some s) : i < X.ls.length := by
  unfold dstAt at h
  cases ho : X.ops[i]? with
  | none => simp [ho] at h
  | some o => rw [← X.len]; exact (List.getElem?_eq_some_iff.1 ho).1
theorem dst_nt {i s : Nat} (h : dstAt X.ops i = some s) : s < X.nt := by
  obtain ⟨o, l, ho, hl, hF⟩ := X.at_ (X.dst_lt h)
  have := hF.dst
  simp only [dstAt, ho, Option.bind_some] at h
  simp only [okDst, h, Bool.and_eq_true, decide_eq_true_eq] at this
  exact this.1
theorem dst_ne {i j s : Nat} (h : dstAt X.ops i = some s) (k : dstAt X.ops j = some s) (hlt : j < i) : False := by
  obtain ⟨o, l, ho, hl, hF⟩ := X.at_ (X.dst_lt h)
  have := hF.dst
  simp only [dstAt, ho, Option.bind_some] at h
  simp only [okDst, h, Bool.and_eq_true, List.all_eq_true, List.mem_range] at this
  have := this.2 j hlt
  simp [k] at this
theorem dst_inj {i j s : Nat} (h : dstAt X.ops i = some s) (k : dstAt X.ops j = some s) : i = j := by
  rcases Nat.lt_trichotomy i j with hlt | he | hlt
  · exact (X.dst_ne k h hlt).elim
  · exact he
  · exact (X.dst_ne h k hlt).elim
theorem tgt_spec {i t : Nat} (h : tgt X.ls i = some t) : i < X.ls.length ∧ ∃ o l d x m, X.ops[i]? = some o ∧ X.ls[i]? = some l ∧ Facts X i o l ∧ l.op = .ini (.t d) x m ∧ l.g = none ∧ o.dst = none ∧ d < i ∧ t = i - 1 - d ∧ alcAt X.ls t = some m ∧
    bfr X.draw X.bf t i = true ∧ ∀ j, j < i → tgt X.ls j ≠ some t := by
  unfold tgt at h
  cases hl : X.ls[i]? with
  | none => simp [hl] at h
  | some l =>
    have hi := (List.getElem?_eq_some_iff.1 hl).1
    obtain ⟨o, l', ho, hl', hF⟩ := X.at_ hi
    rw [hl] at hl'; simp at hl'; subst hl'
    simp only [hl] at h
    split at h
    · rename_i d x m hop
      have := hF.ini
      simp only [okIni, hop, Bool.and_eq_true, Option.isNone_iff_eq_none, decide_eq_true_eq, beq_iff_eq, List.all_eq_true, List.mem_range, Bool.not_eq_true', beq_eq_false_iff_ne] at this
      obtain ⟨⟨⟨⟨⟨a1, a2⟩, a3⟩, a4⟩, a5⟩, a6⟩ := this
      simp at h; subst h
      exact ⟨hi, o, l, d, x, m, ho, rfl, hF, hop, a1, a2, a3, rfl, a4, a5, a6⟩
    · simp at h
theorem tgt_inj {i j t : Nat} (h : tgt X.ls i = some t) (k : tgt X.ls j = some t) : i = j := by
  obtain ⟨_, _, _, _, _, _, _, _, _, _, _, _, _, _, _, _, h1⟩ := X.tgt_spec h
  obtain ⟨_, _, _, _, _, _, _, _, _, _, _, _, _, _, _, _, h2⟩ := X.tgt_spec k
  rcases Nat.lt_trichotomy i j with hlt | he | hlt
  · exact absurd h (h2 i hlt)
  · exact he
  · exact absurd k (h1 j hlt)
end RC
section
variable {X : RC P} {C0 : Ctx} {w0 : World} {ds : List Deferred} {D : Nat → Prop} {C : Ctx} {f : Nat} {a : Act} {w : World}
theorem Front.noeff {i : Nat} (h : Front X D C f) (he : effAt X.ls i = false) (I' : Nat → Prop) : Front X (fun j => D j ∨ j = i) { C with I := I' } f := by
  rcases h with h | ⟨j, i2, h, k0, y1, y2, y3⟩
  · refine .inl ⟨h.fle, fun e h1 h2 => .inl (h.lo e h1 h2), fun e h1 h2 h3 => ?_, h.shows.withI I', fun hf => ⟨(h.last hf).1, fun he => ((h.last hf).2 he).withI I'⟩⟩
    rcases h3 with h3 | rfl
    · exact h.hi e h1 h2 h3
    · rw [he] at h2; simp at h2
  · obtain ⟨ids, e1, e2⟩ := h.shows
    have hal : ∀ b, alive X (fun k => D k ∨ k = i) j b ↔ alive X D j b := fun b => by
      constructor
      · rintro (h1 | ⟨k, k1, k2, k3, k4⟩)
        · exact .inl h1
        · rcases k3 with k3 | rfl
          · exact .inr ⟨k, k1, k2, k3, k4⟩
          · rw [he] at k1; simp at k1
      · rintro (h1 | ⟨k, k1, k2, k3, k4⟩)
        · exact .inl h1
        · exact .inr ⟨k, k1, k2, .inl k3, k4⟩
    refine .inr ⟨j, i2, ⟨h.grp, h.ehi, h.le, fun e h1 h2 => .inl (h.before e h1 h2), fun e h1 h2 h3 => ?_, ids, fun b u e ha ho => e1 b u e ((hal b).1 ha) ho, fun b u hl => ⟨(hal b).2 (e2 b u hl).1, (e2 b u hl).2⟩⟩, k0, y1, y2, .inl y3⟩
    rcases h3 with h3 | rfl
    · exact h.behind e h1 h2 h3
    · rw [he] at h2; simp at h2
theorem Inv.after (h : Inv X C0 w0 ds D C f a w) {i : Nat} (hi : i < X.ls.length) (hD : ¬ D i) (hb : ∀ j, bfr X.draw X.bf j i = true → D j) {o : Oper} (ho : X.ops[i]? = some o) {C' : Ctx} {w' : World} {v : Value} {f' : Nat}
    (hg' : Good C' w') (hst : Step C w C' w') (hini : tgt X.ls i = none) (hv : VR C' w'.heap (valOf X.st i) v)
    (hal : ∀ m, alcAt X.ls i = some m → (∃ s, o.dst = some s) ∧ ∃ id c el, v = .pointer (some ⟨id, 0, none⟩) ∧ w.heap.size ≤ id ∧ ¬ C'.I id ∧ ¬ owned C' id ∧ w'.heap[id]? = some (.cells c el (0, 0)) ∧ c.size = m)
    (hfr : Front X (fun j => D j ∨ j = i) C' f') : Inv X C0 w0 ds (fun j => D j ∨ j = i) C' f' (a.put o.dst v) w' := by
  have hdi : dstAt X.ops i = o.dst := by simp [dstAt, ho]
  have hget := zi9j (v := v) h.size (dst := o.dst) fun s hs => X.dst_nt (i := i) (by rw [hdi]; exact hs)
  have hgo : ∀ j s, D j → dstAt X.ops j = some s → (a.put o.dst v).tmps.getD s undef = a.tmps.getD s undef := fun j s hj hs => by
    rw [hget, if_neg]
    intro e
    have := X.dst_inj hs (hdi.trans e)
    exact hD (this ▸ hj)
  have old : ∀ j m, D j → alcAt X.ls j = some m → (∀ i', (D i' ∨ i' = i) → tgt X.ls i' ≠ some j) → ∃ s id c el, dstAt X.ops j = some s ∧ a.tmps.getD s undef = .pointer (some ⟨id, 0, none⟩) ∧ (a.put o.dst v).tmps.getD s undef = .pointer (some ⟨id, 0, none⟩) ∧
      w0.heap.size ≤ id ∧ ¬ C'.I id ∧ ¬ owned C' id ∧ w'.heap[id]? = some (.cells c el (0, 0)) ∧ c.size = m ∧ id < w.heap.size := fun j m hj hm hn => by
    obtain ⟨s, id, c, el, k1, k2, k3, k4, k5, k6, k7⟩ := h.lb j m hj hm fun i' hi' => hn i' (.inl hi')
    have hlt := (Array.getElem?_eq_some_iff.1 k6).1
    refine ⟨s, id, c, el, k1, k2, by rw [hgo j s hj k1]; exact k2, k3, fun hI => ?_, fun hO => ?_, by rw [hst.frame id hlt k5]; exact k6, k7, hlt⟩
    · rcases hst.immOrig id hI with q | q | q
      · exact k4 q
      · exact k5 q
      · omega
    · rcases hst.ownOrig id hO with q | q
      · exact k5 q
      · omega
  refine ⟨hg', h.step.trans hst, by rw [z58c]; exact h.size, by rw [zx89]; exact h.defers, fun j hj => hj.elim (h.below j) (fun e => e ▸ hi), fun i' j hj hbf => ?_, fun j s hj hs => ?_, fun k s hk hn => ?_, fun j m hj hm hn => ?_, ?_, hfr⟩
  · rcases hj with hj | rfl
    · exact .inl (h.closed _ _ hj hbf)
    · exact .inl (hb _ hbf)
  · rcases hj with hj | rfl
    · have hne : o.dst ≠ some s := fun e => by
        unfold slotOf at hs
        cases ht : tgt X.ls j with
        | none =>
          simp only [ht] at hs
          exact hD (X.dst_inj hs (hdi.trans e) ▸ hj)
        | some t =>
          simp only [ht] at hs
          obtain ⟨_, _, _, _, _, _, _, _, _, _, _, _, _, _, _, hbt, _⟩ := X.tgt_spec ht
          exact hD (X.dst_inj hs (hdi.trans e) ▸ h.closed _ _ hj hbt)
      rw [hget, if_neg hne]
      exact VR.mono hst.ev _ _ (h.tv j s hj hs)
    · simp only [slotOf, hini, hdi] at hs
      rw [hget, if_pos hs]
      exact hv
  · have hne : o.dst ≠ some s := fun e => hn i (.inr rfl) (hdi.trans e)
    rw [hget, if_neg hne]
    exact VR.mono hst.ev _ _ (h.vv k s hk fun j hj => hn j (.inl hj))
  · rcases hj with hj | rfl
    · obtain ⟨s, id, c, el, k1, _, k2, k3, k4, k5, k6, k7, _⟩ := old j m hj hm hn
      exact ⟨s, id, c, el, k1, k2, k3, k4, k5, k6, k7⟩
    · obtain ⟨⟨s, hs⟩, id, c, el, k1, k2, k3, k4, k5, k6⟩ := hal m hm
      exact ⟨s, id, c, el, hdi.trans hs, by rw [hget, if_pos hs]; exact k1, Nat.le_trans h.step.size k2, k3, k4, k5, k6⟩
  · intro j j' m m' s s' id hj hj' hm hm' hn hn' hs hs' hne e1 e2
    rcases hj with hj | rfl <;> rcases hj' with hj' | rfl
    · rw [hgo j s hj hs] at e1
      rw [hgo j' s' hj' hs'] at e2
      exact h.lbd j j' m m' s s' id hj hj' hm hm' (fun i' hi' => hn i' (.inl hi')) (fun i' hi' => hn' i' (.inl hi')) hs hs' hne e1 e2
    · obtain ⟨s1, id1, c, el, k1, _, k2, _, _, _, _, _, k3⟩ := old j m hj hm hn
      rw [k1] at hs; simp at hs; subst hs
      obtain ⟨_, id2, c2, el2, q1, q2, _⟩ := hal m' hm'
      rw [hget, if_pos (hdi.symm.trans hs'), q1] at e2
      rw [k2] at e1
      simp at e1 e2
      omega
    · obtain ⟨s1, id1, c, el, k1, _, k2, _, _, _, _, _, k3⟩ := old j' m' hj' hm' hn'
      rw [k1] at hs'; simp at hs'; subst hs'
      obtain ⟨_, id2, c2, el2, q1, q2, _⟩ := hal m hm
      rw [hget, if_pos (hdi.symm.trans hs), q1] at e1
      rw [k2] at e2
      simp at e1 e2
      omega
    · exact hne rfl
theorem Inv.fill (h : Inv X C0 w0 ds D C f a w) {i t d m : Nat} {x : Rf} (hi : i < X.ls.length) (hD : ¬ D i) (hb : ∀ j, bfr X.draw X.bf j i = true → D j) {l : Ln} (hl : X.ls[i]? = some l) (hop : l.op = .ini (.t d) x m) (ht : tgt X.ls i = some t)
    {xv : AV} {y : Value} (hval : valOf X.st i = .pimm xv) (hn : noLoc xv = true) (hxy : VR C w.heap xv y) {s id : Nat} {c : Array Value} {el : TypeId} (hs : dstAt X.ops t = some s) (hp : a.tmps.getD s undef = .pointer (some ⟨id, 0, none⟩))
    (hid : w0.heap.size ≤ id) (hI : ¬ C.I id) (hO : ¬ owned C id) (hH : w.heap[id]? = some (.cells c el (0, 0))) {c' : Array Value} (hsz : c'.size = c.size) (hc : ∀ j, j < y.cells.size → c'[j]? = y.cells[j]?) :
    Inv X C0 w0 ds (fun j => D j ∨ j = i) { C with I := fun k => C.I k ∨ k = id } f a (w.setRow id c') := by
  obtain ⟨_, o, l', d', x', m', ho, hl', hF, hop', hg, hdst, hd, htd, hal, hbt, huniq⟩ := X.tgt_spec ht
  have hDt := hb _ hbt
  have hdi : dstAt X.ops i = none := by simp [dstAt, ho, hdst]
  have hH' : (w.setRow id c').heap[id]? = some (.cells c' el (0, 0)) := setRow_heap w id c c' el (0, 0) hH
  have hlt := (Array.getElem?_eq_some_iff.1 hH).1
  have ev : Evol C w.heap { C with I := fun k => C.I k ∨ k = id } (w.setRow id c').heap := by
    refine ⟨fun k hk => .inl hk, fun k hk => zLGX w id c' fun e => hI (e ▸ hk), fun _ _ h => h, fun b u B' id2 _ hown => ⟨B', hown, rfl, rfl, fun c2 el2 hc2 => ?_⟩⟩
    by_cases e : id2 = id
    · subst e
      rw [hH] at hc2; simp at hc2; obtain ⟨rfl, rfl⟩ := hc2
      exact ⟨c', hH', hsz⟩
    · exact ⟨c2, by rw [zLGX w id c' e]; exact hc2, rfl⟩
  have hgood : Good { C with I := fun k => C.I k ∨ k = id } (w.setRow id c') := by
    refine ⟨fun k hk => by rw [zIsg]; exact hk.elim (h.good.I k) (fun e => e ▸ hlt), h.good.ent, fun b u B i' hown hlv => ?_, h.good.apart, fun b u B i' es hown hlv => ?_⟩
    obtain ⟨k1, c2, el2, k2, k3, k4⟩ := h.good.live b u B i' hown hlv
    have hne : i' ≠ id := fun e => hO ⟨b, u, B, e ▸ hown, zL4e hlv⟩
    refine ⟨fun hk => hk.elim k1 hne, c2, el2, by rw [zLGX w id c' hne]; exact k2, k3, fun i2 x2 hx2 => ?_⟩
    obtain ⟨y2, j1, j2, j3⟩ := k4 i2 x2 hx2
    exact ⟨y2, j1, VR.mono ev _ _ j2, j3⟩
    have hne : i' ≠ id := fun e => hO ⟨b, u, B, e ▸ hown, z9Su hlv⟩
    exact h.good.maps_keep (C' := { C with I := fun k => C.I k ∨ k = id }) ev.imm ev.same hown hlv (zLGX w id c' hne) (fun hk => hk.elim (h.good.maps b u B i' es hown hlv).1 hne)
  have hstep : Step C0 w0 { C with I := fun k => C.I k ∨ k = id } (w.setRow id c') := by
    refine ⟨h.step.ev.trans ev, by rw [zIsg]; exact h.step.size, fun k hk hno => by rw [zLGX w id c' (by omega)]; exact h.step.frame k hk hno, fun k hk => h.step.ownOrig k hk, fun k hk => ?_, h.step.os, h.step.tape, h.step.output⟩
    rcases hk with hk | rfl
    · exact h.step.immOrig k hk
    · exact .inr (.inr hid)
  have hne : effAt X.ls i = false := by simp [effAt, hl, hop, IOp.isE, IOp.isW]
  have hnt : ∀ i', D i' → tgt X.ls i' ≠ some t := fun i' hi' e => hD (X.tgt_inj ht e ▸ hi')
  refine ⟨hgood, hstep, h.size, h.defers, fun j hj => hj.elim (h.below j) (fun e => e ▸ hi), fun i' j hj hbf => ?_, fun j s' hj hs' => ?_, fun k s' hk hn' => ?_, fun j m2 hj hm hn' => ?_, ?_, h.fr.noeff hne _⟩
  · rcases hj with hj | rfl
    · exact .inl (h.closed _ _ hj hbf)
    · exact .inl (hb _ hbf)
  · rcases hj with hj | rfl
    · exact VR.mono ev _ _ (h.tv j s' hj hs')
    · simp only [slotOf, ht] at hs'
      rw [hs] at hs'; simp at hs'; subst hs'
      rw [hval, hp]
      unfold VR
      exact ⟨hn, id, 0, c', el, (0, 0), y, rfl, .inr rfl, hH', VR.mono ev _ _ hxy, fun j hj => by rw [Nat.zero_add]; exact hc j hj⟩
  · exact VR.mono ev _ _ (h.vv k s' hk fun j hj => hn' j (.inl hj))
  · rcases hj with hj | rfl
    · obtain ⟨s2, id2, c2, el2, k1, k2, k3, k4, k5, k6, k7⟩ := h.lb j m2 hj hm fun i' hi' => hn' i' (.inl hi')
      have hjt : j ≠ t := fun e => hn' i (.inr rfl) (e ▸ ht)
      have hne2 : id2 ≠ id := fun e => by
        subst e
        exact h.lbd j t m2 m' s2 s id2 hj hDt hm hal (fun i' hi' => hn' i' (.inl hi')) hnt k1 hs hjt k2 hp
      exact ⟨s2, id2, c2, el2, k1, k2, k3, fun hk => hk.elim k4 hne2, k5, by rw [zLGX w id c' hne2]; exact k6, k7⟩
    · simp [alcAt, hl, hop] at hm
  · intro j j' m1 m2 s1 s2 id2 hj hj' hm hm' hn1 hn2 hs1 hs2 hne' e1 e2
    have hji : ∀ j m, (D j ∨ j = i) → alcAt X.ls j = some m → D j := fun j m hj hm => hj.elim (fun q => q) fun e => by
      subst e; simp [alcAt, hl, hop] at hm
    exact h.lbd j j' m1 m2 s1 s2 id2 (hji j m1 hj hm) (hji j' m2 hj' hm') hm hm' (fun i' hi' => hn1 i' (.inl hi')) (fun i' hi' => hn2 i' (.inl hi')) hs1 hs2 hne' e1 e2
end
end Ab
namespace Ab
open Go
variable {P : Program}
section
variable {a : Act} {r : Rf → AV} {w : World} {C : Ctx} {R : Operand → Rf → Bool} {ce : CE} {σ : List Blk} {nl : Nat} {ps : List Pend}
theorem opR {o : Oper} {iop : IOp} {x : AV} {p : Option Pend} (hok : okOp P R o.op iop = true) (hP : iop.isP = false) (hE : iop.isE = false) (hW : iop.isW = false) (hce : CallOk P ce) (hg : Good C w)
    (hupX : ∀ b u B, uptoX σ b u = some B → ∃ id, C.own b u = some (B, id))
    (hR : ∀ x y, R x y = true → VR C w.heap (r y) (a.eval x)) (he : ev ce σ nl ps r iop = some (x, p)) : Does P o a w (PostP C w x) := by
  have hup : ∀ b u B, upto σ b u = some B → ∃ id, C.own b u = some (B, id) := fun b u B h => hupX b u B (zHDl h)
  obtain ⟨dst, op, type, pos, after, guard⟩ := o
  have pl : ∀ {x' : AV} {p' : Option Pend}, Plain P a.eval ⟨dst, op, type, pos, after, guard⟩ w C w.heap x' ∧ p' = none → Does P ⟨dst, op, type, pos, after, guard⟩ a w (PostP C w x') := fun h => h.1.does hg
  simp only [okOp] at hok
  split at hok
  all_goals first
    | (exfalso; simp [IOp.isP] at hP; done)
    | (exfalso; simp [IOp.isW] at hW; done)
    | (exfalso; simp [IOp.isE] at hE; done)
    | skip
  · simp only [Bool.and_eq_true, Bool.or_eq_true] at hok
    exact pl (zeq1 (a := a) rfl rfl hok.1.1 hok.1.2 hup (hok.2.imp (fun h => ⟨h.1, hR _ _ h.2⟩) (fun h => ⟨h.1, hR _ _ h.2⟩)) he)
  · simp only [Bool.and_eq_true] at hok
    exact pl (pl_ld rfl hok.1 hg hup (hR _ _ hok.2) he)
  · simp only [Bool.and_eq_true] at hok
    obtain ⟨⟨⟨h1, h2⟩, h3⟩, h4⟩ := hok
    split at h1
    · rename_i e ht
      exact pl (zjQa rfl ht h1 hup (hR _ _ h2) h3 h4 hR he)
    · simp at h1
  · simp only [Bool.and_eq_true, beq_iff_eq] at hok
    obtain ⟨⟨rfl, h1⟩, h2⟩ := hok
    exact (zdwf hce rfl rfl h1 hg hup (zscY hR h2) he).1
  · simp only [Bool.and_eq_true, beq_iff_eq] at hok
    obtain ⟨⟨⟨h1, rfl⟩, h2⟩, h3⟩ := hok
    split at h1
    · rename_i ht
      simp only [Bool.and_eq_true] at h1
      exact pl (z5xC rfl ht h1.1 h1.2 hg hupX (hR _ _ h2) (hR _ _ h3) he)
    · simp at h1
  · split at hok
    · rename_i ha hat
      simp only [Bool.and_eq_true] at hok
      obtain ⟨h1, h2⟩ := hok
      split at h1
      · rename_i ht
        exact pl (zSTt rfl rfl ha hat ht hg hupX (hR _ _ h2) he)
      · simp at h1
    · simp at hok
  · simp only [Bool.and_eq_true] at hok
    exact pl (zhvk rfl hok.1 hg hup (hR _ _ hok.2) he)
  · simp at hok
theorem opW {o : Oper} {iop : IOp} {x : AV} {σ' : List Blk} {ids : Nat → Nat} {I : Nat → Prop} (hok : okOp P R o.op iop = true) (hW : iop.isW = true) (hce : CallOk P ce) (hbd : HasBody P ce) (hg : Good (ctxOf σ ids I) w)
    (hR : ∀ x y, R x y = true → VR (ctxOf σ ids I) w.heap (r y) (a.eval x)) (he : evW ce σ r iop = some (x, σ')) : Does P o a w (PostW σ ids I w x σ') := by
  obtain ⟨dst, op, type, pos, after, guard⟩ := o
  simp only [okOp] at hok
  split at hok
  all_goals first
    | (exfalso; simp [IOp.isW] at hW; done)
    | skip
  · simp only [Bool.and_eq_true] at hok
    exact dw_st rfl hok.1.1 hg (hR _ _ hok.1.2) (hR _ _ hok.2) he
  · split at hok
    · rename_i ha hat
      simp only [Bool.and_eq_true] at hok
      obtain ⟨⟨⟨h1, h2⟩, h3⟩, h4⟩ := hok
      split at h1
      · rename_i e ht
        simp only [Bool.and_eq_true] at h1
        exact zHkE rfl rfl ha hat ht h2 h1.1.1 h1.1.2 h1.2 hg (hR _ _ h3) (hR _ _ h4) he
      · simp at h1
    · simp at hok
  · simp only [Bool.and_eq_true, beq_iff_eq] at hok
    obtain ⟨⟨rfl, h1⟩, h2⟩ := hok
    exact zsgk hce rfl rfl h1 hg (zscY hR h2) he
  · simp only [Bool.and_eq_true] at hok
    exact z8tR hce hbd rfl rfl hg (hR _ _ hok.1) (zscY hR hok.2) he
  · simp only [Bool.and_eq_true] at hok
    exact zfco hce hbd rfl rfl hok.2 hg (hR _ _ hok.1.1) (zscY hR hok.1.2) he
  · split at hok
    · rename_i ha hat
      simp only [Bool.and_eq_true] at hok
      obtain ⟨h1, h2⟩ := hok
      split at h1
      · rename_i e ht
        simp only [Bool.and_eq_true] at h1
        exact zUth rfl rfl ha hat ht h1.1 h1.2 hg (hR _ _ h2) he
      · simp at h1
    · simp at hok
  · simp only [Bool.and_eq_true] at hok
    obtain ⟨⟨⟨h1, h2⟩, h3⟩, h4⟩ := hok
    split at h1
    · rename_i ht
      exact zkWU (.inl rfl) ht h1 hg (hR _ _ h2) (hR _ _ h3) (hR _ _ h4) he
    · simp at h1
  · simp only [Bool.and_eq_true] at hok
    obtain ⟨⟨⟨h1, h2⟩, h3⟩, h4⟩ := hok
    split at h1
    · rename_i ht
      exact zkWU (.inr rfl) ht h1 hg (hR _ _ h2) (hR _ _ h3) (hR _ _ h4) he
    · simp at h1
  · split at hok
    · rename_i ha hat
      simp only [Bool.and_eq_true] at hok
      obtain ⟨⟨h1, h2⟩, h3⟩ := hok
      split at h1
      · rename_i e ht
        exact zUNG rfl rfl ha hat ht h1 hg (hR _ _ h2) (hR _ _ h3) he
      · simp at h1
    · simp at hok
  · simp at hok
theorem opA {o : Oper} {n : Nat} (hok : okOp P R o.op (.alc0 n) = true) (hg : Good C w) :
    Does P o a w fun v w' => Good C w' ∧ Step C w C w' ∧ ∃ id c el, v = .pointer (some ⟨id, 0, none⟩) ∧ w.heap.size ≤ id ∧ ¬ C.I id ∧ ¬ owned C id ∧ w'.heap[id]? = some (.cells c el (0, 0)) ∧ c.size = n := by
  obtain ⟨dst, op, type, pos, after, guard⟩ := o
  simp only [okOp] at hok
  split at hok
  all_goals first
    | (rename_i heq; exfalso; simp at heq; done)
    | skip
  · rename_i t n' heq
    simp at heq; subst heq
    simp only [Bool.and_eq_true] at hok
    obtain ⟨_, h2⟩ := hok
    cases hi : P.info? t with
    | none => simp [hi] at h2
    | some i =>
      simp only [hi] at h2
      cases hz : i.zero with
      | none => simp [hz] at h2
      | some v =>
        simp only [hz, beq_iff_eq] at h2
        obtain ⟨g1, g2⟩ := hg.grow (w' := pushW w (.cells v.cells t)) (by simp [pushW]) fun k hk => zQh6 w _ hk
        refine Does.val (v := .pointer (some ⟨w.heap.size, 0, none⟩)) (w' := pushW w (.cells v.cells t)) ?_ ⟨g1, ⟨g2, by simp [pushW], fun k hk _ => zQh6 w _ hk, fun k hk => .inl hk, fun k hk => .inl hk, rfl, ⟨rfl, Nat.le_refl _⟩, rfl⟩, w.heap.size, v.cells, t, rfl, Nat.le_refl _, fun hI => Nat.lt_irrefl _ (hg.I _ hI), fun hO => Nat.lt_irrefl _ (hg.lt hO), zew4 w _, h2⟩
        simp only [execOp, Instr.alloc, zeroValue, Sem.run_bind, run_typeInfo w hi, Result.andThen_ok, hz, Sem.run_pure, z4r6]
  · simp at hok
theorem opI {o : Oper} {p x : Rf} {n : Nat} (hok : okOp P R o.op (.ini p x n) = true) {id : Nat} {c : Array Value} {el : TypeId} (hp : ∀ q, R q p = true → a.eval q = .pointer (some ⟨id, 0, none⟩)) (hH : w.heap[id]? = some (.cells c el (0, 0))) (hc : c.size = n)
    (hR : ∀ q, R q x = true → VR C w.heap (r x) (a.eval q)) (hn : noLoc (r x) = true) (hx : (r x).cells.length = n) :
    ∃ y, VR C w.heap (r x) y ∧ Does P o a w fun _ w' => ∃ c', w' = w.setRow id c' ∧ c'.size = c.size ∧ ∀ j, j < y.cells.size → c'[j]? = y.cells[j]? := by
  obtain ⟨dst, op, type, pos, after, guard⟩ := o
  simp only [okOp] at hok
  split at hok
  all_goals first
    | (rename_i heq; exfalso; simp at heq; done)
    | skip
  · rename_i t q z p' x' n' heq
    simp at heq; obtain ⟨rfl, rfl, rfl⟩ := heq
    simp only [Bool.and_eq_true] at hok
    obtain ⟨⟨h1, h2⟩, h3⟩ := hok
    have hv := hR _ h3
    have hsol : Solid (r x) := ⟨fun e => by rw [e] at hn; simp [noLoc] at hn, fun l e => by rw [e] at hn; simp [noLoc] at hn⟩
    have hsz := VR.size hsol hv
    have hone : ∀ v ∈ (a.eval z).cells.toList, v.oneCell' = true := (VR.cells hsol hv).2
    have e := hp _ h2
    refine ⟨a.eval z, hv, ?_⟩
    have hstore := run_storeCells_at P id 0 el (a.eval z).cells.toList 0 c w hH (by simp; omega) hone
    refine Does.skip (w' := w.setRow id (c.toList.take 0 ++ (a.eval z).cells.toList ++ c.toList.drop (0 + (a.eval z).cells.toList.length)).toArray) ?_ ⟨_, rfl, ?_, fun j hj => ?_⟩
    · have hsi := zW9l h1 w
      simp only [execOp, Instr.storeAt, e, Instr.sureAddr, storeVar, Sem.run_bind, Sem.run_pure, Result.andThen_ok, hsi]
      rw [if_neg (by rw [hsz, hx]; simp)]
      simp only [Nat.add_zero] at hstore
      rw [hstore]
      rfl
    · simp; omega
    · simp [List.getElem?_append_left, hj]
  · simp at hok
end
end Ab
namespace Ab
open Go
variable {P : Program}
namespace RC
variable (X : RC P)
theorem eff_lt {i : Nat} (hi : effAt X.ls i = true) : i < X.ls.length := by
  unfold effAt at hi
  cases hl : X.ls[i]? with
  | none => simp [hl] at hi
  | some l => exact (List.getElem?_eq_some_iff.1 hl).1
theorem inG_iff {k : Nat} : inG X.ls X.draw X.bf k = true ↔ (∃ j, j ≤ k ∧ looseL X.ls X.draw X.bf j = true) ∧ ∃ i, i < X.ls.length ∧ k ≤ i ∧ looseR X.ls X.draw X.bf i = true := by
  simp only [inG, Bool.and_eq_true, List.any_eq_true, List.mem_range, decide_eq_true_eq]
  constructor
  · rintro ⟨⟨j, h1, h2⟩, i, h3, h4, h5⟩; exact ⟨⟨j, by omega, h2⟩, i, h3, h4, h5⟩
  · rintro ⟨⟨j, h1, h2⟩, i, h3, h4, h5⟩; exact ⟨⟨j, by omega, h2⟩, i, h3, h4, h5⟩
theorem eff_order {i j : Nat} (hi : effAt X.ls i = true) (hj : effAt X.ls j = true) (hlt : j < i) : bfr X.draw X.bf j i = true ∨ inG X.ls X.draw X.bf j = true ∧ inG X.ls X.draw X.bf i = true := by
  cases hb : bfr X.draw X.bf j i with
  | true => exact .inl rfl
  | false =>
    have hl : loose X.ls X.draw X.bf j i = true := by simp [loose, hi, hj, hlt, hb]
    have h1 : looseL X.ls X.draw X.bf j = true := List.any_eq_true.2 ⟨i, List.mem_range.2 (X.eff_lt hi), hl⟩
    have h2 : looseR X.ls X.draw X.bf i = true := List.any_eq_true.2 ⟨j, List.mem_range.2 (X.eff_lt hj), hl⟩
    exact .inr ⟨X.inG_iff.2 ⟨⟨j, Nat.le_refl _, h1⟩, i, X.eff_lt hi, by omega, h2⟩, X.inG_iff.2 ⟨⟨j, by omega, h1⟩, i, X.eff_lt hi, Nat.le_refl _, h2⟩⟩
theorem free_of {i : Nat} (hi : effAt X.ls i = true) (hg : inG X.ls X.draw X.bf i = true) : freeAt X.ls i = true := by
  obtain ⟨o, l, ho, hl, hF⟩ := X.at_ (X.eff_lt hi)
  have h := hF.eff
  have he : (l.op.isE || l.op.isW) = true := by simpa [effAt, hl] using hi
  simp only [okEff, he, if_true, Bool.and_eq_true, hg, Bool.not_true, Bool.false_or] at h
  exact h.2
theorem least {p : Nat → Prop} : ∀ n, p n → ∃ m, p m ∧ ∀ k, k < m → ¬ p k := by
  intro n
  induction n using Nat.strongRecOn with
  | _ n ih =>
    intro h
    by_cases hx : ∃ k, k < n ∧ p k
    · obtain ⟨k, h1, h2⟩ := hx; exact ih k h1 h2
    · exact ⟨n, h, fun k hk hp => hx ⟨k, hk, hp⟩⟩
theorem greatest {p : Nat → Prop} {L : Nat} (hL : ∀ k, p k → k < L) {n : Nat} (h : p n) : ∃ m, p m ∧ ∀ k, m < k → ¬ p k := by
  obtain ⟨d, h1, h2⟩ := least (p := fun d => d ≤ L ∧ p (L - d)) (L - n) ⟨by omega, by have := hL n h; rwa [show L - (L - n) = n by omega]⟩
  refine ⟨L - d, h1.2, fun k hk hp => ?_⟩
  have := hL k hp
  exact h2 (L - k) (by omega) ⟨by omega, by rwa [show L - (L - k) = k by omega]⟩
theorem grp {k : Nat} (h : inG X.ls X.draw X.bf k = true) : ∃ lo hi, (∀ k, inG X.ls X.draw X.bf k = true ↔ lo ≤ k ∧ k ≤ hi) ∧ effAt X.ls hi = true ∧ lo ≤ hi := by
  obtain ⟨⟨j, _, h1⟩, i, h3, _, h4⟩ := X.inG_iff.1 h
  have effR : ∀ i, looseR X.ls X.draw X.bf i = true → effAt X.ls i = true ∧ ∃ j, j < i ∧ looseL X.ls X.draw X.bf j = true := fun i hi => by
    obtain ⟨j, _, hl⟩ := List.any_eq_true.1 hi
    have hl' := hl
    simp only [loose, Bool.and_eq_true, decide_eq_true_eq] at hl
    exact ⟨hl.1.1.2, j, hl.1.2, List.any_eq_true.2 ⟨i, List.mem_range.2 (X.eff_lt hl.1.1.2), hl'⟩⟩
  obtain ⟨lo, l1, l2⟩ := least (p := fun j => looseL X.ls X.draw X.bf j = true) j h1
  obtain ⟨hi, g1, g2⟩ := greatest (p := fun i => looseR X.ls X.draw X.bf i = true) (L := X.ls.length) (fun k hk => X.eff_lt (effR k hk).1) h4
  obtain ⟨e1, j', e2, e3⟩ := effR hi g1
  have hle : lo ≤ hi := by
    have : ¬ j' < lo := fun hlt => l2 j' hlt e3
    omega
  refine ⟨lo, hi, fun k => X.inG_iff.trans ⟨?_, ?_⟩, e1, hle⟩
  · rintro ⟨⟨j, a1, a2⟩, i, _, b1, b2⟩
    have c1 : ¬ j < lo := fun hlt => l2 j hlt a2
    have c2 : ¬ hi < i := fun hlt => g2 i hlt b2
    omega
  · rintro ⟨a1, a2⟩
    exact ⟨⟨lo, a1, l1⟩, hi, X.eff_lt e1, a2, g1⟩
theorem free_spec {i : Nat} {l : Ln} (hl : X.ls[i]? = some l) (h : freeAt X.ls i = true) : l.g = none ∧ l.op.isE = true ∧ l.op.isW = false ∧ l.op.isIni = false ∧ (∀ ce σ σ' nl ps r, ev ce σ nl ps r l.op = ev ce σ' nl ps r l.op) ∧
    ∀ ce σ nl ps r x p, ev ce σ nl ps r l.op = some (x, p) → ((∀ f as, l.op ≠ .can f as) ∧ ∃ B, p = some (.new B)) ∨ ∃ bs, p = some (.news bs) := by
  simp only [freeAt, hl, Bool.and_eq_true, Option.isNone_iff_eq_none] at h
  obtain ⟨h1, h2⟩ := h
  split at h2
  · rename_i hop
    rw [hop]
    refine ⟨h1, rfl, rfl, rfl, fun _ _ _ _ _ _ => rfl, fun ce σ nl ps r x p he => .inl ⟨by simp, ?_⟩⟩
    simp only [ev] at he
    split at he <;> try (simp at he; done)
    split at he <;> simp at he
    exact ⟨_, he.2.symm⟩
  · rename_i hop
    rw [hop]
    refine ⟨h1, rfl, rfl, rfl, fun _ _ _ _ _ _ => rfl, fun ce σ nl ps r x p he => .inr ?_⟩
    simp only [ev] at he
    split at he <;> try (simp at he; done)
    split at he <;> simp at he
    exact ⟨_, he.2.symm⟩
  · rename_i hop
    rw [hop]
    refine ⟨h1, rfl, rfl, rfl, fun _ _ _ _ _ _ => rfl, fun ce σ nl ps r x p he => .inl ⟨by simp, ?_⟩⟩
    simp only [ev] at he
    split at he <;> simp at he
    exact ⟨_, he.2.symm⟩
  · simp at h2
theorem free_adds {i : Nat} (he : effAt X.ls i = true) (hg : inG X.ls X.draw X.bf i = true) : ∃ l, (X.st (i + 1)).σ = (X.st i).σ ++ l := by
  obtain ⟨o, l, ho, hl, hF⟩ := X.at_ (X.eff_lt he)
  obtain ⟨h1, h2, h3, _, _, h4⟩ := X.free_spec hl (X.free_of he hg)
  have hr := X.run i l hl
  unfold line1 at hr
  simp only [h1, want, h3, Bool.false_eq_true, if_false] at hr
  split at hr
  · rename_i v hev
    rcases h4 _ _ _ _ _ _ _ hev with ⟨_, B, hB⟩ | ⟨bs, hB⟩ <;> simp at hB
  · rename_i v p hev
    simp only [Option.some.injEq] at hr
    rw [← hr]
    rcases h4 _ _ _ _ _ _ _ hev with ⟨_, B, hB⟩ | ⟨bs, hB⟩
    · simp at hB; subst hB; exact ⟨_, rfl⟩
    · simp at hB; subst hB; exact ⟨_, rfl⟩
  · simp at hr
theorem pre {lo hi : Nat} (hgr : ∀ k, inG X.ls X.draw X.bf k = true ↔ lo ≤ k ∧ k ≤ hi) {p : Nat} : ∀ (n : Nat), lo ≤ p → p + n ≤ hi + 1 → p + n ≤ X.ls.length → ∃ l, (X.st (p + n)).σ = (X.st p).σ ++ l
  | 0, _, _, _ => ⟨[], by simp⟩
  | n + 1, h1, h2, h3 => by
    obtain ⟨l, hl⟩ := pre hgr n h1 (by omega) (by omega)
    cases he : effAt X.ls (p + n) with
    | true =>
      obtain ⟨l', hl'⟩ := X.free_adds he ((hgr _).2 ⟨by omega, by omega⟩)
      exact ⟨l ++ l', by rw [show p + (n + 1) = p + n + 1 by omega, hl', hl, List.append_assoc]⟩
    | false =>
      obtain ⟨o, l', ho, hl', hF⟩ := X.at_ (show p + n < X.ls.length by omega)
      exact ⟨l, by rw [show p + (n + 1) = p + n + 1 by omega, (X.still hl' he).1, hl]⟩
theorem pre' {lo hi p q : Nat} (hgr : ∀ k, inG X.ls X.draw X.bf k = true ↔ lo ≤ k ∧ k ≤ hi) (h1 : lo ≤ p) (h2 : p ≤ q) (h3 : q ≤ hi + 1) (h4 : q ≤ X.ls.length) : ∃ l, (X.st q).σ = (X.st p).σ ++ l := by
  have := X.pre hgr (p := p) (q - p) h1 (by omega) (by omega)
  rwa [show p + (q - p) = q by omega] at this
theorem pre_len {lo hi p q : Nat} (hgr : ∀ k, inG X.ls X.draw X.bf k = true ↔ lo ≤ k ∧ k ≤ hi) (h1 : lo ≤ p) (h2 : p ≤ q) (h3 : q ≤ hi + 1) (h4 : q ≤ X.ls.length) : (X.st p).σ.length ≤ (X.st q).σ.length := by
  obtain ⟨l, hl⟩ := X.pre' hgr h1 h2 h3 h4
  rw [hl]; simp
theorem seg {lo hi : Nat} (hgr : ∀ k, inG X.ls X.draw X.bf k = true ↔ lo ≤ k ∧ k ≤ hi) {b : Nat} : ∀ (n : Nat), lo + n ≤ hi + 1 → lo + n ≤ X.ls.length → b < (X.st (lo + n)).σ.length → b < (X.st lo).σ.length ∨ ∃ i, lo ≤ i ∧ i < lo + n ∧ effAt X.ls i = true ∧ (X.st i).σ.length ≤ b ∧ b < (X.st (i + 1)).σ.length
  | 0, _, _, h => .inl h
  | n + 1, h1, h2, h => by
    by_cases hb : b < (X.st (lo + n)).σ.length
    · rcases seg hgr n (by omega) (by omega) hb with h | ⟨i, a1, a2, a3⟩
      · exact .inl h
      · exact .inr ⟨i, a1, by omega, a3⟩
    · cases he : effAt X.ls (lo + n) with
      | true => exact .inr ⟨lo + n, by omega, by omega, he, by omega, h⟩
      | false =>
        obtain ⟨o, l', ho, hl', hF⟩ := X.at_ (show lo + n < X.ls.length by omega)
        rw [show lo + (n + 1) = lo + n + 1 by omega, (X.still hl' he).1] at h
        omega
theorem zbCC {i : Nat} (h : eAt X.ls i = true) : effAt X.ls i = true := by
  unfold eAt at h; unfold effAt
  cases hl : X.ls[i]? with
  | none => simp [hl] at h
  | some l => simp only [hl, Bool.and_eq_true] at h ⊢; simp [h.1]
theorem noEff_spec {p q : Nat} (h : noEff X.ls p q = true) : ∀ j, p ≤ j → j < q → effAt X.ls j = false := fun j h1 h2 => by
  simp only [noEff, List.all_eq_true, List.mem_range, Bool.or_eq_true, Bool.not_eq_true', decide_eq_false_iff_not] at h
  rcases h j h2 with h | h
  · exact absurd h1 h
  · exact h
end RC
section
variable {X : RC P} {C0 : Ctx} {w0 : World} {ds : List Deferred} {D : Nat → Prop} {C : Ctx} {f : Nat} {a : Act} {w : World} {i : Nat}
theorem FrontN.front (h : FrontN X D C f) (hD : ¬ D i) (hb : ∀ j, bfr X.draw X.bf j i = true → D j) (he : effAt X.ls i = true) (hng : inG X.ls X.draw X.bf i = false) : f ≤ i ∧ ∀ j, f ≤ j → j < i → effAt X.ls j = false := by
  refine ⟨Nat.le_of_not_lt fun hlt => hD (h.lo i hlt he), fun j h1 h2 => ?_⟩
  cases hj : effAt X.ls j with
  | false => rfl
  | true =>
    rcases X.eff_order he hj h2 with hq | hq
    · exact absurd (hb j hq) (h.hi j h1 hj)
    · rw [hng] at hq; simp at hq
theorem FrontN.effs (h : FrontN X D C f) (hf : f ≤ i) (hn : ∀ j, f ≤ j → j < i → effAt X.ls j = false) :
    (∀ e, e < i + 1 → effAt X.ls e = true → D e ∨ e = i) ∧ ∀ e, i + 1 ≤ e → effAt X.ls e = true → ¬ (D e ∨ e = i) := by
  refine ⟨fun e h1 h2 => ?_, fun e h1 h2 h3 => ?_⟩
  · rcases Nat.lt_or_ge e i with hlt | hge
    · rcases Nat.lt_or_ge e f with hl | hg
      · exact .inl (h.lo e hl h2)
      · rw [hn e hg hlt] at h2; simp at h2
    · exact .inr (by omega)
  · rcases h3 with h3 | h3
    · exact h.hi e (by omega) h2 h3
    · omega
theorem zE3L {σ l : List Blk} {ids : Nat → Nat} {I : Nat → Prop} {b u : Nat} (hb : b < σ.length) : (ctxOf (σ ++ l) ids I).own b u = (ctxOf σ ids I).own b u ∧ ((ctxOf (σ ++ l) ids I).lim b u ↔ (ctxOf σ ids I).lim b u) := by
  have e : blk (σ ++ l) b = blk σ b := by rw [zzWB, zzWB, List.getElem?_append_left hb]
  simp only [ctxOf, e, and_self]
theorem zhl0 {σ : List Blk} {ids : Nat → Nat} {I : Nat → Prop} {b u : Nat} (h : (ctxOf σ ids I).lim b u) : b < σ.length := by
  obtain ⟨B, h1, _⟩ := h
  rw [zzWB] at h1; exact (List.getElem?_eq_some_iff.1 h1).1
theorem FrontN.group (h : FrontN X D C f) (hD : ¬ D i) (hb : ∀ j, bfr X.draw X.bf j i = true → D j) (he : effAt X.ls i = true) (hg : inG X.ls X.draw X.bf i = true) : ∃ lo hi, FrontG X D C lo hi := by
  obtain ⟨lo, hi, g1, g2, g3⟩ := X.grp hg
  have hi1 := (g1 i).1 hg
  have hfi : f ≤ i := Nat.le_of_not_lt fun hlt => hD (h.lo i hlt he)
  have hhl := X.eff_lt g2
  have hbef : ∀ e, e < lo → effAt X.ls e = true → D e := fun e h1 h2 => by
    rcases X.eff_order he h2 (by omega) with hq | hq
    · exact hb e hq
    · have := (g1 e).1 hq.1; omega
  have hbeh : ∀ e, hi < e → effAt X.ls e = true → ¬ D e := fun e h1 h2 => h.hi e (by omega) h2
  -- the blocks now
  obtain ⟨q, q1, q2, q3, q4⟩ : ∃ q, lo ≤ q ∧ q ≤ hi + 1 ∧ (X.st f).σ = (X.st q).σ ∧ ∀ e, effAt X.ls e = true → lo ≤ e → (D e ↔ e < q) := by
    rcases Nat.lt_or_ge f lo with hlt | hge
    · refine ⟨lo, Nat.le_refl _, by omega, ((X.same' (p := f) (q := lo) (by omega) (by omega) fun k k1 k2 => ?_).1).symm, fun e h1 h2 => ⟨fun hd => absurd hd (h.hi e (by omega) h1), fun h3 => by omega⟩⟩
      cases hk : effAt X.ls k with
      | false => rfl
      | true => exact absurd (hbef k k2 hk) (h.hi k k1 hk)
    · exact ⟨f, hge, by omega, rfl, fun e h1 h2 => ⟨fun hd => Nat.lt_of_not_le fun h3 => h.hi e h3 h1 hd, fun h3 => h.lo e h3 h1⟩⟩
  have hal : ∀ b, alive X D lo b ↔ b < (X.st f).σ.length := fun b => by
    rw [q3]
    constructor
    · rintro (h1 | ⟨k, k1, k2, k3, k4, k5⟩)
      · have := X.pre_len g1 (Nat.le_refl lo) q1 q2 (by omega); omega
      · have a1 := (g1 k).1 k2
        have a2 := (q4 k k1 a1.1).1 k3
        have := X.pre_len g1 (p := k + 1) (q := q) (by omega) (by omega) q2 (by omega)
        omega
    · intro h1
      have h1' : b < (X.st (lo + (q - lo))).σ.length := by rwa [show lo + (q - lo) = q by omega]
      rcases X.seg g1 (q - lo) (by omega) (by omega) h1' with h2 | ⟨k, k1, k2, k3, k4, k5⟩
      · exact .inl h2
      · exact .inr ⟨k, k3, (g1 k).2 ⟨k1, by omega⟩, (q4 k k3 k1).2 (by omega), k4, k5⟩
  obtain ⟨l, hl⟩ := X.pre' g1 q1 q2 (Nat.le_refl _) (by omega)
  rw [← q3] at hl
  obtain ⟨ids, s1, s2⟩ := h.shows
  refine ⟨lo, hi, g1, g2, g3, hbef, hbeh, ids, fun b u e ha ho => ?_, fun b u hlim => ?_⟩
  · rw [hl, (zE3L ((hal b).1 ha)).1] at ho
    exact s1 b u e ho
  · have := s2 b u hlim
    have hlt := zhl0 this
    exact ⟨(hal b).2 hlt, by rw [hl]; exact (zE3L hlt).2.2 this⟩
theorem FrontG.done {lo hi : Nat} (h : FrontG X D C lo hi) (hall : ∀ k, effAt X.ls k = true → inG X.ls X.draw X.bf k = true → D k) : FrontN X D C (hi + 1) := by
  have hhl := X.eff_lt h.ehi
  have hle := h.le
  have hal : ∀ b, b < (X.st (hi + 1)).σ.length → alive X D lo b := fun b hb => by
    have h1' : b < (X.st (lo + (hi + 1 - lo))).σ.length := by rwa [show lo + (hi + 1 - lo) = hi + 1 by omega]
    rcases X.seg h.grp (hi + 1 - lo) (by omega) (by omega) h1' with h2 | ⟨k, k1, k2, k3, k4, k5⟩
    · exact .inl h2
    · have hg := (h.grp k).2 ⟨k1, by omega⟩
      exact .inr ⟨k, k3, hg, hall k k3 hg, k4, k5⟩
  obtain ⟨ids, s1, s2⟩ := h.shows
  have hsh : Shows C (X.st (hi + 1)).σ := by
    refine ⟨ids, fun b u e ho => ?_, fun b u hl => (s2 b u hl).2⟩
    have hlt : b < (X.st (hi + 1)).σ.length := by
      cases hq : blk (X.st (hi + 1)).σ b with
      | none => simp [ctxOf, hq] at ho
      | some B => rw [zzWB] at hq; exact (List.getElem?_eq_some_iff.1 hq).1
    exact s1 b u e (hal b hlt) ho
  refine ⟨by omega, fun e h1 h2 => ?_, fun e h1 h2 => h.behind e (by omega) h2, hsh, fun _ => ⟨by rw [Nat.add_sub_cancel]; exact h.ehi, fun _ => ?_⟩⟩
  · by_cases hlt : e < lo
    · exact h.before e hlt h2
    · exact hall e h2 ((h.grp e).2 ⟨by omega, by omega⟩)
  · rw [Nat.add_sub_cancel]
    intro b u B hu
    obtain ⟨l, hl⟩ := X.pre' h.grp (p := hi) (q := hi + 1) hle (by omega) (Nat.le_refl _) (by omega)
    obtain ⟨k1, k2, k3⟩ := zc4K hu
    have hlt : b < (X.st hi).σ.length := by rw [zzWB] at k1; exact (List.getElem?_eq_some_iff.1 k1).1
    refine hsh.seen b u B ?_
    rw [hl]
    unfold uptoX
    rw [show blk ((X.st hi).σ ++ l) b = blk (X.st hi).σ b by rw [zzWB, zzWB, List.getElem?_append_left hlt]]
    exact hu
theorem Front.norm (h : Front X D C f) (hD : ¬ D i) (hb : ∀ j, bfr X.draw X.bf j i = true → D j) (he : effAt X.ls i = true) (hng : inG X.ls X.draw X.bf i = false) : ∃ f, FrontN X D C f := by
  rcases h with hN | ⟨lo, hi, hG, _⟩
  · exact ⟨_, hN⟩
  · have hle := hG.le
    have hi' : hi < i := by
      have h1 : ¬ (lo ≤ i ∧ i ≤ hi) := fun h => by rw [(hG.grp i).2 h] at hng; simp at hng
      have h2 : ¬ i < lo := fun h => hD (hG.before i h he)
      omega
    refine ⟨_, hG.done fun k hk hg => ?_⟩
    have := (hG.grp k).1 hg
    rcases X.eff_order he hk (by omega) with hq | hq
    · exact hb k hq
    · rw [hng] at hq; simp at hq
theorem Front.grp (h : Front X D C f) (hD : ¬ D i) (hb : ∀ j, bfr X.draw X.bf j i = true → D j) (he : effAt X.ls i = true) (hg : inG X.ls X.draw X.bf i = true) : ∃ lo hi, FrontG X D C lo hi := by
  rcases h with hN | ⟨lo, hi, hG, _⟩
  · exact hN.group hD hb he hg
  · exact ⟨lo, hi, hG⟩
theorem Inv.sees (h : Inv X C0 w0 ds D C f a w) (hi : i < X.ls.length) (hD : ¬ D i) (hb : ∀ j, bfr X.draw X.bf j i = true → D j) {o : Oper} {l : Ln} (hl : X.ls[i]? = some l) (hF : Facts X i o l)
    (hE : l.op.isE = false) (hW : l.op.isW = false) (hP : l.op.isP = false) : Seen C (if l.prev then (X.st i).σp else (X.st i).σ) := by
  have hr := hF.read
  simp only [okRead, hE, hW, hP, Bool.or_self, Bool.false_eq_true, if_false, Bool.and_eq_true, List.all_eq_true, List.mem_range] at hr
  obtain ⟨hr1, hr2⟩ := hr
  generalize hv : verOf X.ls i l = v at hr1 hr2
  have hvi : v ≤ i := by
    by_cases hp : l.prev = true
    · simp only [hp, if_true, Bool.and_eq_true, decide_eq_true_eq] at hr1
      omega
    · have : v = i := by rw [← hv]; simp [verOf, hp]
      omega
  have hσ : (if l.prev then (X.st i).σp else (X.st i).σ) = (X.st v).σ := by
    by_cases hp : l.prev = true
    · simp only [hp, if_true, Bool.and_eq_true, decide_eq_true_eq] at hr1 ⊢
      obtain ⟨⟨q1, q2⟩, q3⟩ := hr1
      have h1 := (X.same' (p := v + 1) (q := i) (by omega) (Nat.le_of_lt hi) (X.noEff_spec q3)).2
      rw [h1]
      obtain ⟨ov, lv, _, hlv, hFv⟩ := X.at_ (show v < X.ls.length by omega)
      have hrun := X.run v lv hlv
      simp only [eAt, hlv, Bool.and_eq_true, Option.isNone_iff_eq_none] at q2
      have hef := hFv.eff
      simp only [okEff, q2.1, Bool.true_or, if_true, Bool.and_eq_true, Bool.not_eq_true'] at hef
      unfold line1 at hrun
      simp only [q2.2, want] at hrun
      have hW : lv.op.isW = false := by revert q2; cases lv.op <;> simp [IOp.isE, IOp.isW]
      rw [if_neg (by rw [hW]; simp)] at hrun
      split at hrun
      · simp only [q2.1, if_true, Option.some.injEq] at hrun; rw [← hrun]
      · simp only [Option.some.injEq] at hrun; rw [← hrun]
      · simp at hrun
    · have : v = i := by rw [← hv]; simp [verOf, hp]
      simp [hp, this]
  rw [hσ]
  have hin : ∀ j, effAt X.ls j = true → j < X.ls.length := fun j hj => by
    unfold effAt at hj
    cases hl : X.ls[j]? with
    | none => simp [hl] at hj
    | some l => exact (List.getElem?_eq_some_iff.1 hl).1
  have key : ∀ j, effAt X.ls j = true → if j < v then bfr X.draw X.bf j i = true else bfr X.draw X.bf i j = true ∨ (eAt X.ls j = true ∧ noEff X.ls v j = true) := fun j hj => by
    have := hr2 j (hin j hj)
    simp only [hj, Bool.not_true, Bool.false_or] at this
    by_cases hlt : j < v
    · simpa [hlt] using this
    · simp only [hlt, if_false, Bool.or_eq_true, Bool.and_eq_true] at this ⊢
      exact this.imp (fun q => q) fun q => ⟨q.1.2, q.2⟩
  rcases h.fr with hN | ⟨lo, hi, hS, k0, y1, y2, y3⟩
  · rcases Nat.lt_or_ge v f with hvf | hvf
    · obtain ⟨e1, e2⟩ := hN.last (by omega)
      have hd := hN.lo (f - 1) (by omega) e1
      have := key (f - 1) e1
      rw [if_neg (by omega)] at this
      rcases this with k | ⟨k1, k2⟩
      · exact absurd (h.closed _ _ hd k) hD
      · have h3 := (X.same' (p := v) (q := f - 1) (by omega) (by have := hN.fle; omega) (X.noEff_spec k2)).1
        rw [← h3]
        exact e2 k1
    · have h3 := (X.same' (p := f) (q := v) hvf (by omega) fun j j1 j2 => by
        cases hj : effAt X.ls j with
        | false => rfl
        | true =>
          have := key j hj
          rw [if_pos j2] at this
          exact absurd (hb j this) (hN.hi j j1 hj)).1
      rw [h3]
      exact hN.shows.seen
  · -- all effects before v are done; of those behind it at most the first one
    have hle := hS.le
    have hhl := X.eff_lt hS.ehi
    have k1 : ∀ e, effAt X.ls e = true → e < v → D e := fun e he hlt => by
      have := key e he
      rw [if_pos hlt] at this
      exact hb e this
    have k2 : ∀ e, effAt X.ls e = true → D e → v ≤ e → noEff X.ls v e = true := fun e he hd hle => by
      have := key e he
      rw [if_neg (by omega)] at this
      rcases this with hq | hq
      · exact absurd (h.closed _ _ hd hq) hD
      · exact hq.2
    by_cases hv2 : hi < v
    · have hN := hS.done fun k hk hg => k1 k hk (by have := (hS.grp k).1 hg; omega)
      rw [(X.same' (p := hi + 1) (q := v) (by omega) (by omega) fun j j1 j2 => by
        cases hj : effAt X.ls j with
        | false => rfl
        | true => exact absurd (k1 j hj j2) (hS.behind j (by omega) hj)).1]
      exact hN.shows.seen
    · obtain ⟨q, q1, q2, q3, q4⟩ : ∃ q, lo ≤ q ∧ q ≤ hi ∧ (X.st v).σ = (X.st q).σ ∧ ∀ e, effAt X.ls e = true → e < q → D e := by
        by_cases hlv : lo ≤ v
        · exact ⟨v, hlv, by omega, rfl, k1⟩
        · have hk0 := (hS.grp k0).1 y2
          have hne := X.noEff_spec (k2 k0 y1 y3 (by omega))
          exact ⟨lo, Nat.le_refl _, hle, ((X.same' (p := v) (q := lo) (by omega) (by omega) fun j j1 j2 => hne j j1 (by omega)).1).symm, fun e he hlt => hS.before e hlt he⟩
      rw [q3]
      intro b u B hu
      obtain ⟨u1, u2, u3⟩ := zc4K hu
      have hlt : b < (X.st q).σ.length := by rw [zzWB] at u1; exact (List.getElem?_eq_some_iff.1 u1).1
      have hal : alive X D lo b := by
        have h1' : b < (X.st (lo + (q - lo))).σ.length := by rwa [show lo + (q - lo) = q by omega]
        rcases X.seg hS.grp (q - lo) (by omega) (by omega) h1' with h2 | ⟨k, a1, a2, a3, a4, a5⟩
        · exact .inl h2
        · exact .inr ⟨k, a3, (hS.grp k).2 ⟨a1, by omega⟩, q4 k a3 (by omega), a4, a5⟩
      obtain ⟨l, hl⟩ := X.pre' hS.grp (p := q) (q := hi + 1) q1 (by omega) (Nat.le_refl _) (by omega)
      obtain ⟨ids, s1, s2⟩ := hS.shows
      refine ⟨ids b, s1 b u _ hal ?_⟩
      rw [hl, (zE3L hlt).1]
      exact zEU6 ids C.I hu
end
end Ab
namespace Ab
open Go
variable {P : Program}
def cmt (σ : List Blk) : Option Pend → List Blk
  | some q => commit σ q
  | none => σ
theorem z2Cr {ls : List Ln} {t m : Nat} (h : alcAt ls t = some m) : tgt ls t = none := by
  unfold alcAt at h; unfold tgt
  cases hl : ls[t]? with
  | none => rfl
  | some l =>
    simp only [hl] at h ⊢
    split at h
    · rename_i hop; rw [hop]
    · simp at h
theorem zaou (σ l : List Blk) (b : Nat) : blk (σ ++ l) b = if b < σ.length then blk σ b else blk l (b - σ.length) := by
  rw [zzWB, zzWB, zzWB]
  by_cases hb : b < σ.length
  · rw [if_pos hb, List.getElem?_append_left hb]
  · rw [if_neg hb, List.getElem?_append_right (by omega)]
open Classical in
noncomputable def maskC (σ : List Blk) (A : Nat → Prop) (ids : Nat → Nat) (I : Nat → Prop) : Ctx where
  I := I
  own := fun b u => if A b then (ctxOf σ ids I).own b u else none
  lim := fun b u => A b ∧ (ctxOf σ ids I).lim b u
section
variable {X : RC P} {C0 : Ctx} {w0 : World} {ds : List Deferred} {D : Nat → Prop} {C : Ctx} {f : Nat} {a : Act} {w : World} {i : Nat}
theorem Inv.next (h : Inv X C0 w0 ds D C f a w) (hi : i < X.ls.length) (hD : ¬ D i) (hb : ∀ j, bfr X.draw X.bf j i = true → D j) (Q : Exit → Act → World → Prop) :
    wpOp P X.ops.toArray Q i (fun a' w' => ∃ C' f', Inv X C0 w0 ds (fun j => D j ∨ j = i) C' f' a' w') a w := by
  obtain ⟨o, l, ho, hl, hF⟩ := X.at_ hi
  have hrun := X.run i l hl
  have hR : ∀ x y, okRef X.draw X.bf X.ops X.ls X.sl i x y = true → VR C w.heap (rv X.vars (X.st i).env y) (a.eval x) := fun x y hr => h.ref hi hD hb hr
  unfold wpOp
  simp only [List.getElem?_toArray, ho]
  unfold line1 at hrun
  cases hw : want X.vars (X.st i).env l.g with
  | none => simp [hw] at hrun
  | some b =>
    have hwa := h.wanted hi hb hF hw
    rw [hwa]
    simp only [hw] at hrun
    cases b with
    | false =>
      simp only [Bool.false_eq_true, if_false]
      simp only [Option.some.injEq] at hrun
      have hval : valOf X.st i = .tup [] := by rw [valOf, ← hrun]
      have hgs : l.g ≠ none := fun e => by rw [e] at hw; simp [want] at hw
      have htn : tgt X.ls i = none := by
        cases ht : tgt X.ls i with
        | none => rfl
        | some t =>
          obtain ⟨_, _, l', _, _, _, _, hl', _, _, hg', _⟩ := X.tgt_spec ht
          rw [hl] at hl'; simp at hl'; subst hl'
          exact absurd hg' hgs
      have haln : alcAt X.ls i = none := by
        unfold alcAt; simp only [hl]
        split
        · rename_i m hop
          have := hF.ini
          simp only [okIni, hop, Bool.and_eq_true, Option.isNone_iff_eq_none] at this
          exact absurd this.1 hgs
        · rfl
      have hund : VR C w.heap (valOf X.st i) undef := by rw [hval]; unfold VR; exact ⟨[], rfl, rfl⟩
      cases he : effAt X.ls i with
      | false =>
        exact ⟨C, f, h.after hi hD hb ho h.good (Step.refl _ _) htn hund (fun m hm => by rw [haln] at hm; simp at hm) (h.fr.noeff he C.I)⟩
      | true =>
        have hng : inG X.ls X.draw X.bf i = false := by
          cases hg : inG X.ls X.draw X.bf i with
          | false => rfl
          | true => exact absurd (X.free_spec hl (X.free_of he hg)).1 hgs
        obtain ⟨f', hN⟩ := h.fr.norm hD hb he hng
        obtain ⟨q1, q2⟩ := hN.front hD hb he hng
        obtain ⟨e1, e2⟩ := hN.effs q1 q2
        have hs : (X.st (i + 1)).σ = (X.st f').σ := by rw [← hrun]; exact (X.same' q1 (Nat.le_of_lt hi) q2).1
        refine ⟨C, i + 1, h.after hi hD hb ho h.good (Step.refl _ _) htn hund (fun m hm => by rw [haln] at hm; simp at hm) (.inl ⟨by omega, e1, e2, by rw [hs]; exact hN.shows, fun _ => ⟨he, fun hee => ?_⟩⟩)⟩
        simp only [Nat.add_sub_cancel, eAt, hl, Bool.and_eq_true, Option.isNone_iff_eq_none] at hee
        exact absurd hee.2 hgs
    | true =>
      dsimp only at hrun
      simp only [if_true]
      refine .inl ?_
      by_cases hWc : l.op.isW = true
      · rw [if_pos hWc] at hrun
        have he : effAt X.ls i = true := by simp [effAt, hl, hWc]
        have hng : inG X.ls X.draw X.bf i = false := by
          cases hg : inG X.ls X.draw X.bf i with
          | false => rfl
          | true => rw [(X.free_spec hl (X.free_of he hg)).2.2.1] at hWc; simp at hWc
        obtain ⟨f', hN⟩ := h.fr.norm hD hb he hng
        obtain ⟨q1, q2⟩ := hN.front hD hb he hng
        have hnow := (X.same' q1 (Nat.le_of_lt hi) q2).1
        obtain ⟨ids, g1, g2⟩ := hN.shows.take h.good
        rw [← hnow] at g1 g2
        split at hrun
        · rename_i v σ' hev
          simp only [Option.some.injEq] at hrun
          have htn : tgt X.ls i = none := by
            cases ht : tgt X.ls i with
            | none => rfl
            | some t =>
              obtain ⟨_, _, l', _, _, _, _, hl', _, hop, _⟩ := X.tgt_spec ht
              rw [hl] at hl'; simp at hl'; subst hl'
              rw [hop] at hWc; simp [IOp.isW] at hWc
          have haln : alcAt X.ls i = none := by
            unfold alcAt; simp only [hl]
            split
            · rename_i m hop; rw [hop] at hWc; simp [IOp.isW] at hWc
            · rfl
          refine opW hF.op hWc X.hce X.hbd g1 (fun x y hr => VR.mono g2.ev _ _ (hR x y hr)) hev _ Q fun v' w' hp => ?_
          obtain ⟨ids', I', k1, k2, k3⟩ := hp
          obtain ⟨e1, e2⟩ := hN.effs q1 q2
          have hs : (X.st (i + 1)).σ = σ' := by rw [← hrun]
          have hval : valOf X.st i = v := by rw [valOf, ← hrun]
          refine ⟨_, i + 1, h.after hi hD hb ho k1 (g2.trans k2) htn (by rw [hval]; exact k3) (fun m hm => by rw [haln] at hm; simp at hm) (.inl ⟨by omega, e1, e2, by rw [hs]; exact zce0 _ _ _, fun _ => ⟨he, fun hee => ?_⟩⟩)⟩
          simp only [Nat.add_sub_cancel, eAt, hl, Bool.and_eq_true] at hee
          exfalso
          revert hWc hee; cases l.op <;> simp [IOp.isE, IOp.isW]
        · simp at hrun
      · rw [if_neg hWc] at hrun
        have hWf : l.op.isW = false := by simpa using hWc
        cases hev : ev X.ce (if l.prev then (X.st i).σp else (X.st i).σ) (X.st i).σ.length [] (rv X.vars (X.st i).env) l.op with
        | none => simp [hev] at hrun
        | some vp =>
          obtain ⟨v, p⟩ := vp
          simp only [hev] at hrun
          have hval : valOf X.st i = v := by cases p <;> simp only [Option.some.injEq] at hrun <;> rw [valOf, ← hrun] <;> rfl
          have hst : (X.st (i + 1)).σ = cmt (X.st i).σ p := by cases p <;> simp only [Option.some.injEq] at hrun <;> rw [← hrun] <;> rfl
          cases hE : l.op.isE with
          | true =>
            have he : effAt X.ls i = true := by simp [effAt, hl, hE]
            have hpf : l.prev = false := by
              have := hF.eff
              simp only [okEff, hE, Bool.true_or, if_true, Bool.and_eq_true, Bool.not_eq_true'] at this
              exact this.1
            rw [hpf] at hev
            simp only [Bool.false_eq_true, if_false] at hev
            have htn : tgt X.ls i = none := by
              cases ht : tgt X.ls i with
              | none => rfl
              | some t =>
                obtain ⟨_, _, l', _, _, _, _, hl', _, hop, _⟩ := X.tgt_spec ht
                rw [hl] at hl'; simp at hl'; subst hl'
                rw [hop] at hE; simp [IOp.isE] at hE
            have haln : alcAt X.ls i = none := by
              unfold alcAt; simp only [hl]
              split
              · rename_i m hop; rw [hop] at hE; simp [IOp.isE] at hE
              · rfl
            have hni : l.op.isIni = false := by revert hE; cases l.op <;> simp [IOp.isE, IOp.isIni]
            cases hng : inG X.ls X.draw X.bf i with
            | false =>
              obtain ⟨f', hN⟩ := h.fr.norm hD hb he hng
              obtain ⟨q1, q2⟩ := hN.front hD hb he hng
              obtain ⟨ids, g1, g2⟩ := hN.shows.take h.good
              have hnow := (X.same' q1 (Nat.le_of_lt hi) q2).1
              rw [← hnow] at g1 g2
              refine opE hF.op hWf hni X.hce X.hbd g1 (fun b u B hu => ⟨_, zEU6 ids C.I hu⟩) (fun _ _ => zIsc) (fun l' _ b u hb1 _ hlim => ?_) (fun b u B cs hu _ _ => ⟨fun n hn hlim => ?_, fun u' B' id' hown => ?_⟩) (fun x y hr => VR.mono g2.ev _ _ (hR x y hr)) rfl hev _ Q fun v' w' hp => ?_
              · obtain ⟨B, hB, _⟩ := hlim
                rw [zzWB, List.getElem?_eq_none (by omega)] at hB; simp at hB
              · obtain ⟨B', hB, hle⟩ := hlim
                obtain ⟨k1, k2, _⟩ := zOI7 hu
                rw [k1] at hB; simp at hB; subst hB
                omega
              · obtain ⟨k1, k2, _⟩ := zOI7 hu
                rw [← k2]; exact zpRx (u := 0) k1 u' B' id' hown
              · obtain ⟨C', k1, k2, k3, k4⟩ := hp
                obtain ⟨s1, s2⟩ := Ext.shows k1 k4
                obtain ⟨e1, e2⟩ := hN.effs q1 q2
                exact ⟨C', i + 1, h.after hi hD hb ho k1 (g2.trans k2) htn (by rw [hval]; exact k3) (fun m hm => by rw [haln] at hm; simp at hm) (.inl ⟨by omega, e1, e2, by rw [hst]; cases p <;> exact s1, fun _ => ⟨he, fun _ => s2⟩⟩)⟩
            | true =>
              obtain ⟨lo, hh, hG⟩ := h.fr.grp hD hb he hng
              obtain ⟨fr1, fr2, fr3, fr4, fr5, fr6⟩ := X.free_spec hl (X.free_of he hng)
              have hin := (hG.grp i).1 hng
              have hhl := X.eff_lt hG.ehi
              have hle := hG.le
              obtain ⟨ids, m1, m2⟩ := hG.shows
              obtain ⟨bs, hbs, hcan⟩ : ∃ bs, (X.st (i + 1)).σ = (X.st i).σ ++ bs ∧ (((∀ f as, l.op ≠ .can f as) ∧ ∃ B, p = some (.new B) ∧ bs = [B]) ∨ p = some (.news bs)) := by
                rcases fr6 _ _ _ _ _ _ _ hev with ⟨hc, B, rfl⟩ | ⟨bs, rfl⟩
                · exact ⟨[B], by rw [hst]; rfl, .inl ⟨hc, B, rfl, rfl⟩⟩
                · exact ⟨bs, by rw [hst]; rfl, .inr rfl⟩
              have hlen : (X.st (i + 1)).σ.length = (X.st i).σ.length + bs.length := by rw [hbs]; simp
              have hgap : ∀ b, (X.st i).σ.length ≤ b → b < (X.st (i + 1)).σ.length → ¬ alive X D lo b := by
                rintro b b1 b2 (h1 | ⟨k, k1, k2, k3, k4, k5⟩)
                · have := X.pre_len hG.grp (p := lo) (q := i) (Nat.le_refl _) hin.1 (by omega) (by omega); omega
                · have hk := (hG.grp k).1 k2
                  rcases Nat.lt_trichotomy k i with hlt | rfl | hgt
                  · have := X.pre_len hG.grp (p := k + 1) (q := i) (by omega) (by omega) (by omega) (by omega); omega
                  · exact hD k3
                  · have := X.pre_len hG.grp (p := i + 1) (q := k) (by omega) (by omega) (by omega) (by omega); omega
              have hg2 := Good.shrink (C2 := maskC (X.st (hh + 1)).σ (alive X D lo) ids C.I) h.good rfl (fun b u e ho' => by
                unfold maskC at ho'
                dsimp only at ho'
                split at ho'
                · rename_i ha; exact m1 b u e ha ho'
                · simp at ho') m2
              have hal' : ∀ b, alive X (fun j => D j ∨ j = i) lo b ↔ alive X D lo b ∨ ((X.st i).σ.length ≤ b ∧ b < (X.st (i + 1)).σ.length) := fun b => by
                constructor
                · rintro (h1 | ⟨k, k1, k2, k3, k4⟩)
                  · exact .inl (.inl h1)
                  · rcases k3 with k3 | rfl
                    · exact .inl (.inr ⟨k, k1, k2, k3, k4⟩)
                    · exact .inr k4
                · rintro ((h1 | ⟨k, k1, k2, k3, k4⟩) | h1)
                  · exact .inl h1
                  · exact .inr ⟨k, k1, k2, .inl k3, k4⟩
                  · exact .inr ⟨i, he, hng, .inr rfl, h1⟩
              obtain ⟨l2, hl2⟩ := X.pre' hG.grp (p := i + 1) (q := hh + 1) (by omega) (by omega) (Nat.le_refl _) (by omega)
              have hblk : ∀ b, (X.st i).σ.length ≤ b → b < (X.st (i + 1)).σ.length → blk (X.st (hh + 1)).σ b = blk bs (b - (X.st i).σ.length) := fun b b1 b2 => by
                rw [hl2, zaou, if_pos b2, hbs, zaou, if_neg (by omega)]
              refine opE (σ := []) hF.op hWf hni X.hce X.hbd hg2.1 (fun b u B hu => by simp [uptoX, blk] at hu) (fun _ hc u hlim => ?_) (fun l' hq b u hb1 hb2 hlim => ?_) (fun b u B cs hu _ _ => by simp [upto, blk] at hu) (fun x y hr => VR.mono hg2.2.ev _ _ (hR x y hr)) rfl (by rw [fr5 X.ce [] (X.st i).σ]; exact hev) _ Q fun v' w' hp => ?_
              · rcases hcan with ⟨_, B, _, rfl⟩ | hq
                · exact hgap _ (Nat.le_refl _) (by rw [hlen]; simp) hlim.1
                · exfalso
                  rcases fr6 _ _ _ _ _ _ _ hev with ⟨_, B, hB⟩ | ⟨bs', hB⟩
                  · rw [hq] at hB; simp at hB
                  · have hf := X.free_of he hng
                    simp only [freeAt, hl, Bool.and_eq_true] at hf
                    have hf2 := hf.2
                    split at hf2
                    · rename_i hop; rw [hop] at hev; simp only [ev] at hev
                      split at hev <;> try (simp at hev; done)
                      split at hev <;> simp at hev
                      rw [← hev.2] at hq; simp at hq
                    · rename_i f as hop; exact hc f as hop
                    · rename_i hop; rw [hop] at hev; simp only [ev] at hev
                      split at hev <;> simp at hev
                      rw [← hev.2] at hq; simp at hq
                    · simp at hf2
              · rcases hcan with ⟨_, B, hq', _⟩ | hq'
                · rw [hq'] at hq; simp at hq
                · rw [hq'] at hq; simp at hq; subst hq
                  exact hgap b hb1 (by omega) hlim.1
              · obtain ⟨C', k1, k2, k3, k4⟩ := hp
                have hsh : ∃ ids', (∀ b u e, alive X (fun j => D j ∨ j = i) lo b → (ctxOf (X.st (hh + 1)).σ ids' C'.I).own b u = some e → C'.own b u = some e) ∧ ∀ b u, C'.lim b u → alive X (fun j => D j ∨ j = i) lo b ∧ (ctxOf (X.st (hh + 1)).σ ids' C'.I).lim b u := by
                  rcases hcan with ⟨_, B, rfl, rfl⟩ | rfl
                  · obtain ⟨id, k5, k6⟩ := k4
                    have hnd : B.st ≠ .dead := (k1.ent (X.st i).σ.length B.cells.length B id (by rw [k5]; simp [addOwn])).2.2.2
                    have hb1 := hblk (X.st i).σ.length (Nat.le_refl _) (by rw [hlen]; simp)
                    rw [Nat.sub_self] at hb1
                    refine ⟨fun q => if q = (X.st i).σ.length then id else ids q, fun b u e ha ho' => ?_, fun b u hlim => ?_⟩
                    · rw [k5]
                      by_cases e0 : b = (X.st i).σ.length
                      · subst e0
                        simp only [ctxOf, hb1, blk, if_true] at ho'
                        have hu : B.cells.length = u ∧ (B, id) = e := by
                          cases hs : B.st <;> simp only [hs] at ho' hnd
                          · split at ho' <;> simp at ho'; rename_i h; exact ⟨h, ho'⟩
                          · split at ho' <;> simp at ho'; rename_i h; exact ⟨h, ho'⟩
                          · exact absurd rfl hnd
                          · split at ho' <;> simp at ho'; rename_i h; exact ⟨h, ho'⟩
                        obtain ⟨rfl, rfl⟩ := hu
                        simp [addOwn]
                      · have ha' : alive X D lo b := by
                          rcases (hal' b).1 ha with h | h
                          · exact h
                          · rw [hlen] at h; simp at h; omega
                        simp only [addOwn]
                        rw [if_neg (by omega)]
                        simp only [maskC, ha', if_true]
                        simp only [ctxOf, e0, if_false] at ho'
                        exact ho'
                    · rw [k6] at hlim
                      rcases hlim with ⟨rfl, rfl⟩ | ⟨h1, h2⟩
                      · exact ⟨(hal' _).2 (.inr ⟨Nat.le_refl _, by rw [hlen]; simp⟩), B, hb1, Nat.le_refl _⟩
                      · exact ⟨(hal' _).2 (.inl h1), h2⟩
                  · obtain ⟨ids2, k5, k6⟩ := k4
                    refine ⟨fun q => if (X.st i).σ.length ≤ q ∧ q < (X.st (i + 1)).σ.length then ids2 (q - (X.st i).σ.length) else ids q, fun b u e ha ho' => ?_, fun b u hlim => ?_⟩
                    · rw [k5]
                      dsimp only
                      by_cases e0 : (X.st i).σ.length ≤ b ∧ b < (X.st (i + 1)).σ.length
                      · rw [if_pos (by omega)]
                        simp only [ctxOf, hblk b e0.1 e0.2, e0, and_self, if_true] at ho'
                        exact ho'
                      · have ha' : alive X D lo b := by
                          rcases (hal' b).1 ha with h | h
                          · exact h
                          · exact absurd h e0
                        rw [if_neg (by omega)]
                        simp only [maskC, ha', if_true]
                        simp only [ctxOf, e0, if_false] at ho'
                        exact ho'
                    · rw [k6] at hlim
                      rcases hlim with ⟨h1, B', h2, h3⟩ | ⟨h1, h2⟩
                      · have hlt : b - (X.st i).σ.length < bs.length := by rw [zzWB] at h2; exact (List.getElem?_eq_some_iff.1 h2).1
                        exact ⟨(hal' _).2 (.inr ⟨h1, by omega⟩), B', by rw [hblk b h1 (by omega)]; exact h2, h3⟩
                      · exact ⟨(hal' _).2 (.inl h1), h2⟩
                refine ⟨C', f, h.after hi hD hb ho k1 (hg2.2.trans k2) htn (by rw [hval]; exact k3) (fun m hm => by rw [haln] at hm; simp at hm) (.inr ⟨lo, hh, ⟨hG.grp, hG.ehi, hG.le, fun e h1 h2 => .inl (hG.before e h1 h2), fun e h1 h2 h3 => ?_, hsh⟩, i, he, hng, .inr rfl⟩)⟩
                rcases h3 with h3 | rfl
                · exact hG.behind e h1 h2 h3
                · omega
          | false =>
            have he : effAt X.ls i = false := by simp [effAt, hl, hE, hWf]
            have hpn := zKtX hE hev
            subst hpn
            cases hP : l.op.isP with
            | false =>
              have htn : tgt X.ls i = none := by
                cases ht : tgt X.ls i with
                | none => rfl
                | some t =>
                  obtain ⟨_, _, l', _, _, _, _, hl', _, hop, _⟩ := X.tgt_spec ht
                  rw [hl] at hl'; simp at hl'; subst hl'
                  rw [hop] at hP; simp [IOp.isP] at hP
              have haln : alcAt X.ls i = none := by
                unfold alcAt; simp only [hl]
                split
                · rename_i m hop; rw [hop] at hP; simp [IOp.isP] at hP
                · rfl
              refine opR hF.op hP hE hWf X.hce h.good (h.sees hi hD hb hl hF hE hWf hP) hR hev _ Q fun v' w' hp => ?_
              obtain ⟨I', k1, k2, k3⟩ := hp
              exact ⟨_, f, h.after hi hD hb ho k1 k2 htn (by rw [hval]; exact k3) (fun m hm => by rw [haln] at hm; simp at hm) (h.fr.noeff he I')⟩
            | true =>
              cases ht : tgt X.ls i with
              | some t =>
                obtain ⟨_, o', l', d, x, m, ho', hl', _, hop, hg', hdst, hd, htd, hal, hbt, huniq⟩ := X.tgt_spec ht
                rw [hl] at hl'; simp at hl'; subst hl'
                rw [ho] at ho'; simp at ho'; subst ho'
                have hnt : ∀ i', D i' → tgt X.ls i' ≠ some t := fun i' hi' e => hD (X.tgt_inj ht e ▸ hi')
                obtain ⟨s, id, c, el, k1, k2, k3, k4, k5, k6, k7⟩ := h.lb t m (hb _ hbt) hal hnt
                rw [hop] at hev
                simp only [ev] at hev
                split at hev
                case isFalse => simp at hev
                rename_i hc
                simp only [Bool.and_eq_true, beq_iff_eq] at hc
                simp at hev
                have hop' := hF.op
                rw [hop] at hop'
                obtain ⟨y, q1, q2⟩ := opI hop' (w := w) (a := a) (C := C) (r := rv X.vars (X.st i).env) (id := id) (c := c) (el := el) (fun q hq => by
                  unfold okRef at hq
                  split at hq
                  · rename_i s' d' heq
                    simp only [Rf.t.injEq] at heq; subst heq
                    simp only [Bool.and_eq_true, beq_iff_eq] at hq
                    have hs' := hq.1.2
                    rw [← htd] at hs'
                    simp only [slotOf, z2Cr hal, k1, Option.some.injEq] at hs'
                    subst hs'
                    exact k2
                  all_goals (rename_i heq; first | (simp at heq; done) | (simp at hq; done) | skip)) k6 k7 (fun q hq => hR q x hq) hc.1 hc.2
                refine q2 _ Q fun v' w' hp => ?_
                obtain ⟨c', rfl, z1, z2⟩ := hp
                rw [hdst]
                exact ⟨_, f, h.fill hi hD hb hl hop ht (by rw [hval, ← hev]) hc.1 q1 k1 k2 k3 k4 k5 k6 z1 z2⟩
              | none =>
                cases hal : alcAt X.ls i with
                | some m =>
                  have hop : l.op = .alc0 m := by
                    unfold alcAt at hal; simp only [hl] at hal
                    split at hal
                    · rename_i m' hop; simp at hal; rw [hop, hal]
                    · simp at hal
                  have hop' := hF.op
                  rw [hop] at hop' hev
                  simp [ev] at hev
                  have hds := hF.ini
                  simp only [okIni, hop, Bool.and_eq_true] at hds
                  obtain ⟨s, hs⟩ := Option.isSome_iff_exists.1 hds.2
                  refine opA (w := w) (a := a) (C := C) hop' h.good _ Q fun v' w' hp => ?_
                  obtain ⟨p1, p2, id, c, el, p3⟩ := hp
                  exact ⟨C, f, h.after hi hD hb ho p1 p2 ht (by rw [hval, ← hev]; unfold VR; trivial) (fun m' hm' => by
                    rw [hal] at hm'; simp at hm'; subst hm'
                    exact ⟨⟨s, hs⟩, id, c, el, p3⟩) (h.fr.noeff he C.I)⟩
                | none =>
                  have hni : l.op.isIni = false := by
                    cases hop : l.op with
                    | alc0 m => simp [alcAt, hl, hop] at hal
                    | ini p x n =>
                      have := hF.ini
                      cases p with
                      | t d => simp [tgt, hl, hop] at ht
                      | v k => simp [okIni, hop] at this
                      | c x => simp [okIni, hop] at this
                    | _ => rfl
                  obtain ⟨q1, _⟩ := opP (w := w) (a := a) (C := C) hF.op hP hni X.hce X.hbd h.good hR rfl hev
                  refine q1 _ Q fun v' w' hp => ?_
                  obtain ⟨I', k1, k2, k3⟩ := hp
                  exact ⟨_, f, h.after hi hD hb ho k1 k2 ht (by rw [hval]; exact k3) (fun m hm => by rw [hal] at hm; simp at hm) (h.fr.noeff he I')⟩
end
end Ab
namespace Ab
open Go
variable {P : Program}
structure Rel (sl : List Nat) (nt : Nat) (ds : List Deferred) (s : St) (C : Ctx) (a : Act) (w : World) : Prop where
  good : Good C w
  size : a.tmps.size = nt
  defers : a.defers = ds
  vars : ∀ k t, sl[k]? = some t → VR C w.heap (nth s.vars k) (a.tmps.getD t undef)
  fl : ∀ t v, s.fl = some (t, v) → VR C w.heap v (a.tmps.getD t undef)
def okEnd (ops : List Oper) (ls : List Ln) (sl : List Nat) (r : Reg) : Bool :=
  (r.outs.all fun (k, d) => decide (d < ls.length) && match sl[k]? with | some t => slotOf ops ls (ls.length - 1 - d) == some t | none => true) &&
  ((List.range sl.length).all fun k => r.kills.any (· == k) || r.outs.any (·.1 == k) || (List.range ls.length).all fun j => match sl[k]?, dstAt ops j with | some t, some t' => t != t' | _, _ => true) &&
  (match r.fl with | some (t, d) => decide (d < ls.length) && slotOf ops ls (ls.length - 1 - d) == some t | none => true)
def okReg (P : Program) (draw : Bool) (ops : List Oper) (sl : List Nat) (nt : Nat) (r : Reg) : Bool :=
  ops.length == r.ls.length && ((List.range r.ls.length).all (okLine P draw (befs ops) ops r.ls sl nt)) && okEnd ops r.ls sl r && (!draw || ops.all fun o => match o.op with | .select .. => false | _ => true)
theorem zNLf {l : List AV} {k n : Nat} {x : AV} : nth (setN l k x) n = if n = k ∧ k < l.length then x else nth l n := by
  rw [zGlS, zwsJ, zGlS, List.getElem?_set]
  by_cases e : k = n
  · subst e
    by_cases h : k < l.length
    · simp [h]
    · simp [h, List.getElem?_eq_none (Nat.le_of_not_lt h)]
  · rw [if_neg e, if_neg (fun h => e h.1.symm)]
theorem z6KC {Q : AV → Prop} (hu : Q .und) {k : Nat} : ∀ (ks : List Nat) (vs : List AV), (k ∉ ks → Q (nth vs k)) → Q (nth (kills ks vs) k)
  | [], vs, h => h (by simp)
  | k' :: ks, vs, h => by
    unfold kills
    refine z6KC hu ks _ fun hk => ?_
    rw [zNLf]
    by_cases e : k = k' ∧ k' < vs.length
    · rw [if_pos e]; exact hu
    · rw [if_neg e]
      by_cases e' : k = k'
      · have : vs.length ≤ k := by omega
        rw [zGlS, List.getElem?_eq_none this]; exact hu
      · exact h (by simp [e', hk])
theorem zXop {Q : AV → Prop} (hu : Q .und) {env : List AV} {k : Nat} : ∀ (os : List (Nat × Nat)) (vs : List AV), (∀ d, (k, d) ∈ os → Q (nth env d)) → ((∀ d, (k, d) ∉ os) → Q (nth vs k)) → Q (nth (outs env os vs) k)
  | [], vs, _, h => h (by simp)
  | (k', d') :: os, vs, h1, h2 => by
    unfold outs
    refine zXop hu os _ (fun d hd => h1 d (by simp [hd])) fun hn => ?_
    rw [zNLf]
    by_cases e : k = k' ∧ k' < vs.length
    · rw [if_pos e]; exact h1 d' (by simp [e.1])
    · rw [if_neg e]
      by_cases e' : k = k'
      · have : vs.length ≤ k := by omega
        rw [zGlS, List.getElem?_eq_none this]; exact hu
      · exact h2 fun d hd => by
          rcases List.mem_cons.1 hd with h | h
          · simp at h; exact e' h.1
          · exact hn d h
section
variable {X : RC P} {C0 : Ctx} {w0 : World} {ds : List Deferred}
theorem Inv.full {D : Nat → Prop} {C : Ctx} {f : Nat} {a : Act} {w : World} (h : Inv X C0 w0 ds D C f a w) (hD : ∀ j, j < X.ls.length → D j) {r : Reg} (hr : r.ls = X.ls) (hend : okEnd X.ops X.ls X.sl r = true) {vs : List AV}
    (hvs : vs = X.vars) (fl : Option (Nat × AV)) (hfl : fl = match r.fl with | some (t, d) => some (t, nth (X.st X.ls.length).env d) | none => none) :
    ∃ ids I, Rel X.sl X.nt ds { vars := kills r.kills (outs (X.st X.ls.length).env r.outs vs), fl, σ := (X.st X.ls.length).σ } (ctxOf (X.st X.ls.length).σ ids I) a w ∧ Step C0 w0 (ctxOf (X.st X.ls.length).σ ids I) w := by
  subst hvs
  obtain ⟨f, hN⟩ : ∃ f, FrontN X D C f := by
    rcases h.fr with hN | ⟨lo, hi, hG, _⟩
    · exact ⟨_, hN⟩
    · exact ⟨_, hG.done fun k hk _ => hD k (X.eff_lt hk)⟩
  have hσ : (X.st X.ls.length).σ = (X.st f).σ := (X.same' (p := f) hN.fle (Nat.le_refl _) fun j h1 h2 => by
    cases hj : effAt X.ls j with
    | false => rfl
    | true => exact absurd (hD j h2) (hN.hi j h1 hj)).1
  obtain ⟨ids, g1, g2⟩ := hN.shows.take h.good
  rw [hσ]
  refine ⟨ids, C.I, ⟨g1, h.size, h.defers, fun k t hk => ?_, fun t v hv => ?_⟩, h.step.trans g2⟩
  · simp only [okEnd, Bool.and_eq_true, List.all_eq_true, decide_eq_true_eq] at hend
    obtain ⟨⟨e1, e2⟩, _⟩ := hend
    refine z6KC (Q := fun x => VR (ctxOf (X.st f).σ ids C.I) w.heap x (a.tmps.getD t undef)) (by unfold VR; trivial) _ _ fun hnk => ?_
    refine zXop (Q := fun x => VR (ctxOf (X.st f).σ ids C.I) w.heap x (a.tmps.getD t undef)) (by unfold VR; trivial) _ _ (fun d hd => ?_) fun hno => ?_
    · have := e1 _ hd
      simp only [hk, beq_iff_eq] at this
      rw [X.envAt (Nat.le_refl _) this.1]
      exact VR.mono g2.ev _ _ (h.tv _ t (hD _ (by omega)) this.2)
    · have hkl : k < X.sl.length := (List.getElem?_eq_some_iff.1 hk).1
      have := e2 k (List.mem_range.2 hkl)
      simp only [Bool.or_eq_true, List.any_eq_true, beq_iff_eq, List.all_eq_true, List.mem_range] at this
      rcases this with (⟨x, hx, rfl⟩ | ⟨x, hx, rfl⟩) | hd
      · exact absurd hx hnk
      · exact absurd hx (hno x.2)
      · refine VR.mono g2.ev _ _ (h.vv k t hk fun j hj hdj => ?_)
        have := hd j (h.below j hj)
        simp [hk, hdj] at this
  · simp only [okEnd, Bool.and_eq_true, List.all_eq_true, decide_eq_true_eq] at hend
    obtain ⟨_, e3⟩ := hend
    subst hfl
    simp only at hv
    cases hrf : r.fl with
    | none => simp [hrf] at hv
    | some td =>
      obtain ⟨t', d⟩ := td
      simp only [hrf, Option.some.injEq, Prod.mk.injEq] at hv
      obtain ⟨rfl, rfl⟩ := hv
      simp only [hrf, Bool.and_eq_true, decide_eq_true_eq, beq_iff_eq] at e3
      rw [X.envAt (Nat.le_refl _) e3.1]
      exact VR.mono g2.ev _ _ (h.tv _ t' (hD _ (by omega)) e3.2)
theorem zeIe {i : Nat} {D : Nat → Prop} (hdr : X.draw = true) {o : Oper} {l : Ln} (ho : X.ops[i]? = some o) (hF : Facts X i o l) (hcl : ∀ i j, D j → bfr X.draw X.bf i j = true → D i)
    (hd : ∀ e ∈ o.after.toList, Region.binds .any e = true → D e.on) : ∀ j, bfr X.draw X.bf j i = true → D j := fun j hj => by
  have hb := hF.bf
  simp only [okBf, hdr, if_true, Bool.and_eq_true, beq_iff_eq] at hb
  have hj' := hj
  simp only [bfr, hdr, if_true, hb.1, Option.getD_some] at hj'
  rcases z4lV X.bf j o.after.toList 0 hj' with h | ⟨e, h1, h2, h3⟩
  · simp at h
  · rcases h3 with rfl | h3
    · exact hd e h1 h2
    · exact hcl j e.on (hd e h1 h2) (by simp only [bfr, hdr, if_true]; exact h3)
theorem Inv.mk0 {ids : Nat → Nat} {I : Nat → Prop} {s : St} {a : Act} {w : World} (hv : X.vars = s.vars) (hσ : X.σ0 = s.σ) (h : Rel X.sl X.nt ds s (ctxOf s.σ ids I) a w) : Inv X (ctxOf s.σ ids I) w ds (fun _ => False) (ctxOf s.σ ids I) 0 a w := by
  refine ⟨h.good, Step.refl _ _, h.size, h.defers, fun _ h => h.elim, fun _ _ h => h.elim, fun _ _ h => h.elim, fun k t hk _ => by rw [hv]; exact h.vars k t hk, fun _ _ h => h.elim, fun _ _ _ _ _ _ _ h => h.elim, .inl ⟨Nat.zero_le _, fun _ h => absurd h (Nat.not_lt_zero _), fun _ _ _ h => h, ?_, fun h => absurd h (Nat.lt_irrefl _)⟩⟩
  rw [X.st0, hσ]
  exact zce0 _ _ _
theorem zFPh {Q : Exit → Act → World → Prop} (hdr : X.draw = false) (hQ : ∀ D C f a w, Inv X C0 w0 ds D C f a w → (∀ j, j < X.ls.length → D j) → Q .normal a w) :
    ∀ (k : Nat) (D : Nat → Prop) (C : Ctx) (f : Nat) (a : Act) (w : World), k ≤ X.ls.length → (∀ j, D j ↔ j < X.ls.length - k) → Inv X C0 w0 ds D C f a w → wpOps P X.ops.toArray Q (List.range' (X.ls.length - k) k) a w
  | 0, D, C, f, a, w, _, hD, h => by
    simp only [List.range'_zero, wpOps]
    exact hQ D C f a w h fun j hj => (hD j).2 (by omega)
  | k + 1, D, C, f, a, w, hk, hD, h => by
    rw [List.range'_succ, wpOps_cons]
    have e : X.ls.length - (k + 1) + 1 = X.ls.length - k := by omega
    rw [e]
    have hbf : ∀ j, bfr X.draw X.bf j (X.ls.length - (k + 1)) = true → D j := fun j hj => (hD j).2 (by
      simp only [bfr, hdr, Bool.false_eq_true, if_false, decide_eq_true_eq] at hj
      exact hj)
    refine wpOp_mono (fun a' w' ⟨C', f', h'⟩ => zFPh hdr hQ k _ C' f' a' w' (by omega) (fun j => ?_) h') (h.next (i := X.ls.length - (k + 1)) (by omega) (fun hd => by have := (hD _).1 hd; omega) hbf Q)
    · constructor
      · rintro (q | rfl)
        · have := (hD j).1 q; omega
        · omega
      · intro q
        by_cases e' : j = X.ls.length - (k + 1)
        · exact .inr e'
        · exact .inl ((hD j).2 (by omega))
theorem z53Y {Q : Exit → Act → World → Prop} (hdr : X.draw = true) (hQ : ∀ D C f a w, Inv X C0 w0 ds D C f a w → (∀ j, j < X.ls.length → D j) → Q .normal a w) :
    ∀ (k : Nat) (listed : Array Bool) (C : Ctx) (f : Nat) (a : Act) (w : World), listed.size = X.ls.length → (listed.toList.filter (· == false)).length ≤ k → Inv X C0 w0 ds (fun j => listed[j]? = some true) C f a w →
      wpAny P .any X.ops.toArray Q k listed a w := by
  have hnil : ∀ (listed : Array Bool), listed.size = X.ls.length → Region.ready .any X.ops.toArray listed = [] → ∀ j, j < X.ls.length → listed[j]? = some true := by
    intro listed hs hr j
    induction j using Nat.strongRecOn with
    | ind j ih =>
      intro hj
      obtain ⟨o, l, ho, hl, hF⟩ := X.at_ hj
      have hb := hF.bf
      simp only [okBf, hdr, if_true, Bool.and_eq_true, List.all_eq_true, Bool.or_eq_true, Bool.not_eq_true', decide_eq_true_eq] at hb
      have hnot : j ∉ Region.ready .any X.ops.toArray listed := by rw [hr]; simp
      simp only [Region.ready, List.mem_filter, List.mem_range, List.size_toArray, X.len, Array.getD_eq_getD_getElem?, List.getElem?_toArray, ho, Option.map_some, Option.getD_some, Bool.and_eq_true, Bool.not_eq_true', not_and] at hnot
      cases hlj : listed[j]? with
      | none => rw [Array.getElem?_eq_none_iff] at hlj; omega
      | some b =>
        cases b with
        | true => rfl
        | false =>
          exfalso
          refine absurd ?_ (hnot hj (by rw [hlj]; rfl))
          rw [← Array.all_toList]
          simp only [List.all_eq_true, Bool.or_eq_true, Bool.not_eq_true']
          intro e he
          cases hbe : Region.binds .any e with
          | false => exact .inl rfl
          | true =>
            right
            have hlt : e.on < j := (hb.2 e he).resolve_left (by rw [hbe]; simp)
            rw [ih e.on hlt (by omega)]; rfl
  have hin : ∀ (listed : Array Bool) i, listed.size = X.ls.length → i ∈ Region.ready .any X.ops.toArray listed → i < X.ls.length ∧ listed[i]? = some false ∧ ∀ o, X.ops[i]? = some o → ∀ e ∈ o.after.toList, Region.binds .any e = true → listed[e.on]? = some true := by
    intro listed i hs hi
    simp only [Region.ready, List.mem_filter, List.mem_range, List.size_toArray, X.len, Array.getD_eq_getD_getElem?, List.getElem?_toArray, Bool.and_eq_true, Bool.not_eq_true'] at hi
    obtain ⟨h1, h2, h3⟩ := hi
    refine ⟨h1, ?_, fun o ho e he hbe => ?_⟩
    · cases hli : listed[i]? with
      | none => rw [Array.getElem?_eq_none_iff] at hli; omega
      | some b => rw [hli] at h2; simp at h2; rw [h2]
    · rw [ho] at h3
      simp only [Option.map_some, Option.getD_some] at h3
      rw [← Array.all_toList] at h3
      simp only [List.all_eq_true, Bool.or_eq_true, Bool.not_eq_true'] at h3
      rcases h3 e he with h | h
      · rw [hbe] at h; simp at h
      · cases hle : listed[e.on]? with
        | none => rw [hle] at h; simp at h
        | some b => rw [hle] at h; simp at h; rw [h]
  intro k
  induction k with
  | zero =>
    intro listed C f a w hs hk h
    have hall : ∀ j, j < X.ls.length → listed[j]? = some true := fun j hj => by
      cases hlj : listed[j]? with
      | none => rw [Array.getElem?_eq_none_iff] at hlj; omega
      | some b =>
        cases b with
        | true => rfl
        | false =>
          have : false ∈ listed.toList.filter (· == false) := by
            rw [List.mem_filter]
            exact ⟨by rw [Array.mem_toList_iff]; exact Array.mem_of_getElem? hlj, rfl⟩
          have := List.length_pos_of_mem this
          omega
    refine ⟨?_, hQ _ C f a w h hall⟩
    cases hr : Region.ready .any X.ops.toArray listed with
    | nil => rfl
    | cons i r =>
      obtain ⟨h1, h2, _⟩ := hin listed i hs (by rw [hr]; simp)
      rw [hall i h1] at h2; simp at h2
  | succ k ih =>
    intro listed C f a w hs hk h
    refine ⟨fun hr => hQ _ C f a w h (hnil listed hs hr), fun i hi => ?_⟩
    obtain ⟨h1, h2, h3⟩ := hin listed i hs hi
    obtain ⟨o, l, ho, hl, hF⟩ := X.at_ h1
    have hilt : i < listed.size := by omega
    refine wpOp_mono (fun a' w' ⟨C', f', h'⟩ => ih _ C' f' a' w' (by simp [hs]) ?_ ?_) (h.next h1 (by rw [h2]; simp) (zeIe hdr ho hF h.closed (h3 o ho)) Q)
    · have hset : (listed.setIfInBounds i true).toList = listed.toList.set i true := by simp
      rw [hset]
      have hcnt : ∀ (l : List Bool) (n : Nat), l[n]? = some false → ((l.set n true).filter (· == false)).length + 1 = (l.filter (· == false)).length := by
        intro l
        induction l with
        | nil => intro n hn; simp at hn
        | cons x r ih =>
          intro n hn
          cases n with
          | zero => simp at hn; subst hn; simp
          | succ n =>
            simp at hn
            have := ih n hn
            cases x <;> simp_all
      have := hcnt listed.toList i (by rw [Array.getElem?_toList]; exact h2)
      omega
    · have : (fun j => listed[j]? = some true ∨ j = i) = fun j => (listed.setIfInBounds i true)[j]? = some true := by
        funext j
        rw [Array.getElem?_setIfInBounds]
        by_cases e : i = j
        · subst e; simp [hilt]
        · have e' : j ≠ i := fun q => e q.symm
          simp [e, e']
      rw [← this]; exact h'
end
theorem zBFP {draw : Bool} {ops : List Oper} {sl : List Nat} {nt : Nat} {r : Reg} {ce : CE} {s s' : St} {id : Nat} {ds : List Deferred} {ids : Nat → Nat} {I : Nat → Prop} {a : Act} {w : World} {Q : Exit → Act → World → Prop} (hm : P.follows .mixedOrders = true)
    (hok : okReg P draw ops sl nt r = true) (hce : CallOk P ce) (hbd : HasBody P ce) (hr : runReg ce r s = some s') (h : Rel sl nt ds s (ctxOf s.σ ids I) a w)
    (hQ : ∀ ids' I' a' w', Rel sl nt ds s' (ctxOf s'.σ ids' I') a' w' → Step (ctxOf s.σ ids I) w (ctxOf s'.σ ids' I') w' → Q .normal a' w') : (Code.region id ops.toArray draw).wp P Q a w := by
  simp only [okReg, Bool.and_eq_true, beq_iff_eq, List.all_eq_true, List.mem_range] at hok
  obtain ⟨⟨⟨o1, o2⟩, o3⟩, _⟩ := hok
  unfold runReg at hr
  cases hl : lines ce s.vars r.ls ⟨[], s.σ, s.σ⟩ with
  | none => simp [hl] at hr
  | some q =>
    simp only [hl, Option.some.injEq] at hr
    obtain ⟨st, e0, en, hst⟩ := zFWA hl
    let X : RC P := ⟨draw, befs ops, ops, r.ls, sl, nt, ce, s.vars, s.σ, st, o1, o2, e0, hst, hce, hbd⟩
    have fin : ∀ (w1 : World) (hw : Step (ctxOf s.σ ids I) w (ctxOf s.σ ids I) w1) D C f a w', Inv X (ctxOf s.σ ids I) w1 ds D C f a w' → (∀ j, j < X.ls.length → D j) → Q .normal a w' := by
      intro w1 hw D C f a' w' hi hD
      obtain ⟨ids', I', k1, k2⟩ := hi.full hD (r := r) rfl o3 (vs := s.vars) rfl _ rfl
      have e : (X.st X.ls.length) = q := en
      rw [e] at k1 k2
      rw [← hr] at hQ
      exact hQ ids' I' a' w' k1 (hw.trans k2)
    cases draw with
    | false =>
      refine wp_region ?_
      have := zFPh (X := X) (Q := Q) rfl (fin w (Step.refl _ _)) X.ls.length (fun _ => False) _ 0 a w (Nat.le_refl _) (fun j => by simp) (Inv.mk0 rfl rfl h)
      rw [Nat.sub_self] at this
      rw [List.size_toArray, o1, List.range_eq_range']
      exact this
    | true =>
      refine wp_region_any hm ?_
      have hd : Step (ctxOf s.σ ids I) w (ctxOf s.σ ids I) { w with drawn := w.drawn + 1 } := ⟨Evol.refl _ _, Nat.le_refl _, fun _ _ _ => rfl, fun _ h => .inl h, fun _ h => .inl h, rfl, ⟨rfl, Nat.le_succ _⟩, rfl⟩
      have h' : Rel sl nt ds s (ctxOf s.σ ids I) a { w with drawn := w.drawn + 1 } := ⟨⟨h.good.I, h.good.ent, h.good.live, h.good.apart, h.good.maps⟩, h.size, h.defers, h.vars, h.fl⟩
      rw [List.size_toArray, o1]
      refine z53Y (X := X) rfl (fin _ hd) r.ls.length (Array.replicate r.ls.length false) (ctxOf s.σ ids I) 0 a _ (by simp [X]) (Nat.le_trans (List.length_filter_le _ _) (by simp)) ?_
      have e : (fun _ : Nat => False) = fun j : Nat => (Array.replicate r.ls.length false)[j]? = some true := by
        funext j
        simp [Array.getElem?_replicate]
      rw [← e]
      exact Inv.mk0 rfl rfl h'
end Ab
namespace Ab
open Go
theorem zDjF {p : Nat → Bool} : ∀ {σ : List Blk} {n b : Nat}, blk (dieIf p n σ) b = (blk σ b).map fun B => if p (n + b) then ⟨B.k, B.cells, .dead⟩ else B
  | [], _, _ => rfl
  | B :: r, n, 0 => by simp [dieIf, blk]
  | B :: r, n, b + 1 => by
    simp only [dieIf, blk]
    rw [zDjF, show n + 1 + b = n + (b + 1) by omega]
theorem zwFg {p : Nat → Bool} {σ : List Blk} {ids : Nat → Nat} {I I' : Nat → Prop} {b u : Nat} {e : Blk × Nat} : (ctxOf (dieIf p 0 σ) ids I').own b u = some e ↔ p b = false ∧ (ctxOf σ ids I).own b u = some e := by
  simp only [ctxOf, zDjF, Nat.zero_add]
  cases hb : blk σ b with
  | none => simp
  | some B =>
    simp only [Option.map_some]
    cases hp : p b with
    | true => simp
    | false => simp
theorem zwCw {p : Nat → Bool} {σ : List Blk} {ids ids' : Nat → Nat} {I I' : Nat → Prop} {b u : Nat} : (ctxOf (dieIf p 0 σ) ids I').lim b u ↔ (ctxOf σ ids' I).lim b u := by
  simp only [ctxOf, zDjF, Nat.zero_add]
  cases hb : blk σ b with
  | none => simp
  | some B =>
    cases hp : p b <;> simp [hp]
theorem zVrS {σ : List Blk} {ids : Nat → Nat} {I : Nat → Prop} {w : World} {x y : AV} {v : Value} (p : Nat → Bool) (hg : Good (ctxOf σ ids I) w) (hv : view (dieIf (fun b => !p b) 0 σ) false vd x = some y) (hx : VR (ctxOf σ ids I) w.heap x v) :
    ∃ I', Good (ctxOf (dieIf p 0 σ) ids I') w ∧ Step (ctxOf σ ids I) w (ctxOf (dieIf p 0 σ) ids I') w ∧ VR (ctxOf (dieIf p 0 σ) ids I') w.heap y v := by
  let I' : Nat → Prop := fun k => I k ∨ owned (ctxOf (dieIf (fun b => !p b) 0 σ) ids I) k
  obtain ⟨g1, g2⟩ := Good.shrink (C2 := ctxOf (dieIf (fun b => !p b) 0 σ) ids I) hg rfl (fun b u e h => (zwFg.1 h).2) (fun b u h => zwCw.2 h)
  have hOI : ∀ k, owned (ctxOf (dieIf (fun b => !p b) 0 σ) ids I) k → owned (ctxOf σ ids I) k := fun k ⟨b, u, B, h, hl⟩ => ⟨b, u, B, (zwFg.1 h).2, hl⟩
  have ev : Evol (ctxOf σ ids I) w.heap (ctxOf (dieIf p 0 σ) ids I') w.heap := by
    refine ⟨fun k hk => .inl hk, fun _ _ => rfl, fun b u h => zwCw.2 h, fun b u B' id _ ho => ⟨B', (zwFg.1 ho).2, rfl, rfl, fun c el hc => ⟨c, hc, rfl⟩⟩⟩
  refine ⟨I', ⟨fun k hk => hk.elim (hg.I k) fun h => hg.lt (hOI k h), fun b u B id ho => ?_, fun b u B id ho hl => ?_, fun b1 u1 B1 i1 b2 u2 B2 i2 h1 l1 h2 l2 hne => hg.apart _ _ _ _ _ _ _ _ (zwFg.1 h1).2 l1 (zwFg.1 h2).2 l2 hne, fun b u B id es ho hl => ?_⟩,
    ⟨ev, Nat.le_refl _, fun _ _ _ => rfl, fun k ⟨b, u, B, h, hl⟩ => .inl ⟨b, u, B, (zwFg.1 h).2, hl⟩, fun k hk => hk.elim .inl fun h => .inr (.inl (hOI k h)), rfl, ⟨rfl, Nat.le_refl _⟩, rfl⟩, ?_⟩
  · obtain ⟨h1, h2, h3, h4⟩ := hg.ent b u B id (zwFg.1 ho).2
    exact ⟨zwCw.2 h1, h2, h3, h4⟩
  · obtain ⟨q1, q2⟩ := (zwFg (I := I)).1 ho
    obtain ⟨h1, c, el, h2, h3, h4⟩ := hg.live b u B id q2 hl
    refine ⟨fun hk => ?_, c, el, h2, h3, fun i x hi => ?_⟩
    · rcases hk with hk | ⟨b', u', B', ho', hl'⟩
      · exact h1 hk
      · obtain ⟨r1, r2⟩ := (zwFg (I := I)).1 ho'
        have hbb : b' ≠ b := fun e => by
          subst e
          rw [q1] at r1; simp at r1
        exact hg.apart _ _ _ _ _ _ _ _ r2 hl' q2 (zL4e hl) hbb rfl
    · obtain ⟨y, k1, k2, k3⟩ := h4 i x hi
      exact ⟨y, k1, VR.mono ev _ _ k2, k3⟩
  · obtain ⟨q1, q2⟩ := (zwFg (I := I)).1 ho
    refine hg.maps_keep (C' := ctxOf (dieIf p 0 σ) ids I') ev.imm ev.same q2 hl rfl fun hk => ?_
    rcases hk with hk | ⟨b', u', B', ho', hl'⟩
    · exact (hg.maps b u B id es q2 hl).1 hk
    · obtain ⟨r1, r2⟩ := (zwFg (I := I)).1 ho'
      have hbb : b' ≠ b := fun e => by
        subst e
        rw [q1] at r1; simp at r1
      exact hg.apart _ _ _ _ _ _ _ _ r2 hl' q2 (z9Su hl) hbb rfl
  · exact (zQUp (C2 := ctxOf (dieIf p 0 σ) ids I') (fun b u B hu => ⟨_, z1nM ids I hu⟩) g1 (fr := false) ⟨fun _ k hk => .inl hk, fun k hk => .inr hk⟩ vd x y v hv (VR.mono g2.ev _ _ hx)).2
def nnOf : AV → AV
  | .imm _ l => .imm true l
  | x => x
theorem zg2u {σ : List Blk} {ids : Nat → Nat} {I : Nat → Prop} {w : World} {x y : AV} {v : Value} {C2 : Ctx} (hs : surely σ x = true) (hx : VR (ctxOf σ ids I) w.heap x v) (hy : VR C2 w.heap y v) :
    VR C2 w.heap (nnOf y) v := by
  have hne : v ≠ .slice none 0 0 := by
    cases x <;> simp only [surely] at hs <;> try (simp at hs; done)
    · rename_i nn l
      subst hs
      unfold VR at hx
      rcases hx.2 with ⟨_, a, h, hs⟩ | ⟨_, _, _, _, _, _, _, h, _⟩
      · obtain ⟨q, rfl⟩ := Option.isSome_iff_exists.1 (hs rfl); rw [h]; simp
      · rw [h]; simp
    · rename_i b u off len
      cases hu : upto σ b u with
      | none => simp [hu] at hs
      | some B =>
        simp only [hu] at hs
        have hl : B.st = .live := by revert hs; cases B.st <;> simp
        unfold VR at hx
        have := hx.2.2 B _ (z1nM ids I hu)
        rw [hl] at this
        obtain ⟨c, el, o, cap, _, e, _⟩ := this
        rw [e]; simp
  cases y with
  | imm nn l =>
    unfold nnOf
    unfold VR at hy ⊢
    refine ⟨hy.1, ?_⟩
    rcases hy.2 with h | h
    · obtain ⟨h1, a, h2, _⟩ := h
      refine .inl ⟨h1, a, h2, fun _ => ?_⟩
      cases a with
      | none => exact absurd h2 hne
      | some q => rfl
    · exact .inr h
  | _ => exact hy
theorem zalx {C C2 : Ctx} {H : Array Obj} {q : AV → Bool} (hq : ∀ x v, q x = true → VR C H x v → VR C2 H x v) : ∀ {l : List AV} {vs : List Value}, l.all q = true → VRL C H l vs → VRL C2 H l vs
  | [], _, _, h => h
  | x :: r, _, ha, ⟨v, s, e, hx, hr⟩ => by
    simp only [List.all_cons, Bool.and_eq_true] at ha
    exact ⟨v, s, e, hq x v ha.1 hx, zalx hq ha.2 hr⟩
theorem zgoS {C C2 : Ctx} {H : Array Obj} {m : Nat} (hI : C2.I = C.I) (ho : ∀ b u e, b < m → C2.own b u = some e → C.own b u = some e) (hl : ∀ b u, b < m → C.lim b u → C2.lim b u) :
    ∀ (x : AV) (v : Value), lowv m x = true → VR C H x v → VR C2 H x v := by
  have hsub : ISub C H C2 H := ⟨fun k h => by rw [hI]; exact h, fun _ _ => rfl⟩
  have hsl : ∀ b u off len v, b < m → VR C H (.sl b u off len) v → VR C2 H (.sl b u off len) v := fun b u off len v hb h => by
    unfold VR at h ⊢
    exact ⟨h.1, hl b u hb h.2.1, fun B id hob => h.2.2 B id (ho b u _ hb hob)⟩
  have hpt : ∀ b u off v, b < m → VR C H (.ptr b u off) v → VR C2 H (.ptr b u off) v := fun b u off v hb h => by
    unfold VR at h ⊢
    exact ⟨h.1, hl b u hb h.2.1, fun B id hob => h.2.2 B id (ho b u _ hb hob)⟩
  have hmp : ∀ b v, b < m → VR C H (.mapr b) v → VR C2 H (.mapr b) v := fun b v hb h => by
    unfold VR at h ⊢
    exact ⟨h.1, hl b 0 hb h.2.1, fun B id hob => h.2.2 B id (ho b 0 _ hb hob)⟩
  have hel : ∀ (x : AV) v, lowe m x = true → VR C H x v → VR C2 H x v := fun x v hx h => by
    cases x with
    | mapr b => exact hmp b v (by simpa [lowe] using hx) h
    | sl b u off len => exact hsl b u off len v (by simpa [lowe] using hx) h
    | ptr b u off => exact hpt b u off v (by simpa [lowe] using hx) h
    | und => unfold VR; trivial
    | _ => exact VR.free hsub _ _ (by simpa [lowe] using hx) h
  intro x v hx h
  cases x with
  | sl b u off len => exact hsl b u off len v (by simpa [lowv] using hx) h
  | ptr b u off => exact hpt b u off v (by simpa [lowv] using hx) h
  | mapr b => exact hmp b v (by simpa [lowv] using hx) h
  | und => unfold VR; trivial
  | arr l => simp [lowv] at hx
  | agg l =>
    unfold VR at h ⊢
    obtain ⟨vs, e, hl', hc⟩ := h
    exact ⟨vs, e, zalx hel hx hl', hc⟩
  | tup l =>
    unfold VR at h ⊢
    obtain ⟨vs, e, hl'⟩ := h
    exact ⟨vs, e, zalx hel hx hl'⟩
  | func f l =>
    unfold VR at h ⊢
    obtain ⟨vs, e, hl'⟩ := h
    exact ⟨vs, e, zalx hel hx hl'⟩
  | iface t y => exact VR.free hsub _ _ (by simpa [lowv, noLoc] using hx) h
  | imm nn l =>
    have : noLocs l = true := by unfold VR at h; exact h.1
    exact VR.free hsub _ _ (by simpa [noLoc] using this) h
  | pimm y =>
    have : noLoc y = true := by unfold VR at h; exact h.1
    exact VR.free hsub _ _ (by simpa [noLoc] using this) h
  | _ => exact VR.free hsub _ _ rfl h
theorem zBIT {n : Nat} : ∀ {m : Nat} {σ : List Blk}, lowB n m σ = true → ∀ b B, b < m → blk σ b = some B → B.cells.all (lowv n) = true
  | 0, _, _, b, _, hb, _ => absurd hb (Nat.not_lt_zero b)
  | m + 1, [], _, b, B, _, h => by simp [blk] at h
  | m + 1, B0 :: r, h, b, B, hb, hB => by
    simp only [lowB, Bool.and_eq_true] at h
    cases b with
    | zero => simp [blk] at hB; subst hB; exact h.1
    | succ b => exact zBIT h.2 b B (by omega) (by simpa [blk] using hB)
theorem zj3w {σ : List Blk} {m b : Nat} : blk (σ.take m) b = if b < m then blk σ b else none := by
  rw [zzWB, zzWB, List.getElem?_take]
theorem zrov {σ σ' : List Blk} {ids ids' : Nat → Nat} {I I' : Nat → Prop} {w w' : World} (hg : Good (ctxOf σ' ids' I') w') (hs : Step (ctxOf σ ids I) w (ctxOf σ' ids' I') w') (hl : lowB σ.length σ.length σ' = true) :
    Good (ctxOf (σ'.take σ.length) ids' I') w' ∧ Step (ctxOf σ ids I) w (ctxOf (σ'.take σ.length) ids' I') w' ∧ ∀ x v, lowv σ.length x = true → VR (ctxOf σ' ids' I') w'.heap x v → VR (ctxOf (σ'.take σ.length) ids' I') w'.heap x v := by
  have hown : ∀ b u e, (ctxOf (σ'.take σ.length) ids' I').own b u = some e → b < σ.length ∧ (ctxOf σ' ids' I').own b u = some e := fun b u e h => by
    simp only [ctxOf, zj3w] at h ⊢
    by_cases hb : b < σ.length
    · simp only [hb, if_true] at h; exact ⟨hb, h⟩
    · simp [hb] at h
  have hlim : ∀ b u, b < σ.length → (ctxOf σ' ids' I').lim b u → (ctxOf (σ'.take σ.length) ids' I').lim b u := fun b u hb ⟨B, h1, h2⟩ => ⟨B, by rw [zj3w, if_pos hb]; exact h1, h2⟩
  have low := zgoS (H := w'.heap) (m := σ.length) (C := ctxOf σ' ids' I') (C2 := ctxOf (σ'.take σ.length) ids' I') rfl (fun b u e _ h => (hown b u e h).2) hlim
  have hlt : ∀ b u, (ctxOf σ ids I).lim b u → b < σ.length := fun b u ⟨B, h1, _⟩ => by rw [zzWB] at h1; exact (List.getElem?_eq_some_iff.1 h1).1
  refine ⟨⟨hg.I, fun b u B id ho => ?_, fun b u B id ho hlv => ?_, fun b1 u1 B1 i1 b2 u2 B2 i2 h1 l1 h2 l2 hne => hg.apart _ _ _ _ _ _ _ _ (hown _ _ _ h1).2 l1 (hown _ _ _ h2).2 l2 hne, fun b u B id es ho hlv => hg.maps_keep (C' := ctxOf (σ'.take σ.length) ids' I') (fun _ h => h) (fun _ _ => rfl) (hown _ _ _ ho).2 hlv rfl (hg.maps b u B id es (hown _ _ _ ho).2 hlv).1⟩,
    ⟨⟨hs.ev.imm, hs.ev.same, fun b u h => hlim b u (hlt b u h) (hs.ev.lim b u h), fun b u B' id h ho => hs.ev.own b u B' id h (hown _ _ _ ho).2⟩, hs.size, hs.frame, fun k ⟨b, u, B, h, hl⟩ => hs.ownOrig k ⟨b, u, B, (hown _ _ _ h).2, hl⟩, hs.immOrig, hs.os, hs.tape, hs.output⟩, low⟩
  · obtain ⟨hb, ho'⟩ := hown _ _ _ ho
    obtain ⟨h1, h2, h3, h4⟩ := hg.ent b u B id ho'
    exact ⟨hlim b u hb h1, h2, h3, h4⟩
  · obtain ⟨hb, ho'⟩ := hown _ _ _ ho
    obtain ⟨h1, c, el, h2, h3, h4⟩ := hg.live b u B id ho' hlv
    obtain ⟨hB, _⟩ := zvxc ho'
    have hall := zBIT hl b B hb hB
    refine ⟨h1, c, el, h2, h3, fun i x hi => ?_⟩
    obtain ⟨y, k1, k2, k3⟩ := h4 i x hi
    exact ⟨y, k1, low x y (List.all_eq_true.1 hall x (List.mem_of_getElem? hi)) k2, k3⟩
end Ab
namespace Ab
open Go
variable {P : Program}
def okC (P : Program) (sl : List Nat) (nt : Nat) : IC → Code → Bool
  | .skip, .skip => true
  | .skip, .label _ => true
  | .bad, _ => true
  | .cut b a, .cond (.const (.bool b')) x y => b == b' && okC P sl nt a (if b then x else y)
  | .scp a, .scope x => okC P sl nt a x
  | .reg r, .region _ ops draw => okReg P draw ops.toList sl nt r
  | .seq a b, c => match b with
    | .frz k => decide (k < sl.length) && okC P sl nt a c
    | _ => match c with
      | .seq x y => okC P sl nt a x && okC P sl nt b y
      | _ => false
  | .cond t a b, .cond (.tmp t') x y => t == t' && okC P sl nt a x && okC P sl nt b y
  | .condv k a b, .cond (.tmp t) x y => sl[k]? == some t && okC P sl nt a x && okC P sl nt b y
  | .block id a, .block id' x => id == id' && okC P sl nt a x
  | .loop a, .loop x => okC P sl nt a x
  | .exit id, .exit id' => id == id'
  | .ret, .ret => true
  | .lex a, c => okC P sl nt a c
  | _, _ => false
def exOf : Ex → Exit
  | .nor => .normal
  | .exit id => .exit id
  | .ret => .ret
theorem least {p : Nat → Prop} : ∀ {n : Nat}, p n → ∃ k, p k ∧ ∀ m, m < k → ¬ p m := by
  intro n
  induction n using Nat.strongRecOn with
  | ind n ih =>
    intro h
    by_cases hm : ∃ m, m < n ∧ p m
    · obtain ⟨m, h1, h2⟩ := hm
      exact ih m h1 h2
    · exact ⟨n, h, fun m h1 h2 => hm ⟨m, h1, h2⟩⟩
open Classical in
theorem zdRp {c : Code} {Q : Exit → Act → World → Prop} {a : Act} {w : World} (J : Nat → Act → World → Prop) {k : Nat} (h0 : J k a w) (hz : ∀ a w, ¬ J 0 a w) (round : ∀ k a w, J (k + 1) a w → c.wp P (Exit.then (J k) Q) a w) : (Code.loop c).wp P Q a w := by
  let μ : Act → World → Nat := fun a w => if h : ∃ k, J k a w ∧ ∀ m, m < k → ¬ J m a w then choose h else 0
  have hμ : ∀ a w k, J k a w → J (μ a w) a w ∧ μ a w ≤ k := fun a w k hk => by
    have h := least (p := fun k => J k a w) hk
    have e : μ a w = choose h := dif_pos h
    have hs := choose_spec h
    rw [e]
    exact ⟨hs.1, Nat.le_of_not_lt fun hlt => hs.2 k hlt hk⟩
  refine wp_loop (fun a w => ∃ k, J k a w) μ ⟨k, h0⟩ fun a w ⟨k, hk⟩ => ?_
  obtain ⟨h1, _⟩ := hμ a w k hk
  generalize hm : μ a w = m at h1
  cases m with
  | zero => exact absurd h1 (hz a w)
  | succ m =>
    refine wp_mono (round m a w h1) fun e a' w' he => ?_
    cases e with
    | normal => exact ⟨⟨m, he⟩, Nat.lt_succ_of_le (hμ a' w' m he).2⟩
    | _ => exact he
theorem zdXt {sl : List Nat} {nt : Nat} {ds : List Deferred} {n : Nat} {ce : CE} (hm : P.follows .mixedOrders = true) (hce : CallOk P ce) (hbd : HasBody P ce) :
    ∀ (ic : IC) (c : Code) (s : St) (e : Ex) (s' : St) (ids : Nat → Nat) (I : Nat → Prop) (a : Act) (w : World) (Q : Exit → Act → World → Prop), okC P sl nt ic c = true → exec n ce ic s = some (e, s') → Rel sl nt ds s (ctxOf s.σ ids I) a w →
      (∀ ids' I' a' w', Rel sl nt ds s' (ctxOf s'.σ ids' I') a' w' → Step (ctxOf s.σ ids I) w (ctxOf s'.σ ids' I') w' → Q (exOf e) a' w') → c.wp P Q a w := by
  intro ic
  induction ic with
  | skip =>
    intro c s e s' ids I a w Q hok he h hQ
    cases c <;> try (simp [okC] at hok; done)
    · simp only [exec, Option.some.injEq, Prod.mk.injEq] at he
      obtain ⟨rfl, rfl⟩ := he
      exact wp_skip (hQ ids I a w h (Step.refl _ _))
    · simp only [exec, Option.some.injEq, Prod.mk.injEq] at he
      obtain ⟨rfl, rfl⟩ := he
      exact wp_label (hQ ids I a w h (Step.refl _ _))
  | bad =>
    intro c s e s' ids I a w Q hok he h hQ
    simp [exec] at he
  | cut b x ih =>
    intro c s e s' ids I a w Q hok he h hQ
    cases c <;> try (simp [okC] at hok; done)
    rename_i c0 x' y'
    cases c0 <;> try (simp [okC] at hok; done)
    rename_i v
    cases v <;> try (simp [okC] at hok; done)
    rename_i b'
    simp only [okC, Bool.and_eq_true, beq_iff_eq] at hok
    obtain ⟨rfl, hok⟩ := hok
    simp only [exec] at he
    refine wp_cond (t := b) rfl ?_
    exact ih _ s e s' ids I a w Q hok he h hQ
  | scp x ih =>
    intro c s e s' ids I a w Q hok he h hQ
    cases c <;> try (simp [okC] at hok; done)
    rename_i c
    simp only [okC] at hok
    simp only [exec] at he
    refine wp_scope_straight ?_
    refine ih c s e s' ids I a w _ hok he h fun ids' I' a' w' h' st' => ?_
    have := hQ ids' I' a' w' h' st'
    cases e <;> exact this
  | reg r =>
    intro c s e s' ids I a w Q hok he h hQ
    cases c <;> try (simp [okC] at hok; done)
    rename_i id ops draw
    simp only [exec] at he
    cases hr : runReg ce r s with
    | none => simp [hr] at he
    | some s1 =>
      simp only [hr, Option.some.injEq, Prod.mk.injEq] at he
      obtain ⟨rfl, rfl⟩ := he
      simp only [okC] at hok
      have := zBFP (id := id) (Q := Q) hm hok hce hbd hr h hQ
      rwa [Array.toArray_toList] at this
  | seq x y ihx ihy =>
    intro c s e s' ids I a w Q hok he h hQ
    simp only [exec] at he
    cases hx : exec n ce x s with
    | none => simp [hx] at he
    | some es =>
      obtain ⟨e1, s1⟩ := es
      simp only [hx] at he
      by_cases hf : ∃ k, y = .frz k
      · obtain ⟨k, rfl⟩ := hf
        simp only [okC, Bool.and_eq_true, decide_eq_true_eq] at hok
        obtain ⟨hk, hok⟩ := hok
        refine ihx c s e1 s1 ids I a w Q hok hx h fun ids1 I1 a1 w1 h1 st1 => ?_
        cases e1 with
        | nor =>
          simp only [exec] at he
          split at he
          case h_2 => simp at he
          rename_i v hv
          simp only [Option.some.injEq, Prod.mk.injEq] at he
          obtain ⟨rfl, rfl⟩ := he
          have hk' : ∃ t, sl[k]? = some t := ⟨_, List.getElem?_eq_getElem hk⟩
          · obtain ⟨t, ht⟩ := hk'
            obtain ⟨I2, g1, g2, g3⟩ := zVrS (fun b => (reach s1.σ vd (nth s1.vars k) []).contains b) h1.good hv (h1.vars k t ht)
            refine hQ ids1 I2 a1 w1 ⟨g1, h1.size, h1.defers, fun j t' hj => ?_, fun t' v' hv' => VR.mono g2.ev _ _ (h1.fl t' v' hv')⟩ (st1.trans g2)
            simp only
            rw [zNLf]
            by_cases e : j = k ∧ k < s1.vars.length
            · rw [if_pos e]
              have : t' = t := by rw [e.1, ht] at hj; simp at hj; exact hj.symm
              subst this
              by_cases hs : surely s1.σ (nth s1.vars k) = true
              · rw [if_pos hs]; exact zg2u hs (h1.vars k t' ht) g3
              · rw [if_neg hs]; exact g3
            · rw [if_neg e]
              exact VR.mono g2.ev _ _ (h1.vars j t' hj)
        | exit id => simp only [Option.some.injEq, Prod.mk.injEq] at he; obtain ⟨rfl, rfl⟩ := he; exact hQ ids1 I1 a1 w1 h1 st1
        | ret => simp only [Option.some.injEq, Prod.mk.injEq] at he; obtain ⟨rfl, rfl⟩ := he; exact hQ ids1 I1 a1 w1 h1 st1
      · have hok' : ∃ x' y', c = .seq x' y' ∧ okC P sl nt x x' = true ∧ okC P sl nt y y' = true := by
          unfold okC at hok
          split at hok
          · exact absurd ⟨_, rfl⟩ hf
          · split at hok
            · simp only [Bool.and_eq_true] at hok
              exact ⟨_, _, rfl, hok.1, hok.2⟩
            · simp at hok
        obtain ⟨x', y', rfl, ok1, ok2⟩ := hok'
        refine wp_seq (ihx x' s e1 s1 ids I a w _ ok1 hx h fun ids1 I1 a1 w1 h1 st1 => ?_)
        cases e1 with
        | nor => exact ihy y' s1 e s' ids1 I1 a1 w1 Q ok2 he h1 fun ids' I' a' w' h' st' => hQ ids' I' a' w' h' (st1.trans st')
        | exit id => simp only [Option.some.injEq, Prod.mk.injEq] at he; obtain ⟨rfl, rfl⟩ := he; exact hQ ids1 I1 a1 w1 h1 st1
        | ret => simp only [Option.some.injEq, Prod.mk.injEq] at he; obtain ⟨rfl, rfl⟩ := he; exact hQ ids1 I1 a1 w1 h1 st1
  | cond t x y ihx ihy =>
    intro c s e s' ids I a w Q hok he h hQ
    cases c <;> try (simp [okC] at hok; done)
    rename_i c0 x' y'
    cases c0 <;> try (simp [okC] at hok; done)
    rename_i t'
    simp only [okC, Bool.and_eq_true, beq_iff_eq] at hok
    obtain ⟨⟨rfl, ok1⟩, ok2⟩ := hok
    simp only [exec] at he
    split at he
    case h_2 => simp at he
    rename_i t1 b hfl
    by_cases e1 : t1 = t
    · subst e1
      simp only [beq_self_eq_true, if_true] at he
      have hb : a.eval (.tmp t1) = .bool b := h.fl t1 (.bool b) hfl
      have h' : Rel sl nt ds { s with fl := none } (ctxOf s.σ ids I) a w := ⟨h.good, h.size, h.defers, h.vars, fun _ _ q => by simp at q⟩
      refine wp_cond (t := b) hb ?_
      cases b with
      | true => exact ihx x' { s with fl := none } e s' ids I a w Q ok1 he h' hQ
      | false => exact ihy y' { s with fl := none } e s' ids I a w Q ok2 he h' hQ
    · have : (t1 == t) = false := by simpa using e1
      simp [this] at he
  | condv k x y ihx ihy =>
    intro c s e s' ids I a w Q hok he h hQ
    cases c <;> try (simp [okC] at hok; done)
    rename_i c0 x' y'
    cases c0 <;> try (simp [okC] at hok; done)
    rename_i t
    simp only [okC, Bool.and_eq_true, beq_iff_eq] at hok
    obtain ⟨⟨hk, ok1⟩, ok2⟩ := hok
    simp only [exec] at he
    split at he
    case h_2 => simp at he
    rename_i b hv
    have hb : a.eval (.tmp t) = .bool b := by
      have := h.vars k t hk
      rw [hv] at this
      exact this
    refine wp_cond (t := b) hb ?_
    cases b with
    | true => exact ihx x' s e s' ids I a w Q ok1 he h hQ
    | false => exact ihy y' s e s' ids I a w Q ok2 he h hQ
  | block id x ih =>
    intro c s e s' ids I a w Q hok he h hQ
    cases c <;> try (simp [okC] at hok; done)
    rename_i id' c
    simp only [okC, Bool.and_eq_true, beq_iff_eq] at hok
    obtain ⟨rfl, hok⟩ := hok
    simp only [exec] at he
    refine wp_block ?_
    cases hx : exec n ce x s with
    | none => simp [hx] at he
    | some es =>
      obtain ⟨e1, s1⟩ := es
      simp only [hx] at he
      refine ih c s e1 s1 ids I a w _ hok hx h fun ids1 I1 a1 w1 h1 st1 => ?_
      cases e1 with
      | nor => simp only [Option.some.injEq, Prod.mk.injEq] at he; obtain ⟨rfl, rfl⟩ := he; exact hQ ids1 I1 a1 w1 h1 st1
      | exit j =>
        simp only at he
        by_cases hj : j = id
        · subst hj
          simp only [beq_self_eq_true, if_true, Option.some.injEq, Prod.mk.injEq] at he
          obtain ⟨rfl, rfl⟩ := he
          simp only [exOf, Exit.inBlock, if_true]
          exact hQ ids1 I1 a1 w1 h1 st1
        · have : (j == id) = false := by simpa using hj
          simp only [this, Bool.false_eq_true, if_false, Option.some.injEq, Prod.mk.injEq] at he
          obtain ⟨rfl, rfl⟩ := he
          simp only [exOf, Exit.inBlock, hj, if_false]
          exact hQ ids1 I1 a1 w1 h1 st1
      | ret => simp only [Option.some.injEq, Prod.mk.injEq] at he; obtain ⟨rfl, rfl⟩ := he; exact hQ ids1 I1 a1 w1 h1 st1
  | loop x ih =>
    intro c s e s' ids I a w Q hok he h hQ
    cases c <;> try (simp [okC] at hok; done)
    rename_i c
    simp only [okC] at hok
    simp only [exec] at he
    refine zdRp (fun k a1 w1 => ∃ s1 ids1 I1, iter (exec n ce x) k s1 = some (e, s') ∧ Rel sl nt ds s1 (ctxOf s1.σ ids1 I1) a1 w1 ∧ Step (ctxOf s.σ ids I) w (ctxOf s1.σ ids1 I1) w1) (k := n) ⟨s, ids, I, he, h, Step.refl _ _⟩ (fun a1 w1 ⟨s1, _, _, h0, _⟩ => by simp [iter] at h0) ?_
    rintro k a1 w1 ⟨s1, ids1, I1, h1, r1, st1⟩
    simp only [iter] at h1
    cases hx : exec n ce x s1 with
    | none => simp [hx] at h1
    | some es =>
      obtain ⟨e2, s2⟩ := es
      simp only [hx] at h1
      refine ih c s1 e2 s2 ids1 I1 a1 w1 _ hok hx r1 fun ids2 I2 a2 w2 r2 st2 => ?_
      cases e2 with
      | nor => exact ⟨s2, ids2, I2, h1, r2, st1.trans st2⟩
      | exit j => simp only [Option.some.injEq, Prod.mk.injEq] at h1; obtain ⟨rfl, rfl⟩ := h1; exact hQ ids2 I2 a2 w2 r2 (st1.trans st2)
      | ret => simp only [Option.some.injEq, Prod.mk.injEq] at h1; obtain ⟨rfl, rfl⟩ := h1; exact hQ ids2 I2 a2 w2 r2 (st1.trans st2)
  | exit id =>
    intro c s e s' ids I a w Q hok he h hQ
    cases c <;> try (simp [okC] at hok; done)
    simp only [okC, beq_iff_eq] at hok
    subst hok
    simp only [exec, Option.some.injEq, Prod.mk.injEq] at he
    obtain ⟨rfl, rfl⟩ := he
    exact wp_exit (hQ ids I a w h (Step.refl _ _))
  | ret =>
    intro c s e s' ids I a w Q hok he h hQ
    cases c <;> try (simp [okC] at hok; done)
    simp only [exec, Option.some.injEq, Prod.mk.injEq] at he
    obtain ⟨rfl, rfl⟩ := he
    exact wp_ret (hQ ids I a w h (Step.refl _ _))
  | frz k =>
    intro c s e s' ids I a w Q hok he h hQ
    cases c <;> simp [okC] at hok
  | lex x ih =>
    intro c s e s' ids I a w Q hok he h hQ
    simp only [okC] at hok
    simp only [exec] at he
    cases hx : exec n ce x s with
    | none => simp [hx] at he
    | some es =>
      obtain ⟨e1, s1⟩ := es
      simp only [hx] at he
      refine ih c s e1 s1 ids I a w Q hok hx h fun ids1 I1 a1 w1 h1 st1 => ?_
      have go : (if (s1.vars.all (lowv s.σ.length) && lowB s.σ.length s.σ.length s1.σ && (match s1.fl with | some _ => false | none => true)) = true then some (e1, ({ s1 with σ := s1.σ.take s.σ.length } : St)) else none) = some (e, s') → Q (exOf e1) a1 w1 := fun he => by
        by_cases hc : (s1.vars.all (lowv s.σ.length) && lowB s.σ.length s.σ.length s1.σ && (match s1.fl with | some _ => false | none => true)) = true
        case neg => rw [if_neg hc] at he; simp at he
        rw [if_pos hc] at he
        simp only [Bool.and_eq_true] at hc
        obtain ⟨⟨c1, c2⟩, c3⟩ := hc
        simp only [Option.some.injEq, Prod.mk.injEq] at he
        obtain ⟨rfl, rfl⟩ := he
        obtain ⟨g1, g2, g3⟩ := zrov h1.good st1 c2
        refine hQ ids1 I1 a1 w1 ⟨g1, h1.size, h1.defers, fun j t hj => ?_, fun t v hv => ?_⟩ g2
        · refine g3 _ _ ?_ (h1.vars j t hj)
          rw [zGlS]
          cases hq : s1.vars[j]? with
          | none => rfl
          | some q => exact List.all_eq_true.1 c1 q (List.mem_of_getElem? hq)
        · simp only at hv
          rw [hv] at c3; simp at c3
      cases e1 with
      | nor => exact go he
      | exit j => exact go he
      | ret => simp only [Option.some.injEq, Prod.mk.injEq] at he; obtain ⟨rfl, rfl⟩ := he; exact hQ ids1 I1 a1 w1 h1 st1
end Ab
namespace Ab
open Go
variable {P : Program}
def okRes (P : Program) (sl : List Nat) : List ResultVar → List (Nat × Option (Option Nat)) → Bool
  | [], [] => true
  | .tmp t :: r, (k, none) :: s => sl[k]? == some t && okRes P sl r s
  | .cell a ty :: r, (k, some kd) :: s => sl[k]? == some a && kindIs P ty kd && okRes P sl r s
  | _, _ => false
def okFn (P : Program) (f : Nat) (fn : Fn) (sl : List Nat) : Bool :=
  match P.funcs[f]? with
  | some pf => bodied P f && (match pf.body with
    | some c => okC P sl pf.ntmps fn.body c && okRes P sl pf.results.toList fn.res && decide (fn.np ≤ pf.ntmps) && (List.range sl.length).all fun k => decide (fn.np ≤ k) || sl[k]? == some k
    | none => false)
  | none => false
def PrimOkV (P : Program) (f : Nat) (p : CE → List AV → Option AV) : Prop :=
  bodied P f = true ∧ ∀ ce, CallOk P ce → HasBody P ce → ∀ args x, p ce args = some x → ∀ (C : Ctx) (w : World) (vs : List Value), Good C w → VRL C w.heap args vs → Calls P f vs.toArray w fun e w' => ∃ v, e = .returned v ∧ PostP C w x v w'
def PrimOk (P : Program) (f : Nat) (p : CE → List AV → List Blk → Option (AV × List Blk)) : Prop :=
  bodied P f = true ∧ ∀ ce, CallOk P ce → HasBody P ce → ∀ args σ r σ', p ce args σ = some (r, σ') → ∀ (ids : Nat → Nat) (I : Nat → Prop) (w : World) (vs : List Value), Good (ctxOf σ ids I) w → VRL (ctxOf σ ids I) w.heap args vs →
    Calls P f vs.toArray w fun e w' => ∃ v ids' I', e = .returned v ∧ Good (ctxOf σ' ids' I') w' ∧ VR (ctxOf σ' ids' I') w'.heap r v ∧ Step (ctxOf σ ids I) w (ctxOf σ' ids' I') w'
theorem z4Wz {f : Nat} {p : CE → List AV → Option AV} (h : PrimOkV P f p) : PrimOk P f (vPrim p) := by
  refine ⟨h.1, fun ce h1 h2 args σ r σ' hp ids I w vs hg hv => ?_⟩
  simp only [vPrim, Option.map_eq_some_iff, Prod.mk.injEq] at hp
  obtain ⟨v, hp, rfl, rfl⟩ := hp
  refine (h.2 ce h1 h2 args v hp (ctxOf σ ids I) w vs hg hv).mono ?_
  rintro e w' ⟨v', rfl, I', h1, h2, h3⟩
  exact ⟨v', ids, I', rfl, h1, h3, h2⟩
theorem zSax {s : Sem Value} {w : World} {v : Value} (h : (do let x ← s; pure (Next.value x) : Sem Next).run P w = .ok (.value v) w) : s.run P w = .ok v w := by
  simp only [Sem.run_bind] at h
  cases hs : s.run P w with
  | ok a w' => rw [hs] at h; simp [Result.andThen] at h; obtain ⟨rfl, rfl⟩ := h; rfl
  | halt x w' => rw [hs] at h; simp [Result.andThen] at h
theorem zfPZ {C : Ctx} {w : World} {σ : List Blk} {x y : AV} {p : Option Pend} {kd : Option Nat} {ty : TypeId} {v : Value} (hk : kindIs P ty kd = true) (hg : Good C w) (hup : ∀ b u B, upto σ b u = some B → ∃ id, C.own b u = some (B, id)) (hx : VR C w.heap x v)
    (he : ev (fun _ _ _ => none) σ 0 [] (fun _ => x) (.ld (.v 0) kd) = some (y, p)) : ∃ z, (do loadVar ty (← asAddr v) : Sem Value).run P w = .ok z w ∧ VR C w.heap y z := by
  obtain ⟨⟨z, h1, h2⟩, _⟩ := pl_ld (P := P) (ρ := fun _ => v) (o := ⟨none, .load ty (.tmp 0), 0, "", #[], none⟩) (w := w) (C := C) rfl hk hg hup hx he
  have h3 := zSax (s := Instr.loadAt ty v) h1
  refine ⟨z, ?_, h2⟩
  have hp : ∃ a, v = .pointer (some a) := by
    simp only [ev] at he
    cases x <;> try (simp at he; done)
    · unfold VR at hx; obtain ⟨_, blk, off, _, _, _, _, e, _⟩ := hx; exact ⟨_, e⟩
    · unfold VR at hx; obtain ⟨⟨blk, e⟩, _⟩ := hx; exact ⟨_, e⟩
  obtain ⟨a, rfl⟩ := hp
  rw [← h3]
  simp only [Instr.loadAt, Instr.sureAddr, asAddr, Sem.run_bind, Sem.run_pure, Result.andThen_ok]
def resRun (tmps : Array Value) : ResultVar → Sem Value
  | .tmp t => pure (tmps.getD t undef)
  | .cell a t => do loadVar t (← asAddr (tmps.getD a undef))
theorem zTw3 (pf : Func) (tmps : Array Value) : Go.results pf tmps = (do
    let vs ← pf.results.mapM (resRun tmps)
    pure (if h : vs.size = 1 then vs[0] else .tuple vs)) := by
  unfold Go.results
  congr 2
theorem z7WW {sl : List Nat} {nt : Nat} {ds : List Deferred} {s : St} {ids : Nat → Nat} {I : Nat → Prop} {a : Act} {w : World} (h : Rel sl nt ds s (ctxOf s.σ ids I) a w) :
    ∀ (rs : List ResultVar) (qs : List (Nat × Option (Option Nat))) (xs : List AV), okRes P sl rs qs = true → mapO (resOf s) qs = some xs →
      ∃ vs, (rs.mapM (resRun a.tmps)).run P w = .ok vs w ∧ VRL (ctxOf s.σ ids I) w.heap xs vs
  | [], [], xs, _, hm => by
    simp [mapO] at hm; subst hm
    exact ⟨[], by simp, rfl⟩
  | .tmp t :: rs, (k, none) :: qs, xs, hok, hm => by
    simp only [okRes, Bool.and_eq_true, beq_iff_eq] at hok
    simp only [mapO, resOf] at hm
    cases hr : mapO (resOf s) qs with
    | none => simp [hr] at hm
    | some ys =>
      simp [hr] at hm; subst hm
      obtain ⟨vs, h1, h2⟩ := z7WW h rs qs ys hok.2 hr
      exact ⟨_ :: vs, by simp [List.mapM_cons, resRun, h1], _, _, rfl, h.vars k t hok.1, h2⟩
  | .cell q ty :: rs, (k, some kd) :: qs, xs, hok, hm => by
    simp only [okRes, Bool.and_eq_true, beq_iff_eq] at hok
    simp only [mapO, resOf] at hm
    cases he : ev (fun _ _ _ => none) s.σ 0 [] (fun _ => nth s.vars k) (.ld (.v 0) kd) with
    | none => simp [he] at hm
    | some yp =>
      obtain ⟨y, p⟩ := yp
      simp only [he] at hm
      cases hr : mapO (resOf s) qs with
      | none => simp [hr] at hm
      | some ys =>
        simp [hr] at hm; subst hm
        obtain ⟨vs, h1, h2⟩ := z7WW h rs qs ys hok.2 hr
        obtain ⟨z, g1, g2⟩ := zfPZ hok.1.2 h.good (fun b u B hu => ⟨_, z1nM ids I hu⟩) (h.vars k q hok.1.1) he
        refine ⟨z :: vs, ?_, _, _, rfl, g2, h2⟩
        rw [List.mapM_cons, Sem.run_bind, show (resRun a.tmps (.cell q ty)).run P w = .ok z w from g1]
        simp [h1]
  | [], _ :: _, _, hok, _ => by simp [okRes] at hok
  | .tmp _ :: _, [], _, hok, _ => by simp [okRes] at hok
  | .cell .. :: _, [], _, hok, _ => by simp [okRes] at hok
  | .tmp _ :: _, (_, some _) :: _, _, hok, _ => by simp [okRes] at hok
  | .cell .. :: _, (_, none) :: _, _, hok, _ => by simp [okRes] at hok
theorem zk5y {G : Nat → Option Fn} {Q : Prims} {n : Nat} (hm : P.follows .mixedOrders = true) (hG : ∀ f fn, G f = some fn → ∃ sl, okFn P f fn sl = true) (hQ : ∀ f p, Q f = some p → PrimOk P f p) : ∀ d, CallOk P (callN G Q n d) ∧ HasBody P (callN G Q n d)
  | 0 => ⟨fun f args σ r σ' h => by simp [callN] at h, fun f args σ r h => by simp [callN] at h⟩
  | d + 1 => by
    obtain ⟨ih1, ih2⟩ := zk5y (n := n) hm hG hQ d
    refine ⟨fun f args σ r σ' h ids I w vs hg hv => ?_, fun f args σ r h => ?_⟩
    · simp only [callN] at h
      cases hq : Q f with
      | some p =>
        simp only [hq] at h
        exact (hQ f p hq).2 _ ih1 ih2 args σ r σ' h ids I w vs hg hv
      | none =>
        simp only [hq] at h
        cases hgf : G f with
        | none => simp [hgf] at h
        | some fn =>
          simp only [hgf] at h
          split at h
          case isFalse => simp at h
          rename_i hlen
          simp only [beq_iff_eq] at hlen
          cases he : exec n (callN G Q n d) fn.body { vars := args ++ List.replicate (fn.nv - fn.np) .und, fl := none, σ } with
          | none => simp [he] at h
          | some es =>
            obtain ⟨e, s⟩ := es
            simp only [he] at h
            obtain ⟨sl, hok⟩ := hG f fn hgf
            unfold okFn at hok
            cases hpf : P.funcs[f]? with
            | none => simp [hpf] at hok
            | some pf =>
              simp only [hpf, Bool.and_eq_true] at hok
              obtain ⟨_, hok⟩ := hok
              cases hbody : pf.body with
              | none => simp [hbody] at hok
              | some c =>
                simp only [hbody, Bool.and_eq_true, decide_eq_true_eq, List.all_eq_true, List.mem_range, Bool.or_eq_true, beq_iff_eq] at hok
                obtain ⟨⟨⟨o1, o2⟩, o3⟩, o4⟩ := hok
                have hvl : vs.length = fn.np := (VRL.length hv).trans hlen
                have hrel : Rel sl pf.ntmps [] { vars := args ++ List.replicate (fn.nv - fn.np) .und, fl := none, σ } (ctxOf σ ids I) { tmps := vs.toArray ++ Array.replicate (pf.ntmps - vs.toArray.size) undef, defers := [] } w := by
                  refine ⟨hg, by simp; omega, rfl, fun k t hk => ?_, fun _ _ q => by simp at q⟩
                  have hkl : k < sl.length := (List.getElem?_eq_some_iff.1 hk).1
                  rcases o4 k hkl with hge | heq
                  · have : nth (args ++ List.replicate (fn.nv - fn.np) .und) k = .und := by
                      rw [zGlS, List.getElem?_append_right (by omega), List.getElem?_replicate]
                      split <;> rfl
                    rw [this]; unfold VR; trivial
                  · by_cases hkn : k < fn.np
                    · rw [heq] at hk; simp at hk; subst hk
                      have hka : k < args.length := by omega
                      obtain ⟨v, k1, k2⟩ := hv.get k _ (List.getElem?_eq_getElem hka)
                      have e1 : nth (args ++ List.replicate (fn.nv - fn.np) .und) k = args[k] := by
                        rw [zGlS, List.getElem?_append_left hka, List.getElem?_eq_getElem hka]; rfl
                      have e2 : (vs.toArray ++ Array.replicate (pf.ntmps - vs.toArray.size) undef).getD k undef = v := by
                        rw [Array.getD_eq_getD_getElem?, Array.getElem?_append_left (by simp; omega), List.getElem?_toArray, k1]; rfl
                      rw [e1]
                      show VR _ _ _ ((vs.toArray ++ Array.replicate (pf.ntmps - vs.toArray.size) undef).getD k undef)
                      rw [e2]; exact k2
                    · have : nth (args ++ List.replicate (fn.nv - fn.np) .und) k = .und := by
                        rw [zGlS, List.getElem?_append_right (by omega), List.getElem?_replicate]
                        split <;> rfl
                      rw [this]; unfold VR; trivial
                have hre : results fn s = some r ∧ s.σ = σ' ∧ ∀ j, e ≠ .exit j := by
                  cases e with
                  | exit j => simp at h
                  | nor =>
                    simp only [Option.map_eq_some_iff, Prod.mk.injEq] at h
                    obtain ⟨q, h1, rfl, h2⟩ := h
                    exact ⟨h1, h2, fun j q => by simp at q⟩
                  | ret =>
                    simp only [Option.map_eq_some_iff, Prod.mk.injEq] at h
                    obtain ⟨q, h1, rfl, h2⟩ := h
                    exact ⟨h1, h2, fun j q => by simp at q⟩
                obtain ⟨hr, rfl, hne⟩ := hre
                refine calls_of_wp hpf hbody (zdXt (sl := sl) (nt := pf.ntmps) (ds := []) hm ih1 ih2 fn.body c _ e s ids I _ w _ o1 he hrel fun ids' I' a' w' h' st' => ?_)
                have key : a'.defers = [] ∧ ∃ v, (Go.results pf a'.tmps).run P w' = .ok v w' ∧ ∃ v1 ids' I', Ending.returned v = .returned v1 ∧ Good (ctxOf s.σ ids' I') w' ∧ VR (ctxOf s.σ ids' I') w'.heap r v1 ∧ Step (ctxOf σ ids I) w (ctxOf s.σ ids' I') w' := by
                  refine ⟨h'.defers, ?_⟩
                  unfold results at hr
                  cases hxs : mapO (resOf s) fn.res with
                  | none => simp [hxs] at hr
                  | some xs =>
                    obtain ⟨zs, g1, g2⟩ := z7WW h' pf.results.toList fn.res xs o2 hxs
                    refine ⟨if hz : zs.toArray.size = 1 then zs.toArray[0] else .tuple zs.toArray, ?_, _, ids', I', rfl, h'.good, ?_, st'⟩
                    · rw [zTw3, Sem.run_bind, Array.mapM_eq_mapM_toList, Sem.run_map, g1]
                      rfl
                    · simp only [hxs] at hr
                      have hl := VRL.length g2
                      have many : ∀ l, xs = l → l.length ≠ 1 → r = .tup l → VR (ctxOf s.σ ids' I') w'.heap r (if hz : zs.toArray.size = 1 then zs.toArray[0] else .tuple zs.toArray) := fun l e1 e2 e3 => by
                        subst e1; subst e3
                        rw [dif_neg (by simp; omega)]
                        unfold VR
                        exact ⟨zs, rfl, g2⟩
                      cases xs with
                      | nil => exact many [] rfl (by simp) (by simpa using hr.symm)
                      | cons x t =>
                        cases t with
                        | nil =>
                          simp at hr; subst hr
                          obtain ⟨v, t, e1, e2, e3⟩ := g2
                          have e3 : t = [] := e3
                          subst e3; subst e1
                          simpa using e2
                        | cons y t => exact many (x :: y :: t) rfl (by simp) (by simpa using hr.symm)
                cases e with
                | exit j => exact absurd rfl (hne j)
                | nor => exact key
                | ret => exact key
    · simp only [callN] at h
      cases hq : Q f with
      | some p => exact (hQ f p hq).1
      | none =>
        simp only [hq] at h
        cases hgf : G f with
        | none => simp [hgf] at h
        | some fn =>
          obtain ⟨sl, hok⟩ := hG f fn hgf
          unfold okFn at hok
          cases hpf : P.funcs[f]? with
          | none => simp [hpf] at hok
          | some pf =>
            simp only [hpf, Bool.and_eq_true] at hok
            exact hok.1
end Ab
