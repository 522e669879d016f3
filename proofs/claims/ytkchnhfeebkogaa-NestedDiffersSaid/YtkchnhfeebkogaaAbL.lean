/- The interpreter with as much fuel as is wanted: more fuel gives the same answer; the limit, and that it is reached. What is to be shown of a run of the interpreter, as a formula that simp can print. How each line of a region reads: one rule a kind of line. Rules for simp: how the conditions of a run read. More rules for simp: cells of blocks as lists of numbers. Condition: none. -/
import Derived.Test.YtkchnhfeebkogaaAbCore
set_option linter.all false
namespace Ab
def CE.le (a b : CE) : Prop := ∀ f args σ x, a f args σ = some x → b f args σ = some x
theorem zIRr {a b : CE} (h : CE.le a b) {f : Nat} {args : List AV} {x : AV} (e : pcl a f args = some x) : pcl b f args = some x := by
  unfold pcl at e ⊢
  split at e
  case isFalse => simp at e
  rename_i hn
  rw [if_pos hn]
  cases hc : a f (args.map wk) [] with
  | none => simp [hc] at e
  | some r => rw [h _ _ _ _ hc]; simpa [hc] using e
theorem zwR7 {a b : CE} (h : CE.le a b) {σ : List Blk} {nl : Nat} {ps : List Pend} {r : Rf → AV} {o : IOp} {x : AV × Option Pend} (e : ev a σ nl ps r o = some x) : ev b σ nl ps r o = some x := by
  cases o
  case cal f args =>
    simp only [ev, Option.map_eq_some_iff] at e ⊢
    obtain ⟨y, h1, h2⟩ := e
    exact ⟨y, zIRr h h1, h2⟩
  case cald y args =>
    simp only [ev] at e ⊢
    cases hr : r y <;> simp only [hr] at e <;> try (simp at e; done)
    simp only [Option.map_eq_some_iff] at e ⊢
    obtain ⟨y, h1, h2⟩ := e
    exact ⟨y, zIRr h h1, h2⟩
  case inv y tbl args =>
    simp only [ev] at e ⊢
    cases hr : r y <;> simp only [hr] at e <;> try (simp at e; done)
    rename_i t v
    cases ht : lookT tbl t with
    | none => simp [ht] at e
    | some f =>
      simp only [ht, Option.map_eq_some_iff] at e ⊢
      obtain ⟨y, h1, h2⟩ := e
      exact ⟨y, zIRr h h1, h2⟩
  case can f args =>
    simp only [ev] at e ⊢
    split at e
    case isFalse => simp at e
    rename_i hn
    rw [if_pos hn]
    cases hc : a f (args.map r) [] with
    | none => simp [hc] at e
    | some q => rw [h _ _ _ _ hc]; simpa [hc] using e
  case cab f args =>
    simp only [ev] at e ⊢
    cases hm : mapO (fun x => view σ false vd (r x)) args with
    | none => simp [hm] at e
    | some vs =>
      simp only [hm] at e ⊢
      cases hc : a f vs [] with
      | none => simp [hc] at e
      | some q => rw [h _ _ _ _ hc]; simpa [hc] using e
  all_goals exact e
theorem zRvo {a b : CE} (h : CE.le a b) {σ : List Blk} {r : Rf → AV} {o : IOp} {x : AV × List Blk} (e : evW a σ r o = some x) : evW b σ r o = some x := by
  cases o
  case cam f args => exact h _ _ _ _ e
  case camd y args =>
    simp only [evW] at e ⊢
    cases hr : r y <;> simp only [hr] at e <;> try (simp at e; done)
    exact h _ _ _ _ e
  case invm y tbl args =>
    simp only [evW] at e ⊢
    cases hr : r y <;> simp only [hr] at e <;> try (simp at e; done)
    rename_i t v
    cases ht : lookT tbl t with
    | none => simp [ht] at e
    | some f => simp only [ht] at e ⊢; exact h _ _ _ _ e
  case st => exact e
  case appw => exact e
  case clr => exact e
  case mup => exact e
  case cpy => exact e
  all_goals
    simp only [evW] at e ⊢
    split at e
    · rename_i hc; rw [zwR7 h hc]; exact e
    · rename_i hc; rw [zwR7 h hc]; exact e
    · simp at e
theorem zNwe {a b : CE} (h : CE.le a b) {vars : List AV} {s s' : LS} {l : Ln} (e : line1 a vars s l = some s') : line1 b vars s l = some s' := by
  unfold line1 at e ⊢
  split at e
  · simp at e
  · exact e
  · split at e
    · rename_i hw
      rw [if_pos hw]
      split at e
      · rename_i hc; rw [zRvo h hc]; exact e
      · simp at e
    · rename_i hw
      rw [if_neg hw]
      split at e
      · rename_i hc; rw [zwR7 h hc]; exact e
      · rename_i hc; rw [zwR7 h hc]; exact e
      · simp at e
theorem ze6A {a b : CE} (h : CE.le a b) {vars : List AV} : ∀ {ls : List Ln} {s s' : LS}, lines a vars ls s = some s' → lines b vars ls s = some s'
  | [], _, _, e => e
  | l :: ls, s, s', e => by
    simp only [lines] at e ⊢
    cases h1 : line1 a vars s l with
    | none => simp [h1] at e
    | some q => rw [zNwe h h1]; simp only [h1] at e; exact ze6A h e
theorem zQum {a b : CE} (h : CE.le a b) {r : Reg} {s s' : St} (e : runReg a r s = some s') : runReg b r s = some s' := by
  unfold runReg at e ⊢
  cases h1 : lines a s.vars r.ls ⟨[], s.σ, s.σ⟩ with
  | none => simp [h1] at e
  | some q => rw [ze6A h h1]; simpa [h1] using e
theorem z0zn {f g : St → Option (Ex × St)} (h : ∀ s x, f s = some x → g s = some x) : ∀ {n m : Nat} {s : St} {x : Ex × St}, n ≤ m → iter f n s = some x → iter g m s = some x
  | 0, _, _, _, _, e => by simp [iter] at e
  | n + 1, 0, _, _, hn, _ => by omega
  | n + 1, m + 1, s, x, hn, e => by
    simp only [iter] at e ⊢
    cases h1 : f s with
    | none => simp [h1] at e
    | some q =>
      rw [h _ _ h1]
      obtain ⟨e1, s1⟩ := q
      cases e1 with
      | nor => simp only [h1] at e ⊢; exact z0zn h (by omega) e
      | exit j => simpa [h1] using e
      | ret => simpa [h1] using e
theorem zM0K {a b : CE} (h : CE.le a b) {n m : Nat} (hn : n ≤ m) : ∀ (c : IC) (s : St) (x : Ex × St), exec n a c s = some x → exec m b c s = some x := by
  intro c
  induction c with
  | skip => intro s x e; simpa [exec] using e
  | reg r =>
    intro s x e
    simp only [exec] at e ⊢
    cases h1 : runReg a r s with
    | none => simp [h1] at e
    | some q => rw [zQum h h1]; simpa [h1] using e
  | seq c d ihc ihd =>
    intro s x e
    simp only [exec] at e ⊢
    cases h1 : exec n a c s with
    | none => simp [h1] at e
    | some q =>
      rw [ihc _ _ h1]
      obtain ⟨e1, s1⟩ := q
      cases e1 with
      | nor => simp only [h1] at e ⊢; exact ihd _ _ e
      | exit j => simpa [h1] using e
      | ret => simpa [h1] using e
  | cond t c d ihc ihd =>
    intro s x e
    simp only [exec] at e ⊢
    split at e
    · split at e
      · split at e
        · rename_i h1 h2 h3; rw [if_pos h2, if_pos h3]; exact ihc _ _ e
        · rename_i h1 h2 h3; rw [if_pos h2, if_neg h3]; exact ihd _ _ e
      · simp at e
    · simp at e
  | condv k c d ihc ihd =>
    intro s x e
    simp only [exec] at e ⊢
    split at e
    · split at e
      · rename_i h1 h2; rw [if_pos h2]; exact ihc _ _ e
      · rename_i h1 h2; rw [if_neg h2]; exact ihd _ _ e
    · simp at e
  | block id c ih =>
    intro s x e
    simp only [exec] at e ⊢
    cases h1 : exec n a c s with
    | none => simp [h1] at e
    | some q => rw [ih _ _ h1]; simpa [h1] using e
  | loop c ih =>
    intro s x e
    simp only [exec] at e ⊢
    exact z0zn ih hn e
  | exit id => intro s x e; simpa [exec] using e
  | ret => intro s x e; simpa [exec] using e
  | frz k => intro s x e; simpa [exec] using e
  | bad => intro s x e; simp [exec] at e
  | cut b c ih => intro s x e; simp only [exec] at e ⊢; exact ih _ _ e
  | scp c ih => intro s x e; simp only [exec] at e ⊢; exact ih _ _ e
  | lex c ih =>
    intro s x e
    simp only [exec] at e ⊢
    cases h1 : exec n a c s with
    | none => simp [h1] at e
    | some q => rw [ih _ _ h1]; simpa [h1] using e
def PrimsMono (Q : Prims) : Prop := ∀ f p, Q f = some p → ∀ a b : CE, CE.le a b → ∀ args σ v, p a args σ = some v → p b args σ = some v
section
variable {G : Nat → Option Fn} {Q : Prims}
theorem zJFY (hQ : PrimsMono Q) {n m : Nat} (hn : n ≤ m) : ∀ {d e : Nat}, d ≤ e → CE.le (callN G Q n d) (callN G Q m e)
  | 0, _, _ => fun f args σ x h => by simp [callN] at h
  | d + 1, 0, h => by omega
  | d + 1, e + 1, hd => fun f args σ x h => by
    have ih := zJFY hQ hn (show d ≤ e by omega)
    simp only [callN] at h ⊢
    cases hq : Q f with
    | some p =>
      simp only [hq] at h ⊢
      exact hQ f p hq _ _ ih _ _ _ h
    | none =>
      simp only [hq] at h ⊢
      cases hg : G f with
      | none => simp [hg] at h
      | some fn =>
        simp only [hg] at h ⊢
        split at h
        case isFalse => simp at h
        rename_i hl
        rw [if_pos hl]
        cases he : exec n (callN G Q n d) fn.body { vars := args ++ List.replicate (fn.nv - fn.np) .und, fl := none, σ } with
        | none => simp [he] at h
        | some q => rw [zM0K ih hn _ _ _ he]; simpa [he] using h
def cN (G : Nat → Option Fn) (Q : Prims) (n : Nat) : CE := callN G Q n n
theorem zowp (hQ : PrimsMono Q) {n m : Nat} (hn : n ≤ m) : CE.le (cN G Q n) (cN G Q m) := zJFY hQ hn hn
open Classical in
noncomputable def lim (G : Nat → Option Fn) (Q : Prims) : CE := fun f args σ => if h : ∃ x, ∃ N, cN G Q N f args σ = some x then some (choose h) else none
theorem zdKY (hQ : PrimsMono Q) {N f : Nat} {args : List AV} {σ : List Blk} {x : AV × List Blk} (h : cN G Q N f args σ = some x) : lim G Q f args σ = some x := by
  have hx : ∃ x, ∃ N, cN G Q N f args σ = some x := ⟨x, N, h⟩
  unfold lim
  rw [dif_pos hx]
  obtain ⟨M, hM⟩ := Classical.choose_spec hx
  have h1 := zowp (G := G) hQ (Nat.le_max_left N M) _ _ _ _ h
  have h2 := zowp (G := G) hQ (Nat.le_max_right N M) _ _ _ _ hM
  rw [h1] at h2
  exact h2.symm
theorem zlB0 {f : Nat} {args : List AV} {σ : List Blk} {x : AV × List Blk} (h : lim G Q f args σ = some x) : ∃ N, cN G Q N f args σ = some x := by
  unfold lim at h
  split at h
  · rename_i hx
    obtain ⟨M, hM⟩ := Classical.choose_spec hx
    exact ⟨M, by rw [hM]; exact h⟩
  · simp at h
theorem zaqm (hQ : PrimsMono Q) (N : Nat) : CE.le (cN G Q N) (lim G Q) := fun _ _ _ _ h => zdKY hQ h
variable (hQ : PrimsMono Q)
include hQ
theorem zbjS {f : Nat} {args : List AV} {x : AV} (e : pcl (lim G Q) f args = some x) : ∃ N, pcl (cN G Q N) f args = some x := by
  unfold pcl at e
  split at e
  case isFalse => simp at e
  rename_i hn
  cases hc : lim G Q f (args.map wk) [] with
  | none => simp [hc] at e
  | some r =>
    obtain ⟨N, hN⟩ := zlB0 hc
    exact ⟨N, by unfold pcl; rw [if_pos hn, hN]; simpa [hc] using e⟩
theorem zTuQ {σ : List Blk} {nl : Nat} {ps : List Pend} {r : Rf → AV} {o : IOp} {x : AV × Option Pend} (e : ev (lim G Q) σ nl ps r o = some x) : ∃ N, ev (cN G Q N) σ nl ps r o = some x := by
  cases o
  case cal f args =>
    simp only [ev, Option.map_eq_some_iff] at e ⊢
    obtain ⟨y, h1, h2⟩ := e
    obtain ⟨N, hN⟩ := zbjS hQ h1
    exact ⟨N, y, hN, h2⟩
  case cald y args =>
    simp only [ev] at e ⊢
    cases hr : r y <;> simp only [hr] at e <;> try (simp at e; done)
    simp only [Option.map_eq_some_iff] at e ⊢
    obtain ⟨y, h1, h2⟩ := e
    obtain ⟨N, hN⟩ := zbjS hQ h1
    exact ⟨N, y, hN, h2⟩
  case inv y tbl args =>
    simp only [ev] at e ⊢
    cases hr : r y <;> simp only [hr] at e <;> try (simp at e; done)
    rename_i t v
    cases ht : lookT tbl t with
    | none => simp [ht] at e
    | some f =>
      simp only [ht, Option.map_eq_some_iff] at e ⊢
      obtain ⟨y, h1, h2⟩ := e
      obtain ⟨N, hN⟩ := zbjS hQ h1
      exact ⟨N, y, hN, h2⟩
  case can f args =>
    simp only [ev] at e ⊢
    split at e
    case isFalse => simp at e
    rename_i hn
    cases hc : lim G Q f (args.map r) [] with
    | none => simp [hc] at e
    | some q =>
      obtain ⟨N, hN⟩ := zlB0 hc
      exact ⟨N, by rw [if_pos hn, hN]; simpa [hc] using e⟩
  case cab f args =>
    simp only [ev] at e ⊢
    cases hm : mapO (fun x => view σ false vd (r x)) args with
    | none => simp [hm] at e
    | some vs =>
      simp only [hm] at e ⊢
      cases hc : lim G Q f vs [] with
      | none => simp [hc] at e
      | some q =>
        obtain ⟨N, hN⟩ := zlB0 hc
        exact ⟨N, by rw [hN]; simpa [hc] using e⟩
  all_goals exact ⟨0, e⟩
theorem zx2s {σ : List Blk} {r : Rf → AV} {o : IOp} {x : AV × List Blk} (e : evW (lim G Q) σ r o = some x) : ∃ N, evW (cN G Q N) σ r o = some x := by
  cases o
  case cam f args => exact zlB0 e
  case camd y args =>
    simp only [evW] at e ⊢
    cases hr : r y <;> simp only [hr] at e <;> try (simp at e; done)
    exact zlB0 e
  case invm y tbl args =>
    simp only [evW] at e ⊢
    cases hr : r y <;> simp only [hr] at e <;> try (simp at e; done)
    rename_i t v
    cases ht : lookT tbl t with
    | none => simp [ht] at e
    | some f => simp only [ht] at e ⊢; exact zlB0 e
  case st => exact ⟨0, e⟩
  case appw => exact ⟨0, e⟩
  case clr => exact ⟨0, e⟩
  case mup => exact ⟨0, e⟩
  case cpy => exact ⟨0, e⟩
  all_goals
    simp only [evW] at e ⊢
    split at e
    · rename_i hc; obtain ⟨N, hN⟩ := zTuQ hQ hc; exact ⟨N, by rw [hN]; exact e⟩
    · rename_i hc; obtain ⟨N, hN⟩ := zTuQ hQ hc; exact ⟨N, by rw [hN]; exact e⟩
    · simp at e
theorem zARI {vars : List AV} {s s' : LS} {l : Ln} (e : line1 (lim G Q) vars s l = some s') : ∃ N, line1 (cN G Q N) vars s l = some s' := by
  unfold line1 at e ⊢
  cases hw : want vars s.env l.g with
  | none => simp [hw] at e
  | some b =>
    cases b with
    | false => exact ⟨0, by simpa [hw] using e⟩
    | true =>
      simp only [hw] at e ⊢
      split at e
      · rename_i hW
        split at e
        · rename_i hc; obtain ⟨N, hN⟩ := zx2s hQ hc; exact ⟨N, by rw [if_pos hW, hN]; exact e⟩
        · simp at e
      · rename_i hW
        split at e
        · rename_i hc; obtain ⟨N, hN⟩ := zTuQ hQ hc; exact ⟨N, by rw [if_neg hW, hN]; exact e⟩
        · rename_i hc; obtain ⟨N, hN⟩ := zTuQ hQ hc; exact ⟨N, by rw [if_neg hW, hN]; exact e⟩
        · simp at e
theorem zQAZ {vars : List AV} : ∀ {ls : List Ln} {s s' : LS}, lines (lim G Q) vars ls s = some s' → ∃ N, lines (cN G Q N) vars ls s = some s'
  | [], _, _, e => ⟨0, e⟩
  | l :: ls, s, s', e => by
    simp only [lines] at e ⊢
    cases h1 : line1 (lim G Q) vars s l with
    | none => simp [h1] at e
    | some q =>
      simp only [h1] at e
      obtain ⟨N, hN⟩ := zARI hQ h1
      obtain ⟨M, hM⟩ := zQAZ e
      refine ⟨max N M, ?_⟩
      rw [zNwe (zowp hQ (Nat.le_max_left N M)) hN]
      exact ze6A (zowp hQ (Nat.le_max_right N M)) hM
theorem zuWB {r : Reg} {s s' : St} (e : runReg (lim G Q) r s = some s') : ∃ N, runReg (cN G Q N) r s = some s' := by
  unfold runReg at e ⊢
  cases h1 : lines (lim G Q) s.vars r.ls ⟨[], s.σ, s.σ⟩ with
  | none => simp [h1] at e
  | some q =>
    obtain ⟨N, hN⟩ := zQAZ hQ h1
    exact ⟨N, by rw [hN]; simpa [h1] using e⟩
def exN (G : Nat → Option Fn) (Q : Prims) (N : Nat) (c : IC) (s : St) : Option (Ex × St) := exec N (cN G Q N) c s
omit hQ in
theorem zRdv (hQ : PrimsMono Q) {n m : Nat} (hn : n ≤ m) {c : IC} {s : St} {x : Ex × St} (h : exN G Q n c s = some x) : exN G Q m c s = some x := zM0K (zowp hQ hn) hn _ _ _ h
theorem zoiP {n : Nat} : ∀ (c : IC) (s : St) (x : Ex × St), exec n (lim G Q) c s = some x → ∃ N, exN G Q N c s = some x := by
  intro c
  induction c with
  | skip => intro s x e; exact ⟨0, by simpa [exec, exN] using e⟩
  | reg r =>
    intro s x e
    simp only [exec, exN] at e ⊢
    cases h1 : runReg (lim G Q) r s with
    | none => simp [h1] at e
    | some q => obtain ⟨N, hN⟩ := zuWB hQ h1; exact ⟨N, by rw [hN]; simpa [h1] using e⟩
  | seq c d ihc ihd =>
    intro s x e
    simp only [exec] at e
    cases h1 : exec n (lim G Q) c s with
    | none => simp [h1] at e
    | some q =>
      obtain ⟨N, hN⟩ := ihc _ _ h1
      obtain ⟨e1, s1⟩ := q
      cases e1 with
      | nor =>
        simp only [h1] at e
        obtain ⟨M, hM⟩ := ihd _ _ e
        refine ⟨max N M, ?_⟩
        have a1 := zRdv (G := G) hQ (Nat.le_max_left N M) hN
        have a2 := zRdv (G := G) hQ (Nat.le_max_right N M) hM
        simp only [exN, exec] at a1 a2 ⊢
        rw [a1]; exact a2
      | exit j => exact ⟨N, by simp only [exN, exec] at hN ⊢; rw [hN]; simpa [h1] using e⟩
      | ret => exact ⟨N, by simp only [exN, exec] at hN ⊢; rw [hN]; simpa [h1] using e⟩
  | cond t c d ihc ihd =>
    intro s x e
    simp only [exec] at e
    split at e
    · split at e
      · split at e
        · rename_i h1 h2 h3; obtain ⟨N, hN⟩ := ihc _ _ e; exact ⟨N, by simp only [exN, exec, h1, h2, if_true] at hN ⊢; rw [if_pos h3]; exact hN⟩
        · rename_i h1 h2 h3; obtain ⟨N, hN⟩ := ihd _ _ e; exact ⟨N, by simp only [exN, exec, h1, h2, if_true] at hN ⊢; rw [if_neg h3]; exact hN⟩
      · simp at e
    · simp at e
  | condv k c d ihc ihd =>
    intro s x e
    simp only [exec] at e
    split at e
    · split at e
      · rename_i h1 h2; obtain ⟨N, hN⟩ := ihc _ _ e; exact ⟨N, by simp only [exN, exec, h1] at hN ⊢; rw [if_pos h2]; exact hN⟩
      · rename_i h1 h2; obtain ⟨N, hN⟩ := ihd _ _ e; exact ⟨N, by simp only [exN, exec, h1] at hN ⊢; rw [if_neg h2]; exact hN⟩
    · simp at e
  | block id c ih =>
    intro s x e
    simp only [exec] at e
    cases h1 : exec n (lim G Q) c s with
    | none => simp [h1] at e
    | some q => obtain ⟨N, hN⟩ := ih _ _ h1; exact ⟨N, by simp only [exN, exec] at hN ⊢; rw [hN]; simpa [h1] using e⟩
  | loop c ih =>
    intro s x e
    simp only [exec] at e
    have go : ∀ (k : Nat) (s : St), iter (exec n (lim G Q) c) k s = some x → ∃ N, ∃ j, iter (exN G Q N c) j s = some x := by
      intro k
      induction k with
      | zero => intro s e; simp [iter] at e
      | succ k ihk =>
        intro s e
        simp only [iter] at e
        cases h1 : exec n (lim G Q) c s with
        | none => simp [h1] at e
        | some q =>
          obtain ⟨N, hN⟩ := ih _ _ h1
          obtain ⟨e1, s1⟩ := q
          cases e1 with
          | nor =>
            simp only [h1] at e
            obtain ⟨M, j, hM⟩ := ihk _ e
            refine ⟨max N M, j + 1, ?_⟩
            simp only [iter]
            rw [zRdv (G := G) hQ (Nat.le_max_left N M) hN]
            exact z0zn (fun s x h => zRdv (G := G) hQ (Nat.le_max_right N M) h) (Nat.le_refl _) hM
          | exit i => exact ⟨N, 1, by simp only [iter]; rw [hN]; simpa [h1] using e⟩
          | ret => exact ⟨N, 1, by simp only [iter]; rw [hN]; simpa [h1] using e⟩
    obtain ⟨N, j, h⟩ := go n s e
    refine ⟨max N j, ?_⟩
    simp only [exN, exec]
    exact z0zn (fun s x h => zRdv (G := G) hQ (Nat.le_max_left N j) h) (Nat.le_max_right N j) h
  | exit id => intro s x e; exact ⟨0, by simpa [exec, exN] using e⟩
  | ret => intro s x e; exact ⟨0, by simpa [exec, exN] using e⟩
  | frz k => intro s x e; exact ⟨0, by simpa [exec, exN] using e⟩
  | bad => intro s x e; simp [exec] at e
  | cut b c ih => intro s x e; simp only [exec] at e; obtain ⟨N, hN⟩ := ih _ _ e; exact ⟨N, by simp only [exN, exec] at hN ⊢; exact hN⟩
  | scp c ih => intro s x e; simp only [exec] at e; obtain ⟨N, hN⟩ := ih _ _ e; exact ⟨N, by simp only [exN, exec] at hN ⊢; exact hN⟩
  | lex c ih =>
    intro s x e
    simp only [exec] at e
    cases h1 : exec n (lim G Q) c s with
    | none => simp [h1] at e
    | some q => obtain ⟨N, hN⟩ := ih _ _ h1; exact ⟨N, by simp only [exN, exec] at hN ⊢; rw [hN]; simpa [h1] using e⟩
theorem zDmB {f n : Nat} {fn : Fn} {args : List AV} {σ : List Blk} {e : Ex} {s : St} {r : AV} (hq : Q f = none) (hg : G f = some fn) (hl : args.length = fn.np)
    (he : exec n (lim G Q) fn.body { vars := args ++ List.replicate (fn.nv - fn.np) .und, fl := none, σ } = some (e, s)) (hx : ∀ j, e ≠ .exit j) (hr : results fn s = some r) :
    lim G Q f args σ = some (r, s.σ) := by
  obtain ⟨N, hN⟩ := zoiP hQ _ _ _ he
  refine zdKY hQ (N := N + 1) ?_
  have h1 : exec (N + 1) (callN G Q (N + 1) N) fn.body { vars := args ++ List.replicate (fn.nv - fn.np) .und, fl := none, σ } = some (e, s) :=
    zM0K (zJFY hQ (Nat.le_succ N) (Nat.le_refl N)) (Nat.le_succ N) _ _ _ hN
  simp only [cN, callN, hq, hg, hl, beq_self_eq_true, if_true, h1]
  cases e with
  | exit j => exact absurd rfl (hx j)
  | nor => simp [hr]
  | ret => simp [hr]
omit hQ in
theorem zRTz (hQ : PrimsMono Q) {N f : Nat} {p : CE → List AV → List Blk → Option (AV × List Blk)} {args : List AV} {σ : List Blk} {x : AV × List Blk} (hq : Q f = some p) (hp : p (cN G Q N) args σ = some x) : lim G Q f args σ = some x := by
  refine zdKY hQ (N := N + 1) ?_
  simp only [cN, callN, hq]
  exact hQ f p hq _ _ (zJFY hQ (Nat.le_succ N) (Nat.le_refl N)) _ _ _ hp
end
def W (L : CE) (c : IC) (s : St) (Q : Ex → St → Prop) : Prop := ∃ n e s', exec n L c s = some (e, s') ∧ Q e s'
section
variable {L : CE}
theorem z9Ui (L : CE) : CE.le L L := fun _ _ _ _ h => h
theorem W.mono {c : IC} {s : St} {Q R : Ex → St → Prop} (h : W L c s Q) (hQ : ∀ e s', Q e s' → R e s') : W L c s R := by
  obtain ⟨n, e, s', h1, h2⟩ := h
  exact ⟨n, e, s', h1, hQ e s' h2⟩
theorem z951 {s : St} {Q : Ex → St → Prop} (h : Q .nor s) : W L .skip s Q := ⟨0, .nor, s, rfl, h⟩
theorem W_ret {s : St} {Q : Ex → St → Prop} (h : Q .ret s) : W L .ret s Q := ⟨0, .ret, s, rfl, h⟩
theorem zoo3 {id : Nat} {s : St} {Q : Ex → St → Prop} (h : Q (.exit id) s) : W L (.exit id) s Q := ⟨0, .exit id, s, rfl, h⟩
theorem W_reg {r : Reg} {s s' : St} {Q : Ex → St → Prop} (h : runReg L r s = some s') (hq : Q .nor s') : W L (.reg r) s Q := ⟨0, .nor, s', by simp [exec, h], hq⟩
def Then (L : CE) (d : IC) (Q : Ex → St → Prop) : Ex → St → Prop
  | .nor, s => W L d s Q
  | e, s => Q e s
theorem W_seq {c d : IC} {s : St} {Q : Ex → St → Prop} (h : W L c s (Then L d Q)) : W L (.seq c d) s Q := by
  obtain ⟨n, e, s1, h1, h2⟩ := h
  cases e with
  | nor =>
    obtain ⟨m, e', s', h3, h4⟩ := h2
    refine ⟨max n m, e', s', ?_, h4⟩
    simp only [exec]
    rw [zM0K (z9Ui L) (Nat.le_max_left n m) _ _ _ h1]
    exact zM0K (z9Ui L) (Nat.le_max_right n m) _ _ _ h3
  | exit j => exact ⟨n, .exit j, s1, by simp [exec, h1], h2⟩
  | ret => exact ⟨n, .ret, s1, by simp [exec, h1], h2⟩
theorem zSdA {t : Nat} {c d : IC} {vars : List AV} {σ : List Blk} {b : Bool} {Q : Ex → St → Prop} (h1 : b = true → W L c ⟨vars, none, σ⟩ Q) (h2 : b = false → W L d ⟨vars, none, σ⟩ Q) : W L (.cond t c d) ⟨vars, some (t, .bool b), σ⟩ Q := by
  cases b with
  | true =>
    obtain ⟨n, e, s', h3, h4⟩ := h1 rfl
    exact ⟨n, e, s', by simp [exec, h3], h4⟩
  | false =>
    obtain ⟨n, e, s', h3, h4⟩ := h2 rfl
    exact ⟨n, e, s', by simp [exec, h3], h4⟩
theorem zz9J {k : Nat} {c d : IC} {s : St} {b : Bool} {Q : Ex → St → Prop} (hb : nth s.vars k = .bool b) (h1 : b = true → W L c s Q) (h2 : b = false → W L d s Q) : W L (.condv k c d) s Q := by
  cases b with
  | true =>
    obtain ⟨n, e, s', h3, h4⟩ := h1 rfl
    exact ⟨n, e, s', by simp [exec, hb, h3], h4⟩
  | false =>
    obtain ⟨n, e, s', h3, h4⟩ := h2 rfl
    exact ⟨n, e, s', by simp [exec, hb, h3], h4⟩
def Out (id : Nat) (Q : Ex → St → Prop) : Ex → St → Prop
  | .exit j, s => if j = id then Q .nor s else Q (.exit j) s
  | e, s => Q e s
theorem z5Jx {id : Nat} {c : IC} {s : St} {Q : Ex → St → Prop} (h : W L c s (Out id Q)) : W L (.block id c) s Q := by
  obtain ⟨n, e, s1, h1, h2⟩ := h
  cases e with
  | nor => exact ⟨n, .nor, s1, by simp [exec, h1], h2⟩
  | exit j =>
    by_cases hj : j = id
    · exact ⟨n, .nor, s1, by simp [exec, h1, hj], by simpa [Out, hj] using h2⟩
    · exact ⟨n, .exit j, s1, by simp [exec, h1, hj], by simpa [Out, hj] using h2⟩
  | ret => exact ⟨n, .ret, s1, by simp [exec, h1], h2⟩
def Again (I : St → Prop) (μ : St → Nat) (m : Nat) (Q : Ex → St → Prop) : Ex → St → Prop
  | .nor, s => I s ∧ μ s < m
  | e, s => Q e s
theorem zyHD {c : IC} {s : St} {Q : Ex → St → Prop} (I : St → Prop) (μ : St → Nat) (h0 : I s) (hs : ∀ s, I s → W L c s (Again I μ (μ s) Q)) : W L (.loop c) s Q := by
  have go : ∀ (m : Nat) (s : St), μ s < m → I s → ∃ n k e s', iter (exec n L c) k s = some (e, s') ∧ Q e s' := by
    intro m
    induction m with
    | zero => intro s h; omega
    | succ m ih =>
      intro s hm hI
      obtain ⟨n, e, s1, h1, h2⟩ := hs s hI
      cases e with
      | nor =>
        obtain ⟨h3, h4⟩ := h2
        obtain ⟨n', k, e', s', h5, h6⟩ := ih s1 (by omega) h3
        refine ⟨max n n', k + 1, e', s', ?_, h6⟩
        simp only [iter]
        rw [zM0K (z9Ui L) (Nat.le_max_left n n') _ _ _ h1]
        exact z0zn (fun s x h => zM0K (z9Ui L) (Nat.le_max_right n n') _ _ _ h) (Nat.le_refl _) h5
      | exit j => exact ⟨n, 1, .exit j, s1, by simp [iter, h1], h2⟩
      | ret => exact ⟨n, 1, .ret, s1, by simp [iter, h1], h2⟩
  obtain ⟨n, k, e, s', h1, h2⟩ := go (μ s + 1) s (by omega) h0
  refine ⟨max n k, e, s', ?_, h2⟩
  simp only [exec]
  exact z0zn (fun s x h => zM0K (z9Ui L) (Nat.le_max_left n k) _ _ _ h) (Nat.le_max_right n k) h1
end
def Ends (fn : Fn) (r : AV) (σ : List Blk) : Ex → St → Prop
  | .exit _, _ => False
  | _, s => results fn s = some r ∧ s.σ = σ
theorem lim_W {G : Nat → Option Fn} {Q : Prims} (hQ : PrimsMono Q) {f : Nat} (fn : Fn) {args : List AV} {σ σ' : List Blk} {r : AV} (hq : Q f = none) (hg : G f = some fn) (hl : args.length = fn.np)
    (h : W (lim G Q) fn.body { vars := args ++ List.replicate (fn.nv - fn.np) .und, fl := none, σ } (Ends fn r σ')) : lim G Q f args σ = some (r, σ') := by
  obtain ⟨n, e, s, h1, h2⟩ := h
  cases e with
  | exit j => exact h2.elim
  | nor => obtain ⟨h3, rfl⟩ := h2; exact zDmB hQ hq hg hl h1 (fun j => by simp) h3
  | ret => obtain ⟨h3, rfl⟩ := h2; exact zDmB hQ hq hg hl h1 (fun j => by simp) h3
end Ab
namespace Ab
def idxK (l : List AV) (n : Int) (K : AV → Prop) : Prop := 0 ≤ n ∧ ∃ y, elm l n.toNat = some y ∧ K y
def fitK (n : Int) (K : AV → Prop) : Prop := (-9223372036854775808 ≤ n ∧ n ≤ 9223372036854775807) ∧ K (.int n)
def binK (o : Bin) (x y : Int) (K : AV → Prop) : Prop :=
  match o with
  | .add => fitK (x + y) K
  | .sub => fitK (x - y) K
  | .mul => fitK (x * y) K
  | .quo => y ≠ 0 ∧ fitK (x.tdiv y) K
  | .rem => y ≠ 0 ∧ K (.int (x.tmod y))
  | .lss => K (.bool (decide (x < y)))
  | .leq => K (.bool (decide (x ≤ y)))
  | .gtr => K (.bool (decide (y < x)))
  | .geq => K (.bool (decide (y ≤ x)))
  | .eql => K (.bool (decide (x = y)))
  | .neq => K (.bool (!decide (x = y)))
  | .addw => K (.int (wr (x + y)))
def PCx (L : CE) (f : Nat) (args : List AV) : Option AV :=
  match L f args [] with
  | some (v, σ') => viewT σ' false v
  | none => none
def optK {α : Type} (o : Option α) (K : α → Prop) : Prop :=
  match o with
  | some u => K u
  | none => False
theorem zO1M {α : Type} {o : Option α} {K : α → Prop} (h : optK o K) : ∃ u, o = some u ∧ K u := by
  cases o with
  | none => exact h.elim
  | some u => exact ⟨u, rfl, h⟩
theorem z2CC {α : Type} {u : α} {K : α → Prop} : optK (some u) K = K u := (rfl)
theorem zP47 {α : Type} {o : Option α} {u : α} {K : α → Prop} (h : o = some u) (k : K u) : optK o K := by subst h; exact k
def pclK (L : CE) (f : Nat) (args : List AV) (K : AV → Prop) : Prop := noLocs args = true ∧ optK (PCx L f (args.map wk)) K
def LX (L : CE) (f : Nat) (args : List AV) (σ : List Blk) (K : AV → List Blk → Prop) : Prop := optK (L f args σ) fun p => K p.1 p.2
def partK (cs : List AV) (off : Nat) (k : Option Nat) (K : AV → Prop) : Prop := optK (part cs off k) K
def okIf (c : Prop) (K : Prop) : Prop := c ∧ K
def evK (L : CE) (σ : List Blk) (nl : Nat) (r : Rf → AV) (op : IOp) (K : AV → Option Pend → Prop) : Prop :=
  match op with
  | .bin o x y => match r x, r y with
    | .int a, .int b => binK o a b fun v => K v none
    | _, _ => False
  | .iad x i st => match r x, r i with
    | .imm _ l, .int n => idxK l n fun y => y.cells.length = st ∧ K (.pimm y) none
    | .sl b u off len, .int n => okIf (0 ≤ n ∧ n < len) (K (.ptr b u (off + n.toNat * st)) none)
    | _, _ => False
  | .iada x i n k => match r x, r i with
    | .ptr b u o, .int j => okIf (0 ≤ j ∧ j < n) (K (.ptr b u (o + j.toNat * kst k)) none)
    | .pimm v, .int j => okIf (0 ≤ j ∧ j < n) (optK (part v.cells (j.toNat * kst k) k) fun y => K (.pimm y) none)
    | _, _ => False
  | .cal f args => pclK L f (args.map r) fun v => K v none
  | .cald x args => match r x with
    | .func f caps => pclK L f (args.map r ++ caps) fun v => K v none
    | _ => False
  | .inv x tbl args => match r x with
    | .iface t v => match lookT tbl t with
      | some f => pclK L f (v :: args.map r) fun v => K v none
      | none => False
    | _ => False
  | .ld x k => match r x with
    | .pimm v => match k, v with
      | none, .agg _ => False
      | none, v => K v none
      | some n, .agg l => l.length = n ∧ K (.agg l) none
      | some _, _ => False
    | .ptr b u o => optK (upto σ b u) fun B => B.st.isLive = true ∧ partK B.cells o k fun y => K y none
    | _ => False
  | .cvi x => match r x with
    | .int n => fitK n fun v => K v none
    | .ik _ n => fitK n fun v => K v none
    | _ => False
  | .slc x lo hi st => match loV r lo, hiV r hi with
    | some a, some b => (match r x with
      | .imm nn l => okIf ((0 ≤ a ∧ a ≤ b.getD l.length ∧ b.getD l.length ≤ l.length) ∧ firstIs st l = true) (K (.imm (nn && decide (0 < l.length)) ((l.drop a.toNat).take ((b.getD l.length).toNat - a.toNat))) none)
      | .sl b' u off len => optK (upto σ b' u) fun B => okIf ((0 ≤ a ∧ a ≤ b.getD len ∧ b.getD len ≤ len) ∧ kst B.k = st) (K (.sl b' u (off + a.toNat * st) ((b.getD len).toNat - a.toNat)) none)
      | _ => False)
    | _, _ => False
  | .cab f args => optK (mapO (fun x => view σ false vd (r x)) args) fun vs => LX L f vs [] fun v σ' => optK (viewT σ' true v) fun u => K u none
  | .can f args => okIf (noLocs (args.map r) = true) (LX L f (args.map r) [] fun v σ' => K (shV nl v) (some (.news (σ'.map (shB nl)))))
  | .mks n c z k => match r n, r c with
    | .int n, .int c => okIf (0 ≤ n ∧ n ≤ c ∧ c ≤ big ∧ z.length = kst k) (K (.sl nl (dupN c.toNat z).length 0 n.toNat) (some (.new ⟨k, dupN c.toNat z, .live⟩)))
    | _, _ => False
  | .app s x k => match srcCells σ k (r x) with
    | none => False
    | some (n, cs) => match r s with
      | .sl b u off len => optK (upto σ b u) fun B => okIf (off = 0 ∧ u = len * kst k ∧ len + n ≤ big ∧ eqK B.k k = true) ((n = 0 → K (.sl b u off len) none) ∧ (n ≠ 0 → cs.length ≠ 0 ∧ K (.sl b (u + cs.length) 0 (len + n)) (some (.grow b cs))))
      | .snil => (n = 0 → K .snil none) ∧ (n ≠ 0 → n ≤ big ∧ K (.sl nl cs.length 0 n) (some (.new ⟨k, cs, .live⟩)))
      | .arr l => (n = 0 → K (if noLocs l then .imm true l else .arr l) none) ∧ (n ≠ 0 → (fitAll (kst k) l = true ∧ l.length + n ≤ big) ∧ K (.sl nl (l.flatMap AV.cells ++ cs).length 0 (l.length + n)) (some (.new ⟨k, l.flatMap AV.cells ++ cs, .live⟩)))
      | _ => False
  | op => optK (ev L σ nl [] r op) fun p => K p.1 p.2
theorem zwIQ {n : Int} : inR n = true ↔ -9223372036854775808 ≤ n ∧ n ≤ 9223372036854775807 := by
  simp [inR]
theorem zz1Q {n : Int} {K : AV → Prop} (h : fitK n K) : inR n = true ∧ K (.int n) := ⟨zwIQ.2 h.1, h.2⟩
theorem zmK6 {o : Bin} {x y : Int} {K : AV → Prop} (h : binK o x y K) : ∃ v, bin o x y = some v ∧ K v := by
  cases o <;> simp only [binK] at h <;> simp only [bin]
  case add => obtain ⟨h1, h2⟩ := zz1Q h; exact ⟨_, by rw [if_pos h1], h2⟩
  case sub => obtain ⟨h1, h2⟩ := zz1Q h; exact ⟨_, by rw [if_pos h1], h2⟩
  case mul => obtain ⟨h1, h2⟩ := zz1Q h; exact ⟨_, by rw [if_pos h1], h2⟩
  case quo => obtain ⟨h0, h1, h2⟩ := And.intro h.1 (zz1Q h.2); exact ⟨_, by simp [h0, h1], h2⟩
  case rem => exact ⟨_, by simp [h.1], h.2⟩
  case eql => exact ⟨_, rfl, by rwa [show (x == y) = decide (x = y) from rfl]⟩
  case neq => exact ⟨_, rfl, by rwa [show (x == y) = decide (x = y) from rfl]⟩
  all_goals exact ⟨_, rfl, h⟩
theorem zbfl {L : CE} {f : Nat} {args : List AV} {K : AV → Prop} (h : pclK L f args K) : ∃ v, pcl L f args = some v ∧ K v := by
  obtain ⟨h1, h2⟩ := h
  obtain ⟨u, h3, h4⟩ := zO1M h2
  exact ⟨u, by unfold pcl; rw [if_pos h1]; exact h3, h4⟩
theorem LX_s {L : CE} {f : Nat} {args : List AV} {σ : List Blk} {K : AV → List Blk → Prop} (h : LX L f args σ K) : ∃ v σ', L f args σ = some (v, σ') ∧ K v σ' := by
  obtain ⟨⟨v, σ'⟩, h1, h2⟩ := zO1M h
  exact ⟨v, σ', h1, h2⟩
theorem LX_of {L : CE} {f : Nat} {args : List AV} {σ σ' : List Blk} {v : AV} {K : AV → List Blk → Prop} (h : L f args σ = some (v, σ')) (k : K v σ') : LX L f args σ K := by unfold LX; rw [h]; exact k
theorem zx72 {L : CE} {f : Nat} {args : List AV} {r : AV} (h : LX L f args [] fun v σ' => optK (viewT σ' false v) (· = r)) : PCx L f args = some r := by
  obtain ⟨v, σ', h1, h2⟩ := LX_s h
  obtain ⟨u, h3, rfl⟩ := zO1M h2
  simp only [PCx, h1, h3]
theorem LX_eq {L : CE} {f : Nat} {args : List AV} {σ σ' : List Blk} {v : AV} (h : LX L f args σ fun v' τ => v' = v ∧ τ = σ') : L f args σ = some (v, σ') := by
  obtain ⟨v', τ, h1, rfl, rfl⟩ := LX_s h
  exact h1
theorem evK_s {L : CE} {σ : List Blk} {nl : Nat} {r : Rf → AV} {op : IOp} {K : AV → Option Pend → Prop} (h : evK L σ nl r op K) : ∃ v p, ev L σ nl [] r op = some (v, p) ∧ K v p := by
  unfold evK at h
  cases op
  case bin o x y =>
    simp only at h
    split at h
    · rename_i a b ha hb
      obtain ⟨v, h1, h2⟩ := zmK6 h
      exact ⟨v, none, by simp only [ev, ha, hb, h1]; rfl, h2⟩
    · exact h.elim
  case iad x i st =>
    simp only at h
    split at h
    · rename_i q l n ha hb
      obtain ⟨h0, y, h1, h2, h3⟩ := h
      exact ⟨_, _, by simp [ev, ha, hb, h0, h1, h2], h3⟩
    · rename_i b u off len n ha hb
      obtain ⟨h0, h1⟩ := h
      exact ⟨_, _, by simp only [ev, ha, hb]; rw [if_pos h0], h1⟩
    · exact h.elim
  case iada x i n k =>
    simp only at h
    split at h
    · rename_i b u o j ha hb
      obtain ⟨h0, h1⟩ := h
      exact ⟨_, _, by simp only [ev, ha, hb]; rw [if_pos h0], h1⟩
    · rename_i v j ha hb
      obtain ⟨h0, h1⟩ := h
      obtain ⟨y, h2, h3⟩ := zO1M h1
      exact ⟨_, _, by simp only [ev, ha, hb]; rw [if_pos h0, h2]; rfl, h3⟩
    · exact h.elim
  case cal f args =>
    obtain ⟨v, h1, h2⟩ := zbfl h
    exact ⟨v, none, by simp [ev, h1], h2⟩
  case cald x args =>
    simp only at h
    split at h
    · rename_i f caps ha
      obtain ⟨v, h1, h2⟩ := zbfl h
      exact ⟨v, none, by simp only [ev, ha, h1]; rfl, h2⟩
    · exact h.elim
  case inv x tbl args =>
    simp only at h
    split at h
    · rename_i t q ha
      split at h
      · rename_i f hf
        obtain ⟨v, h1, h2⟩ := zbfl h
        exact ⟨v, none, by simp only [ev, ha, hf, h1]; rfl, h2⟩
      · exact h.elim
    · exact h.elim
  case ld x k =>
    simp only at h
    split at h
    · rename_i v ha
      split at h
      · exact h.elim
      · rename_i v hv; exact ⟨_, none, by simp only [ev, ha], h⟩
      · obtain ⟨h1, h2⟩ := h; exact ⟨_, none, by simp [ev, ha, h1], h2⟩
      · exact h.elim
    · rename_i b u o ha
      obtain ⟨B, hB, h⟩ := zO1M h
      obtain ⟨h1, h⟩ := h
      obtain ⟨y, h2, h3⟩ := zO1M h
      exact ⟨y, none, by simp only [ev, ha, hB]; rw [if_pos h1, h2]; rfl, h3⟩
    · exact h.elim
  case cvi x =>
    simp only at h
    split at h
    · rename_i n ha
      obtain ⟨h1, h2⟩ := zz1Q h
      exact ⟨_, none, by simp only [ev, ha]; rw [if_pos h1], h2⟩
    · rename_i k n ha
      obtain ⟨h1, h2⟩ := zz1Q h
      exact ⟨_, none, by simp only [ev, ha]; rw [if_pos h1], h2⟩
    · exact h.elim
  case slc x lo hi st =>
    simp only at h
    split at h
    · rename_i a b ha hb
      split at h
      · rename_i nn l hx
        obtain ⟨h0, h1⟩ := h
        exact ⟨_, _, by simp only [ev, ha, hb, hx]; rw [if_pos h0], h1⟩
      · rename_i b' u off len hx
        obtain ⟨B, hB, h0, h1⟩ := zO1M h
        exact ⟨_, _, by simp only [ev, ha, hb, hx, hB]; rw [if_pos h0], h1⟩
      · exact h.elim
    · exact h.elim
  case cab f args =>
    obtain ⟨vs, h1, h2⟩ := zO1M h
    obtain ⟨v, σ', h3, h4⟩ := LX_s h2
    obtain ⟨u, h5, h6⟩ := zO1M h4
    exact ⟨u, none, by simp only [ev, h1, h3, h5]; rfl, h6⟩
  case can f args =>
    obtain ⟨h1, h2⟩ := h
    obtain ⟨v, σ', h3, h4⟩ := LX_s h2
    exact ⟨_, _, by simp only [ev]; rw [if_pos h1, h3], h4⟩
  case mks n c z k =>
    simp only at h
    split at h
    · rename_i n c ha hb
      obtain ⟨h0, h1⟩ := h
      exact ⟨_, _, by simp only [ev, ha, hb]; rw [if_pos h0], h1⟩
    · exact h.elim
  case app s x k =>
    simp only at h
    split at h
    · exact h.elim
    · rename_i n cs hx
      split at h
      · rename_i b u off len hs
        obtain ⟨B, hB, ⟨h1, h2, h3, h4⟩, h5, h6⟩ := zO1M h
        by_cases hn : n = 0
        · subst hn
          exact ⟨_, _, by simp only [ev, hx, hs, hB]; rw [if_pos (by simp [h1, h2, h4, grows]; omega)]; simp, h5 rfl⟩
        · obtain ⟨h7, h8⟩ := h6 hn
          exact ⟨_, _, by simp only [ev, hx, hs, hB]; rw [if_pos (by simp [h1, h2, h4, grows]; omega)]; rw [if_neg (by simpa using hn), if_neg (by simpa using h7)], h8⟩
      · rename_i hs
        by_cases hn : n = 0
        · subst hn
          exact ⟨_, _, by simp only [ev, hx, hs]; simp, h.1 rfl⟩
        · obtain ⟨h7, h8⟩ := h.2 hn
          exact ⟨_, _, by simp only [ev, hx, hs]; rw [if_neg (by simpa using hn), if_pos h7], h8⟩
      · rename_i l hs
        by_cases hn : n = 0
        · subst hn
          exact ⟨_, _, by simp only [ev, hx, hs]; simp, h.1 rfl⟩
        · obtain ⟨⟨h7, h9⟩, h8⟩ := h.2 hn
          exact ⟨_, _, by simp only [ev, hx, hs]; rw [if_neg (by simpa using hn), if_pos (by simp [h7, h9])], h8⟩
      · exact h.elim
  all_goals
    obtain ⟨⟨v, p⟩, h1, h2⟩ := zO1M h
    exact ⟨v, p, h1, h2⟩
def putK (cs : List AV) (o : Nat) (new : List AV) (K : List AV → Prop) : Prop := o + new.length ≤ cs.length ∧ K (putAt cs o new)
def evWK (L : CE) (σ : List Blk) (r : Rf → AV) (op : IOp) (K : AV → List Blk → Prop) : Prop :=
  match op with
  | .st p x n => match r p with
    | .ptr b u o => optK (upto σ b u) fun B => ((r x).cells.length = n ∧ B.st.isLive = true ∧ notUnd (r x) = true) ∧ putK B.cells o (r x).cells fun cs => K .und (setB σ b ⟨B.k, cs, B.st⟩)
    | _ => False
  | .appw s x k => match srcCells σ k (r x) with
    | none => False
    | some (n, cs) => match r s with
      | .sl b u off len => optK (upto σ b u) fun B => okIf (off = 0 ∧ len + n ≤ big ∧ eqK B.k k = true ∧ (n ≠ 0 → cs.length ≠ 0)) ((n = 0 → K (.sl b u off len) σ) ∧ (n ≠ 0 → u = len * kst k → K (.sl b (u + cs.length) 0 (len + n)) (setB σ b ⟨B.k, B.cells ++ cs, .live⟩)) ∧ (n ≠ 0 → u ≠ len * kst k → (len + n) * kst k ≤ u ∧ K (.sl b u 0 (len + n)) (setB σ b ⟨B.k, putAt B.cells (len * kst k) cs, B.st⟩)))
      | .snil => (n = 0 → K .snil σ) ∧ (n ≠ 0 → n ≤ big ∧ K (.sl σ.length cs.length 0 n) (σ ++ [⟨k, cs, .live⟩]))
      | .arr l => (n = 0 → K (if noLocs l then .imm true l else .arr l) σ) ∧ (n ≠ 0 → (fitAll (kst k) l = true ∧ l.length + n ≤ big) ∧ K (.sl σ.length (l.flatMap AV.cells ++ cs).length 0 (l.length + n)) (σ ++ [⟨k, l.flatMap AV.cells ++ cs, .live⟩]))
      | _ => False
  | .cam f args => LX L f (args.map r) σ K
  | .camd x args => match r x with
    | .func f caps => LX L f (args.map r ++ caps) σ K
    | _ => False
  | .invm x tbl args => match r x with
    | .iface t v => match lookT tbl t with
      | some f => LX L f (v :: args.map r) σ K
      | none => False
    | _ => False
  | op => optK (evW L σ r op) fun p => K p.1 p.2
theorem zNev {L : CE} {σ : List Blk} {r : Rf → AV} {op : IOp} {K : AV → List Blk → Prop} (h : evWK L σ r op K) : ∃ v σ', evW L σ r op = some (v, σ') ∧ K v σ' := by
  unfold evWK at h
  cases op
  case st p x n =>
    simp only at h
    split at h
    · rename_i b u o ha
      obtain ⟨B, hB, ⟨h1, h2, h3⟩, h4, h5⟩ := zO1M h
      exact ⟨.und, _, by simp only [evW, ha, hB]; simp [h1, h2, h3, show o + n ≤ B.cells.length by rw [← h1]; exact h4], h5⟩
    · exact h.elim
  case appw s x k =>
    simp only at h
    split at h
    · exact h.elim
    · rename_i n cs hx
      split at h
      · rename_i b u off len hs
        obtain ⟨B, hB, ⟨h1, h2, h3, h4⟩, h5, h6, h7⟩ := zO1M h
        by_cases hn : n = 0
        · subst hn
          exact ⟨_, _, by simp only [evW, hx, hs, hB]; rw [if_pos (by simp [h1, h3]; omega)]; simp, h5 rfl⟩
        · have hc := h4 hn
          by_cases hu : u = len * kst k
          · exact ⟨_, _, by simp only [evW, hx, hs, hB]; rw [if_pos (by simp [h1, h3]; omega)]; rw [if_neg (by simpa using hn), if_neg (by simpa using hc), if_pos (by simpa using hu)], h6 hn hu⟩
          · obtain ⟨h8, h9⟩ := h7 hn hu
            exact ⟨_, _, by simp only [evW, hx, hs, hB]; rw [if_pos (by simp [h1, h3]; omega)]; rw [if_neg (by simpa using hn), if_neg (by simpa using hc), if_neg (by simpa using hu), if_pos h8], h9⟩
      · rename_i hs
        by_cases hn : n = 0
        · subst hn
          exact ⟨_, _, by simp only [evW, hx, hs]; simp, h.1 rfl⟩
        · obtain ⟨h7, h8⟩ := h.2 hn
          exact ⟨_, _, by simp only [evW, hx, hs]; rw [if_neg (by simpa using hn), if_pos h7], h8⟩
      · rename_i l hs
        by_cases hn : n = 0
        · subst hn
          exact ⟨_, _, by simp only [evW, hx, hs]; simp, h.1 rfl⟩
        · obtain ⟨⟨h7, h9⟩, h8⟩ := h.2 hn
          exact ⟨_, _, by simp only [evW, hx, hs]; rw [if_neg (by simpa using hn), if_pos (by simp [h7, h9])], h8⟩
      · exact h.elim
  case cam f args =>
    obtain ⟨v, σ', h1, h2⟩ := LX_s h
    exact ⟨v, σ', h1, h2⟩
  case camd x args =>
    simp only at h
    split at h
    · rename_i f caps ha
      obtain ⟨v, σ', h1, h2⟩ := LX_s h
      exact ⟨v, σ', by simp only [evW, ha]; exact h1, h2⟩
    · exact h.elim
  case invm x tbl args =>
    simp only at h
    split at h
    · rename_i t q ha
      split at h
      · rename_i f hf
        obtain ⟨v, σ', h1, h2⟩ := LX_s h
        exact ⟨v, σ', by simp only [evW, ha, hf]; exact h1, h2⟩
      · exact h.elim
    · exact h.elim
  all_goals
    obtain ⟨⟨v, p⟩, h1, h2⟩ := zO1M h
    exact ⟨v, p, h1, h2⟩
def pendK (K : List AV → List Blk → List Blk → Prop) (env : List AV) (σp σ : List Blk) (v : AV) : Option Pend → Prop
  | none => K (v :: env) σp σ
  | some p => K (v :: env) σ (commit σ p)
def lnK (L : CE) (vars : List AV) (op : IOp) (prev : Bool) (env : List AV) (σp σ : List Blk) (K : List AV → List Blk → List Blk → Prop) : Prop :=
  match op.isW, prev, op.isE with
  | true, _, _ => evWK L σ (rv vars env) op fun v σ' => K (v :: env) [] σ'
  | false, true, true => evK L σp σ.length (rv vars env) op (pendK K env σ σ)
  | false, true, false => evK L σp σ.length (rv vars env) op (pendK K env σp σ)
  | false, false, true => evK L σ σ.length (rv vars env) op (pendK K env σ σ)
  | false, false, false => evK L σ σ.length (rv vars env) op (pendK K env σp σ)
def gK (b : Bool) (A B : Prop) : Prop := (b = true → A) ∧ (b = false → B)
theorem z2ae {A B : Prop} : gK true A B = A := by simp [gK]
theorem zmrn {A B : Prop} : gK false A B = B := by simp [gK]
theorem zlJl {b : Bool} {A B : Prop} : gK b A B = ((b = true → A) ∧ (b = false → B)) := rfl
def LK (L : CE) (vars : List AV) : List Ln → List AV → List Blk → List Blk → (List AV → List Blk → Prop) → Prop
  | [], env, _, σ, K => K env σ
  | ⟨op, g, prev⟩ :: ls, env, σp, σ, K => match g with
    | none => lnK L vars op prev env σp σ fun env σp σ => LK L vars ls env σp σ K
    | some (.t d, w) => match nth env d with
      | .bool b => match w with
        | true => gK b (lnK L vars op prev (setN env d (.bool true)) σp σ fun env σp σ => LK L vars ls env σp σ K) (LK L vars ls (.tup [] :: setN env d (.bool false)) σp σ K)
        | false => gK b (LK L vars ls (.tup [] :: setN env d (.bool true)) σp σ K) (lnK L vars op prev (setN env d (.bool false)) σp σ fun env σp σ => LK L vars ls env σp σ K)
      | .tup [] => LK L vars ls (.tup [] :: env) σp σ K
      | _ => False
    | some (.v k, w) => match nth vars k with
      | .bool b => match w with
        | true => gK b (lnK L vars op prev env σp σ fun env σp σ => LK L vars ls env σp σ K) (LK L vars ls (.tup [] :: env) σp σ K)
        | false => gK b (LK L vars ls (.tup [] :: env) σp σ K) (lnK L vars op prev env σp σ fun env σp σ => LK L vars ls env σp σ K)
      | .tup [] => LK L vars ls (.tup [] :: env) σp σ K
      | _ => False
    | some (.c _, _) => False
theorem zRWW : ∀ {l : List AV} {d : Nat} {x : AV}, x ≠ .und → nth l d = x → setN l d x = l
  | [], d, x, hx, h => by simp [nth] at h; exact absurd h.symm hx
  | y :: r, 0, x, _, h => by simp [nth] at h; simp [setN, h]
  | y :: r, d + 1, x, hx, h => by simp only [nth] at h; simp [setN, zRWW hx h]
theorem lnK_s {L : CE} {vars : List AV} {op : IOp} {g : Option (Rf × Bool)} {prev : Bool} {env : List AV} {σp σ : List Blk} {K : List AV → List Blk → List Blk → Prop} (hw : want vars env g = some true) (h : lnK L vars op prev env σp σ K) :
    ∃ s, line1 L vars ⟨env, σp, σ⟩ ⟨op, g, prev⟩ = some s ∧ K s.env s.σp s.σ := by
  unfold lnK at h
  unfold line1
  simp only [hw]
  have fin : ∀ σ0 σ1, (if prev = true then σp else σ) = σ0 → (if op.isE = true then σ else σp) = σ1 → op.isW = false → evK L σ0 σ.length (rv vars env) op (pendK K env σ1 σ) →
      ∃ s, (if op.isW = true then match evW L σ (rv vars env) op with
        | some (v, σ') => some (⟨v :: env, [], σ'⟩ : LS)
        | none => none
      else match ev L (if prev = true then σp else σ) σ.length [] (rv vars env) op with
        | some (v, none) => some ⟨v :: env, if op.isE = true then σ else σp, σ⟩
        | some (v, some p) => some ⟨v :: env, σ, commit σ p⟩
        | none => none) = some s ∧ K s.env s.σp s.σ := fun σ0 σ1 e0 e1 hW h => by
    obtain ⟨v, p, h1, h2⟩ := evK_s h
    rw [if_neg (by simp [hW]), e0, e1, h1]
    cases p with
    | none => exact ⟨_, rfl, h2⟩
    | some p => exact ⟨_, rfl, h2⟩
  split at h
  · rename_i hW
    obtain ⟨v, σ', h1, h2⟩ := zNev h
    rw [if_pos hW, h1]
    exact ⟨_, rfl, h2⟩
  · rename_i h1 h2; exact fin _ _ (by simp) (by simp [h2]) h1 h
  · rename_i h1 h2; exact fin _ _ (by simp) (by simp [h2]) h1 h
  · rename_i h1 h2; exact fin _ _ (by simp) (by simp [h2]) h1 h
  · rename_i h1 h2; exact fin _ _ (by simp) (by simp [h2]) h1 h
theorem zChx {L : CE} {vars : List AV} {op : IOp} {g : Option (Rf × Bool)} {prev : Bool} {ls : List Ln} {env env' : List AV} {σp σ : List Blk} {K : List AV → List Blk → Prop} (e : env' = env) (hw : want vars env' g = some false)
    (h : ∃ q, lines L vars ls ⟨.tup [] :: env', σp, σ⟩ = some q ∧ K q.env q.σ) : ∃ q, lines L vars (⟨op, g, prev⟩ :: ls) ⟨env, σp, σ⟩ = some q ∧ K q.env q.σ := by
  subst e
  obtain ⟨q, h1, h2⟩ := h
  exact ⟨q, by simp only [lines, line1, hw]; exact h1, h2⟩
theorem LK_go {L : CE} {vars : List AV} {op : IOp} {g : Option (Rf × Bool)} {prev : Bool} {ls : List Ln} {env env' : List AV} {σp σ : List Blk} {K : List AV → List Blk → Prop} {J : List AV → List Blk → List Blk → Prop} (e : env' = env) (hw : want vars env' g = some true)
    (h : lnK L vars op prev env' σp σ J) (hJ : ∀ env σp σ, J env σp σ → ∃ q, lines L vars ls ⟨env, σp, σ⟩ = some q ∧ K q.env q.σ) : ∃ q, lines L vars (⟨op, g, prev⟩ :: ls) ⟨env, σp, σ⟩ = some q ∧ K q.env q.σ := by
  subst e
  obtain ⟨s, h1, h2⟩ := lnK_s hw h
  obtain ⟨q, h3, h4⟩ := hJ _ _ _ h2
  exact ⟨q, by simp only [lines, h1]; exact h3, h4⟩
theorem LK_s {L : CE} {vars : List AV} : ∀ {ls : List Ln} {env : List AV} {σp σ : List Blk} {K : List AV → List Blk → Prop}, LK L vars ls env σp σ K → ∃ q, lines L vars ls ⟨env, σp, σ⟩ = some q ∧ K q.env q.σ
  | [], env, σp, σ, K, h => ⟨_, rfl, h⟩
  | ⟨op, g, prev⟩ :: ls, env, σp, σ, K, h => by
    unfold LK at h
    split at h
    · exact LK_go rfl rfl h fun _ _ _ h => LK_s h
    · rename_i d w
      split at h
      · rename_i b hb
        have e : ∀ q, b = q → setN env d (.bool q) = env := fun q hq => zRWW (by simp) (hq ▸ hb)
        cases w with
        | true =>
          simp only [gK] at h
          cases b with
          | true => exact LK_go (e true rfl) (by rw [e true rfl]; simp [want, rv, hb]) (h.1 rfl) fun _ _ _ h => LK_s h
          | false => exact zChx (e false rfl) (by rw [e false rfl]; simp [want, rv, hb]) (LK_s (h.2 rfl))
        | false =>
          simp only [gK] at h
          cases b with
          | true => exact zChx (e true rfl) (by rw [e true rfl]; simp [want, rv, hb]) (LK_s (h.1 rfl))
          | false => exact LK_go (e false rfl) (by rw [e false rfl]; simp [want, rv, hb]) (h.2 rfl) fun _ _ _ h => LK_s h
      · rename_i hb
        exact zChx rfl (by simp [want, rv, hb]) (LK_s h)
      · exact h.elim
    · rename_i k w
      split at h
      · rename_i b hb
        cases w with
        | true =>
          simp only [gK] at h
          cases b with
          | true => exact LK_go rfl (by simp [want, rv, hb]) (h.1 rfl) fun _ _ _ h => LK_s h
          | false => exact zChx rfl (by simp [want, rv, hb]) (LK_s (h.2 rfl))
        | false =>
          simp only [gK] at h
          cases b with
          | true => exact zChx rfl (by simp [want, rv, hb]) (LK_s (h.1 rfl))
          | false => exact LK_go rfl (by simp [want, rv, hb]) (h.2 rfl) fun _ _ _ h => LK_s h
      · rename_i hb
        exact zChx rfl (by simp [want, rv, hb]) (LK_s h)
      · exact h.elim
    · exact h.elim
@[reducible] def flOf (env : List AV) : Option (Nat × Nat) → Option (Nat × AV)
  | some (t, d) => some (t, nth env d)
  | none => none
def WK (L : CE) : IC → List AV → Option (Nat × AV) → List Blk → (Ex → St → Prop) → Prop
  | .skip, vars, fl, σ, Q => Q .nor ⟨vars, fl, σ⟩
  | .reg r, vars, _, σ, Q => LK L vars r.ls [] σ σ fun env σ => Q .nor ⟨kills r.kills (outs env r.outs vars), flOf env r.fl, σ⟩
  | .seq a b, vars, fl, σ, Q => WK L a vars fl σ fun e s => match e with
    | .nor => WK L b s.vars s.fl s.σ Q
    | e => Q e s
  | .cond t a b, vars, fl, σ, Q => match fl with
    | some (t', .bool c) => t' = t ∧ gK c (WK L a vars none σ Q) (WK L b vars none σ Q)
    | _ => False
  | .condv k a b, vars, fl, σ, Q => match nth vars k with
    | .bool c => gK c (WK L a vars fl σ Q) (WK L b vars fl σ Q)
    | _ => False
  | .block id c, vars, fl, σ, Q => WK L c vars fl σ (Out id Q)
  | .exit id, vars, fl, σ, Q => Q (.exit id) ⟨vars, fl, σ⟩
  | .ret, vars, fl, σ, Q => Q .ret ⟨vars, fl, σ⟩
  | .bad, _, _, _, _ => False
  | .cut _ c, vars, fl, σ, Q => WK L c vars fl σ Q
  | .scp c, vars, fl, σ, Q => WK L c vars fl σ Q
  | c, vars, fl, σ, Q => W L c ⟨vars, fl, σ⟩ Q
def Thn (L : CE) (d : IC) (Q : Ex → St → Prop) : Ex → St → Prop := fun e s => match e with
  | .nor => WK L d s.vars s.fl s.σ Q
  | e => Q e s
theorem WK_s {L : CE} : ∀ {c : IC} {vars : List AV} {fl : Option (Nat × AV)} {σ : List Blk} {Q : Ex → St → Prop}, WK L c vars fl σ Q → W L c ⟨vars, fl, σ⟩ Q
  | .skip, vars, fl, σ, Q, h => z951 h
  | .reg r, vars, fl, σ, Q, h => by
    unfold WK at h
    obtain ⟨q, h1, h2⟩ := LK_s h
    refine W_reg (s' := ⟨kills r.kills (outs q.env r.outs vars), flOf q.env r.fl, q.σ⟩) ?_ h2
    simp only [runReg, h1]
    rfl
  | .seq a b, vars, fl, σ, Q, h => W_seq ((WK_s (c := a) h).mono fun e s hq => by
    cases e with
    | nor => exact WK_s (c := b) hq
    | exit j => exact hq
    | ret => exact hq)
  | .cond t a b, vars, fl, σ, Q, h => by
    unfold WK at h
    split at h
    · obtain ⟨rfl, h1, h2⟩ := h
      exact zSdA (fun e => WK_s (h1 e)) (fun e => WK_s (h2 e))
    · exact h.elim
  | .condv k a b, vars, fl, σ, Q, h => by
    unfold WK at h
    split at h
    · rename_i c hc
      exact zz9J hc (fun e => WK_s (h.1 e)) (fun e => WK_s (h.2 e))
    · exact h.elim
  | .block id c, vars, fl, σ, Q, h => z5Jx (WK_s (c := c) h)
  | .exit id, vars, fl, σ, Q, h => zoo3 h
  | .ret, vars, fl, σ, Q, h => W_ret h
  | .loop c, vars, fl, σ, Q, h => h
  | .frz k, vars, fl, σ, Q, h => h
  | .lex c, vars, fl, σ, Q, h => h
  | .bad, vars, fl, σ, Q, h => h.elim
  | .cut b c, vars, fl, σ, Q, h => by
    obtain ⟨n, e, s', h1, h2⟩ := WK_s (c := c) h
    exact ⟨n, e, s', by simpa only [exec] using h1, h2⟩
  | .scp c, vars, fl, σ, Q, h => by
    obtain ⟨n, e, s', h1, h2⟩ := WK_s (c := c) h
    exact ⟨n, e, s', by simpa only [exec] using h1, h2⟩
section
variable {L : CE} {vars : List AV} {fl : Option (Nat × AV)} {σ : List Blk} {Q : Ex → St → Prop}
theorem z6Ss : WK L .skip vars fl σ Q = Q .nor ⟨vars, fl, σ⟩ := (rfl)
theorem zmLe {r : Reg} : WK L (.reg r) vars fl σ Q = LK L vars r.ls [] σ σ fun env σ => Q .nor ⟨kills r.kills (outs env r.outs vars), flOf env r.fl, σ⟩ := (rfl)
theorem zJsO {a b : IC} : WK L (.seq a b) vars fl σ Q = WK L a vars fl σ (Thn L b Q) := (rfl)
theorem zHvT {t : Nat} {a b : IC} {c : Bool} : WK L (.cond t a b) vars (some (t, .bool c)) σ Q = gK c (WK L a vars none σ Q) (WK L b vars none σ Q) := by
  apply propext
  exact ⟨fun h => h.2, fun h => ⟨rfl, h⟩⟩
theorem zdOm {k : Nat} {a b : IC} : WK L (.condv k a b) vars fl σ Q = match nth vars k with
    | .bool c => gK c (WK L a vars fl σ Q) (WK L b vars fl σ Q)
    | _ => False := by conv => lhs; unfold WK
theorem zcRs {id : Nat} {c : IC} : WK L (.block id c) vars fl σ Q = WK L c vars fl σ (Out id Q) := (rfl)
theorem zW2j {id : Nat} : WK L (.exit id) vars fl σ Q = Q (.exit id) ⟨vars, fl, σ⟩ := (rfl)
theorem zNVm : WK L .ret vars fl σ Q = Q .ret ⟨vars, fl, σ⟩ := (rfl)
theorem zpPi {c : IC} : WK L (.loop c) vars fl σ Q = W L (.loop c) ⟨vars, fl, σ⟩ Q := (rfl)
theorem zpUY {k : Nat} : WK L (.frz k) vars fl σ Q = W L (.frz k) ⟨vars, fl, σ⟩ Q := (rfl)
theorem z9vZ {c : IC} : WK L (.lex c) vars fl σ Q = W L (.lex c) ⟨vars, fl, σ⟩ Q := (rfl)
theorem zxBG : WK L .bad vars fl σ Q = False := (rfl)
theorem zCJV {b : Bool} {c : IC} : WK L (.cut b c) vars fl σ Q = WK L c vars fl σ Q := (rfl)
theorem z4aM {c : IC} : WK L (.scp c) vars fl σ Q = WK L c vars fl σ Q := (rfl)
theorem zmRO {d : IC} : Thn L d Q .nor ⟨vars, fl, σ⟩ = WK L d vars fl σ Q := (rfl)
theorem z2cA {d : IC} {s : St} : Thn L d Q .ret s = Q .ret s := (rfl)
theorem zTRw {d : IC} {s : St} {j : Nat} : Thn L d Q (.exit j) s = Q (.exit j) s := (rfl)
theorem zSxT {id : Nat} {s : St} : Out id Q .nor s = Q .nor s := (rfl)
theorem zx8A {id : Nat} {s : St} : Out id Q .ret s = Q .ret s := (rfl)
theorem zNM9 {id j : Nat} {s : St} : Out id Q (.exit j) s = if j = id then Q .nor s else Q (.exit j) s := (rfl)
theorem zOGX {I : St → Prop} {μ : St → Nat} {m : Nat} {s : St} : Again I μ m Q .nor s = (I s ∧ μ s < m) := (rfl)
theorem zlEe {I : St → Prop} {μ : St → Nat} {m : Nat} {s : St} : Again I μ m Q .ret s = Q .ret s := (rfl)
theorem zRmy {I : St → Prop} {μ : St → Nat} {m j : Nat} {s : St} : Again I μ m Q (.exit j) s = Q (.exit j) s := (rfl)
end
def EndsK (fn : Fn) (K : AV → List Blk → Prop) : Ex → St → Prop
  | .exit _, _ => False
  | _, s => optK (results fn s) fun v => K v s.σ
theorem zc3F {G : Nat → Option Fn} {P : Prims} (hQ : PrimsMono P) {f : Nat} (fn : Fn) {args : List AV} {σ : List Blk} {K : AV → List Blk → Prop} (hq : P f = none) (hg : G f = some fn) (hl : args.length = fn.np)
    (h : WK (lim G P) fn.body (args ++ List.replicate (fn.nv - fn.np) .und) none σ (EndsK fn K)) : LX (lim G P) f args σ K := by
  obtain ⟨n, e, s, h1, h2⟩ := WK_s h
  cases e with
  | exit j => exact h2.elim
  | nor => obtain ⟨v, h3, h4⟩ := zO1M h2; exact LX_of (zDmB hQ hq hg hl h1 (fun j => by simp) h3) h4
  | ret => obtain ⟨v, h3, h4⟩ := zO1M h2; exact LX_of (zDmB hQ hq hg hl h1 (fun j => by simp) h3) h4
attribute [simp ↓] binK fitK okIf partK pclK
attribute [irreducible] WK
end Ab
namespace Ab
universe u
inductive Tk {α : Sort u} (a : α) : Type
  | k
def nx (x : AV) (K : AV → Prop) (_ : Tk K) : Prop := K x
def nL (l : List AV) (K : List AV → Prop) (_ : Tk K) : Prop := K l
def nB (l : List Blk) (K : List Blk → Prop) (_ : Tk K) : Prop := K l
def nC (l : List AV) (K : List AV → Prop) (_ : Tk K) : Prop := K l
def oK {α : Type} (o : Option α) (K : α → Prop) (_ : Tk K) : Prop := optK o K
def gT (b : Bool) (A B : Prop) (_ : Tk A) (_ : Tk B) : Prop := gK b A B
def im (p A : Prop) (_ : Tk A) : Prop := p → A
def xK (l : List AV) (n : Int) (K : AV → Prop) (_ : Tk K) : Prop := idxK l n K
def lX (L : CE) (f : Nat) (args : List AV) (σ : List Blk) (K : AV → List Blk → Prop) (_ : Tk K) : Prop := LX L f args σ K
def pT (cs : List AV) (off : Nat) (k : Option Nat) (K : AV → Prop) (_ : Tk K) : Prop := optK (part cs off k) K
def pU (cs : List AV) (o : Nat) (new : List AV) (K : List AV → Prop) (_ : Tk K) : Prop := putK cs o new K
def bk (o : Option Blk) (u : Nat) (K : Option Nat → List AV → BSt → Prop) (_ : Tk K) : Prop :=
  match o with
  | some B => (B.cells.length = u ∧ B.st.isArr = true) ∧ K B.k B.cells B.st
  | none => False
section
variable {K : AV → Prop} {t : Tk K}
theorem z4kb {n : Int} : nx (.int n) K t = K (.int n) := (rfl)
theorem nx_ik {k : Nat} {n : Int} : nx (.ik k n) K t = K (.ik k n) := (rfl)
theorem zQd4 {n : Bool} : nx (.bool n) K t = K (.bool n) := (rfl)
theorem zd1J {n : List UInt8} : nx (.str n) K t = K (.str n) := (rfl)
theorem zHcv {l : List AV} : nx (.agg l) K t = K (.agg l) := (rfl)
theorem zevk {l : List AV} : nx (.tup l) K t = K (.tup l) := (rfl)
theorem zRy0 : nx .snil K t = K .snil := (rfl)
theorem zA1P {q : Bool} {l : List AV} : nx (.imm q l) K t = K (.imm q l) := (rfl)
theorem zuI1 {l : List AV} : nx (.arr l) K t = K (.arr l) := (rfl)
theorem nx_sl {b u o n : Nat} : nx (.sl b u o n) K t = K (.sl b u o n) := (rfl)
theorem zBvF : nx .pnil K t = K .pnil := (rfl)
theorem z4V2 {v : AV} : nx (.pimm v) K t = K (.pimm v) := (rfl)
theorem zjbL {b u o : Nat} : nx (.ptr b u o) K t = K (.ptr b u o) := (rfl)
theorem zTKK : nx .fnil K t = K .fnil := (rfl)
theorem zmiW {f : Nat} {l : List AV} : nx (.func f l) K t = K (.func f l) := (rfl)
theorem zBmv : nx .inil K t = K .inil := (rfl)
theorem zha5 {n : Nat} {v : AV} : nx (.iface n v) K t = K (.iface n v) := (rfl)
theorem z0ml {b : Nat} : nx (.mapr b) K t = K (.mapr b) := (rfl)
theorem zdRT : nx .und K t = K .und := (rfl)
theorem zKmm {x : AV} : nx x K t = K x := (rfl)
theorem zYlV {α : Type} {u : α} {K : α → Prop} {t : Tk K} : oK (some u) K t = K u := (rfl)
theorem zLLg {α : Type} {K : α → Prop} {t : Tk K} : oK none K t = False := (rfl)
theorem oK_of {α : Type} {o : Option α} {u : α} {K : α → Prop} {t : Tk K} (h : o = some u) (k : K u) : oK o K t := zP47 h k
theorem oK_s {α : Type} {o : Option α} {K : α → Prop} {t : Tk K} (h : oK o K t) : ∃ u, o = some u ∧ K u := zO1M h
end
theorem zsTQ {K : List AV → Prop} {t : Tk K} : nL [] K t = K [] := (rfl)
theorem zEe0 {x : AV} {l : List AV} {K : List AV → Prop} {t : Tk K} : nL (x :: l) K t = nx x (fun y => nL l (fun l => K (y :: l)) .k) .k := (rfl)
theorem zML8 {l : List AV} {K : List AV → Prop} {t : Tk K} : nL l K t = K l := (rfl)
theorem z9uy {K : List Blk → Prop} {t : Tk K} : nB [] K t = K [] := (rfl)
theorem zv7J {k : Option Nat} {cs : List AV} {st : BSt} {l : List Blk} {K : List Blk → Prop} {t : Tk K} : nB (⟨k, cs, st⟩ :: l) K t = nB l (fun l => K (⟨k, cs, st⟩ :: l)) .k := (rfl)
theorem zeef {l : List Blk} {K : List Blk → Prop} {t : Tk K} : nB l K t = K l := (rfl)
theorem zW2a {l : List AV} {K : List AV → Prop} {t : Tk K} : nC l K t = K l := (rfl)
theorem zrRS {A B : Prop} {t : Tk A} {u : Tk B} : gT true A B t u = A := z2ae
theorem zYzp {A B : Prop} {t : Tk A} {u : Tk B} : gT false A B t u = B := zmrn
theorem zBvv {b : Bool} {A B : Prop} {t : Tk A} {u : Tk B} : gT (!b) A B t u = gT b B A u t := by cases b <;> simp [gT, gK]
theorem zMVd {b : Bool} {A B : Prop} {t : Tk A} {u : Tk B} : gT b A B t u = (im (b = true) A .k ∧ im (b = false) B .k) := (rfl)
theorem z7Sd {p : Prop} [Decidable p] {A B : Prop} {t : Tk A} {u : Tk B} : gT (decide p) A B t u = (im p A .k ∧ im (¬ p) B .k) := by
  by_cases h : p <;> simp [gT, gK, im, h]
theorem z0aq {A : Prop} {t : Tk A} : im True A t = A := by simp [im]
theorem zZTp {A : Prop} {t : Tk A} : im False A t = True := by simp [im]
theorem zFaG {p A : Prop} {t : Tk A} : im p A t = (p → A) := (rfl)
theorem z051 {k : Option Nat} {cs : List AV} {u : Nat} {K : Option Nat → List AV → BSt → Prop} {t : Tk K} : bk (some ⟨k, cs, .live⟩) u K t = (cs.length = u ∧ K k cs .live) := by simp [bk, BSt.isArr]
theorem zP91 {k : Option Nat} {cs : List AV} {st : BSt} {u : Nat} {K : Option Nat → List AV → BSt → Prop} {t : Tk K} : bk (some ⟨k, cs, st⟩) u K t = ((cs.length = u ∧ st.isArr = true) ∧ K k cs st) := (rfl)
theorem zGMv {σ : List Blk} {b u : Nat} {K : Blk → Prop} : optK (upto σ b u) K = bk (blk σ b) u (fun k cs st => K ⟨k, cs, st⟩) .k := by
  unfold upto bk
  cases blk σ b with
  | none => rfl
  | some B =>
    obtain ⟨k, cs, st⟩ := B
    by_cases h : cs.length = u <;> cases st <;> simp [h, optK, BSt.isArr]
@[reducible] def mapR {α β : Type} (f : α → β) : List α → List β
  | [] => []
  | x :: r => f x :: mapR f r
theorem map_R {α β : Type} (f : α → β) : ∀ l : List α, l.map f = mapR f l
  | [] => rfl
  | x :: r => by simp [mapR, map_R f r]
@[reducible] def appR {α : Type} : List α → List α → List α
  | [], m => m
  | x :: r, m => x :: appR r m
theorem app_R {α : Type} : ∀ l m : List α, l ++ m = appR l m
  | [], m => rfl
  | x :: r, m => by simp [appR, app_R r m]
@[reducible] def takeR : Nat → List AV → List AV
  | 0, _ => []
  | _, [] => []
  | n + 1, x :: r => x :: takeR n r
theorem zYuu : ∀ (n : Nat) (l : List AV), l.take n = takeR n l
  | 0, l => by cases l <;> rfl
  | n + 1, [] => rfl
  | n + 1, x :: r => by simp [takeR, zYuu n r]
@[reducible] def dropR : Nat → List AV → List AV
  | 0, l => l
  | _, [] => []
  | n + 1, _ :: r => dropR n r
theorem zatS : ∀ (n : Nat) (l : List AV), l.drop n = dropR n l
  | 0, l => by cases l <;> rfl
  | n + 1, [] => rfl
  | n + 1, x :: r => by simp [dropR, zatS n r]
theorem zPTU {cs : List AV} {off : Nat} {K : AV → Prop} {t : Tk K} : pT cs off none K t = oK (elm cs off) K .k := (rfl)
theorem z66N {cs : List AV} {off n : Nat} {K : AV → Prop} {t : Tk K} : pT cs off (some n) K t = (off + n ≤ cs.length ∧ nL (takeR n (dropR off cs)) (fun l => K (.agg l)) .k) := by
  unfold pT part
  rw [← zYuu, ← zatS]
  by_cases h : off + n ≤ cs.length <;> simp [h, optK, nL]
section
variable {L : CE} {vars env : List AV} {σp σ : List Blk} {K : List AV → List Blk → List Blk → Prop}
def ii (x y : AV) (K : Int → Int → Prop) : Prop := match x, y with
  | .int a, .int b => K a b
  | _, _ => False
theorem zGYW {a b : Int} {K : Int → Int → Prop} : ii (.int a) (.int b) K = K a b := (rfl)
def bb (x y : AV) (K : Bool → Bool → Prop) : Prop := match x, y with
  | .bool a, .bool b => K a b
  | _, _ => False
theorem zT0A {a b : Bool} {K : Bool → Bool → Prop} : bb (.bool a) (.bool b) K = K a b := (rfl)
def b1 (x : AV) (K : Bool → Prop) : Prop := match x with
  | .bool a => K a
  | _ => False
theorem zHIx {a : Bool} {K : Bool → Prop} : b1 (.bool a) K = K a := (rfl)
def ln1 (x : AV) (K : Int → Prop) : Prop := match x with
  | .snil => K 0
  | .imm _ l => K l.length
  | .sl _ _ _ n => K n
  | _ => False
theorem ztFN {K : Int → Prop} : ln1 .snil K = K 0 := (rfl)
theorem zgmP {q : Bool} {l : List AV} {K : Int → Prop} : ln1 (.imm q l) K = K l.length := (rfl)
theorem zfUY {b u o n : Nat} {K : Int → Prop} : ln1 (.sl b u o n) K = K n := (rfl)
def fa1 (x : AV) (off : Nat) (k : Option Nat) (K : AV → Prop) : Prop := match x with
  | .ptr b u o => K (.ptr b u (o + off))
  | .pimm v => pT v.cells off k (fun y => K (.pimm y)) .k
  | _ => False
theorem z5gf {b u o off : Nat} {k : Option Nat} {K : AV → Prop} : fa1 (.ptr b u o) off k K = K (.ptr b u (o + off)) := (rfl)
theorem zPLX {v : AV} {off : Nat} {k : Option Nat} {K : AV → Prop} : fa1 (.pimm v) off k K = pT v.cells off k (fun y => K (.pimm y)) .k := (rfl)
def nc1 (x : AV) (K : AV → Prop) : Prop := match x with
  | .ptr b u o => K (.ptr b u o)
  | .pimm v => K (.pimm v)
  | _ => False
theorem zJvV {b u o : Nat} {K : AV → Prop} : nc1 (.ptr b u o) K = K (.ptr b u o) := (rfl)
theorem zi9t {v : AV} {K : AV → Prop} : nc1 (.pimm v) K = K (.pimm v) := (rfl)
def li1 (x : AV) (k : Option Nat) (K : AV → Prop) : Prop := match x with
  | .pimm v => match k, v with
    | none, .agg _ => False
    | none, v => K v
    | some n, .agg l => l.length = n ∧ K (.agg l)
    | some _, _ => False
  | _ => False
theorem zGgp {n : Int} {K : AV → Prop} : li1 (.pimm (.int n)) none K = K (.int n) := (rfl)
theorem zvnl {n : Bool} {K : AV → Prop} : li1 (.pimm (.bool n)) none K = K (.bool n) := (rfl)
theorem z9bA {n : List UInt8} {K : AV → Prop} : li1 (.pimm (.str n)) none K = K (.str n) := (rfl)
theorem zMMJ {q : Bool} {l : List AV} {K : AV → Prop} : li1 (.pimm (.imm q l)) none K = K (.imm q l) := (rfl)
theorem z1yL {K : AV → Prop} : li1 (.pimm .snil) none K = K .snil := (rfl)
theorem zCOZ {v : AV} {K : AV → Prop} : li1 (.pimm (.pimm v)) none K = K (.pimm v) := (rfl)
theorem z5VG {f : Nat} {l : List AV} {K : AV → Prop} : li1 (.pimm (.func f l)) none K = K (.func f l) := (rfl)
theorem zijj {f : Nat} {l : AV} {K : AV → Prop} : li1 (.pimm (.iface f l)) none K = K (.iface f l) := (rfl)
theorem zc4k {n : Nat} {l : List AV} {K : AV → Prop} : li1 (.pimm (.agg l)) (some n) K = (l.length = n ∧ K (.agg l)) := (rfl)
def fl1 (x : AV) (off : Nat) (k : Option Nat) (K : AV → Prop) : Prop := match x with
  | .agg l => pT l off k K .k
  | _ => False
theorem zBPn {l : List AV} {off : Nat} {k : Option Nat} {K : AV → Prop} : fl1 (.agg l) off k K = pT l off k K .k := (rfl)
def ex1 (x : AV) (i : Nat) (K : AV → Prop) : Prop := match x with
  | .tup l => oK (elm l i) K .k
  | _ => False
theorem zRnu {l : List AV} {i : Nat} {K : AV → Prop} : ex1 (.tup l) i K = oK (elm l i) K .k := (rfl)
def bn1 (σ : List Blk) (x : AV) (K : Bool → Prop) : Prop := match x with
  | .snil => K true
  | .imm true _ => K false
  | .imm false (_ :: _) => K false
  | .sl b u _ _ => optK (upto σ b u) fun B => match B.st with
    | .live => K false
    | _ => False
  | _ => False
theorem zBo4 {K : Bool → Prop} : bn1 σ .snil K = K true := (rfl)
theorem zr8g {l : List AV} {K : Bool → Prop} : bn1 σ (.imm true l) K = K false := (rfl)
theorem zoYf {x : AV} {l : List AV} {K : Bool → Prop} : bn1 σ (.imm false (x :: l)) K = K false := (rfl)
theorem zTCf {b u o n : Nat} {K : Bool → Prop} : bn1 σ (.sl b u o n) K = bk (blk σ b) u (fun _ _ st => st = .live ∧ K false) .k := by
  show optK (upto σ b u) _ = _
  rw [show (fun B : Blk => match B.st with | .live => K false | _ => False) = fun B => B.st = .live ∧ K false from by funext B; cases B.st <;> simp, zGMv]
def ia1 (x i : AV) (st : Nat) (K : AV → Prop) : Prop := match x, i with
  | .imm _ l, .int n => xK l n (fun y => y.cells.length = st ∧ K (.pimm y)) .k
  | .sl b u off len, .int n => okIf (0 ≤ n ∧ n < len) (K (.ptr b u (off + n.toNat * st)))
  | _, _ => False
theorem zITH {q : Bool} {l : List AV} {n : Int} {st : Nat} {K : AV → Prop} : ia1 (.imm q l) (.int n) st K = xK l n (fun y => y.cells.length = st ∧ K (.pimm y)) .k := (rfl)
theorem zMDh {b u off len : Nat} {n : Int} {st : Nat} {K : AV → Prop} : ia1 (.sl b u off len) (.int n) st K = okIf (0 ≤ n ∧ n < len) (K (.ptr b u (off + n.toNat * st))) := (rfl)
def ir1 (x i : AV) (n : Nat) (k : Option Nat) (K : AV → Prop) : Prop := match x, i with
  | .ptr b u o, .int j => okIf (0 ≤ j ∧ j < n) (K (.ptr b u (o + j.toNat * kst k)))
  | .pimm v, .int j => okIf (0 ≤ j ∧ j < n) (pT v.cells (j.toNat * kst k) k (fun y => K (.pimm y)) .k)
  | _, _ => False
theorem zG93 {b u o n : Nat} {j : Int} {k : Option Nat} {K : AV → Prop} : ir1 (.ptr b u o) (.int j) n k K = okIf (0 ≤ j ∧ j < n) (K (.ptr b u (o + j.toNat * kst k))) := (rfl)
theorem zwYd {v : AV} {n : Nat} {j : Int} {k : Option Nat} {K : AV → Prop} : ir1 (.pimm v) (.int j) n k K = okIf (0 ≤ j ∧ j < n) (pT v.cells (j.toNat * kst k) k (fun y => K (.pimm y)) .k) := (rfl)
def fn1 (x : AV) (K : Nat → List AV → Prop) : Prop := match x with
  | .func f caps => K f caps
  | _ => False
theorem zHdE {f : Nat} {caps : List AV} {K : Nat → List AV → Prop} : fn1 (.func f caps) K = K f caps := (rfl)
def if1 (x : AV) (tbl : List (Nat × Nat)) (K : Nat → AV → Prop) : Prop := match x with
  | .iface t v => match lookT tbl t with
    | some f => K f v
    | none => False
  | _ => False
theorem zvie {t : Nat} {v : AV} {tbl : List (Nat × Nat)} {K : Nat → AV → Prop} : if1 (.iface t v) tbl K = oK (lookT tbl t) (fun f => K f v) .k := by cases h : lookT tbl t <;> simp [if1, h, oK, optK]
def i1 (x : AV) (K : Int → Prop) : Prop := match x with
  | .int a => K a
  | .ik _ a => K a
  | _ => False
theorem zruJ {a : Int} {K : Int → Prop} : i1 (.int a) K = K a := (rfl)
theorem i1_ik {k : Nat} {a : Int} {K : Int → Prop} : i1 (.ik k a) K = K a := (rfl)
def st1 (σ : List Blk) (p x : AV) (n : Nat) (K : List Blk → Prop) : Prop := match p with
  | .ptr b u o => optK (upto σ b u) fun B => (x.cells.length = n ∧ B.st.isLive = true ∧ notUnd x = true) ∧ putK B.cells o x.cells fun cs => K (setB σ b ⟨B.k, cs, B.st⟩)
  | _ => False
theorem zfQP {b u o n : Nat} {x : AV} {K : List Blk → Prop} : st1 σ (.ptr b u o) x n K = bk (blk σ b) u (fun k cs st => (x.cells.length = n ∧ st.isLive = true ∧ notUnd x = true) ∧ pU cs o x.cells (fun cs => nC cs (fun cs => nB (setB σ b ⟨k, cs, st⟩) K .k) .k) .k) .k := zGMv
theorem zQ1b {x : Rf} : lnK L vars (.mv x) false env σp σ K = K (rv vars env x :: env) σp σ := (rfl)
theorem z3z9 {o : Bin} {x y : Rf} : lnK L vars (.bin o x y) false env σp σ K = ii (rv vars env x) (rv vars env y) fun a b => binK o a b fun v => K (v :: env) σp σ := (rfl)
theorem zMFh {n : Bool} {x y : Rf} : lnK L vars (.beq n x y) false env σp σ K = bb (rv vars env x) (rv vars env y) fun a b => K (.bool ((a == b) != n) :: env) σp σ := by
  show optK (ev L σ σ.length [] (rv vars env) (.beq n x y)) _ = _
  simp only [ev, bb]
  generalize rv vars env x = p; generalize rv vars env y = q
  cases p <;> cases q <;> rfl
theorem zFf4 {x : Rf} : lnK L vars (.not x) false env σp σ K = b1 (rv vars env x) fun a => K (.bool (!a) :: env) σp σ := by
  show optK (ev L σ σ.length [] (rv vars env) (.not x)) _ = _
  simp only [ev, b1]
  generalize rv vars env x = p
  cases p <;> rfl
theorem zYYZ {c x y : Rf} : lnK L vars (.pick c x y) false env σp σ K = b1 (rv vars env c) fun a => K ((match a with | true => rv vars env x | false => rv vars env y) :: env) σp σ := by
  show optK (ev L σ σ.length [] (rv vars env) (.pick c x y)) _ = _
  simp only [ev, b1]
  cases h : rv vars env c with
  | bool b => cases b <;> rfl
  | _ => rfl
theorem zft4 {x : Rf} : lnK L vars (.len x) false env σp σ K = ln1 (rv vars env x) fun a => K (.int a :: env) σp σ := by
  show optK (ev L σ σ.length [] (rv vars env) (.len x)) _ = _
  simp only [ev, ln1]
  generalize rv vars env x = p
  cases p <;> rfl
theorem zs8b {x y : Rf} : lnK L vars (.mx true x y) false env σp σ K = ii (rv vars env x) (rv vars env y) fun a b => K (.int (max a b) :: env) σp σ := by
  show optK (ev L σ σ.length [] (rv vars env) (.mx true x y)) _ = _
  simp only [ev, ii]
  generalize rv vars env x = p; generalize rv vars env y = q
  cases p <;> cases q <;> try rfl
  rename_i a b
  show K (.int (if a < b then b else a) :: env) σp σ = K (.int (max a b) :: env) σp σ
  rw [show (if a < b then b else a) = max a b by rw [Int.max_def]; split <;> split <;> omega]
theorem zUMX {x y : Rf} : lnK L vars (.mx false x y) false env σp σ K = ii (rv vars env x) (rv vars env y) fun a b => K (.int (min a b) :: env) σp σ := by
  show optK (ev L σ σ.length [] (rv vars env) (.mx false x y)) _ = _
  simp only [ev, ii]
  generalize rv vars env x = p; generalize rv vars env y = q
  cases p <;> cases q <;> try rfl
  rename_i a b
  show K (.int (if b < a then b else a) :: env) σp σ = K (.int (min a b) :: env) σp σ
  rw [show (if b < a then b else a) = min a b by rw [Int.min_def]; split <;> split <;> omega]
theorem z3Tl {x : Rf} {off : Nat} {k : Option Nat} : lnK L vars (.fad x off k) false env σp σ K = fa1 (rv vars env x) off k fun a => K (a :: env) σp σ := by
  show optK (ev L σ σ.length [] (rv vars env) (.fad x off k)) _ = _
  simp only [ev, fa1]
  generalize rv vars env x = p
  cases p <;> try rfl
  rename_i v
  dsimp only [pT]
  cases part v.cells off k <;> rfl
theorem z1RA {x i : Rf} {st : Nat} : lnK L vars (.iad x i st) false env σp σ K = ia1 (rv vars env x) (rv vars env i) st fun v => K (v :: env) σp σ := (rfl)
theorem z1vS {x i : Rf} {n : Nat} {k : Option Nat} : lnK L vars (.iada x i n k) false env σp σ K = ir1 (rv vars env x) (rv vars env i) n k fun v => K (v :: env) σp σ := (rfl)
theorem zM5r {x : Rf} : lnK L vars (.nck x) false env σp σ K = nc1 (rv vars env x) fun a => K (a :: env) σp σ := by
  show optK (ev L σ σ.length [] (rv vars env) (.nck x)) _ = _
  simp only [ev, nc1]
  generalize rv vars env x = p
  cases p <;> rfl
theorem zW4b {α : Type} {c : Prop} [Decidable c] {x : α} {K : α → Prop} : optK (if c then some x else none) K = okIf c (K x) := by
  by_cases h : c <;> simp [h, optK, okIf]
theorem z0Qh {x : Rf} : lnK L vars (.bxi x) false env σp σ K = okIf (noLoc (rv vars env x) = true) (K (.pimm (rv vars env x) :: env) σp σ) := by
  show optK (ev L σ σ.length [] (rv vars env) (.bxi x)) _ = _
  simp only [ev, zW4b, pendK]
theorem zcyy {n : Nat} : lnK L vars (.alc0 n) false env σp σ K = K (.und :: env) σp σ := (rfl)
theorem zznh {p x : Rf} {n : Nat} : lnK L vars (.ini p x n) false env σp σ K = okIf (noLoc (rv vars env x) = true ∧ (rv vars env x).cells.length = n) (K (.pimm (rv vars env x) :: env) σp σ) := by
  show optK (ev L σ σ.length [] (rv vars env) (.ini p x n)) _ = _
  simp only [ev, zW4b, pendK, Bool.and_eq_true, beq_iff_eq]
theorem zMRU {z : List AV} {ps : List (Nat × Nat × Rf)} : lnK L vars (.bld z ps) false env σp σ K = optK (fillP z (ps.map fun p => (p.1, p.2.1, rv vars env p.2.2))) fun l => K (.agg l :: env) σp σ := by
  show optK (ev L σ σ.length [] (rv vars env) (.bld z ps)) _ = _
  simp only [ev]
  cases fillP z (ps.map fun p => (p.1, p.2.1, rv vars env p.2.2)) <;> rfl
theorem z2AK {x : Rf} {off : Nat} {k : Option Nat} : lnK L vars (.fld x off k) false env σp σ K = fl1 (rv vars env x) off k fun a => K (a :: env) σp σ := by
  show optK (ev L σ σ.length [] (rv vars env) (.fld x off k)) _ = _
  simp only [ev, fl1]
  generalize rv vars env x = p
  cases p <;> try rfl
  rename_i l
  dsimp only [pT]
  cases part l off k <;> rfl
theorem z96Q {x : Rf} {i : Nat} : lnK L vars (.ext x i) false env σp σ K = ex1 (rv vars env x) i fun a => K (a :: env) σp σ := by
  show optK (ev L σ σ.length [] (rv vars env) (.ext x i)) _ = _
  simp only [ev, ex1]
  generalize rv vars env x = p
  cases p <;> try rfl
  rename_i l
  dsimp only [oK]
  cases elm l i <;> rfl
theorem zn7w {f : Nat} {cs : List Rf} : lnK L vars (.mkf f cs) false env σp σ K = K (.func f (cs.map (rv vars env)) :: env) σp σ := (rfl)
theorem zwS1 {t : Nat} {x : Rf} : lnK L vars (.mki t x) false env σp σ K = K (.iface t (rv vars env x) :: env) σp σ := (rfl)
theorem zpZt {ps : List Rf} {st : Nat} : lnK L vars (.liti ps st) false env σp σ K = okIf (noLocs (ps.map (rv vars env)) = true ∧ fitAll st (ps.map (rv vars env)) = true) (K (.imm false (ps.map (rv vars env)) :: env) σp σ) := by
  show optK (ev L σ σ.length [] (rv vars env) (.liti ps st)) _ = _
  simp only [ev, zW4b, pendK, Bool.and_eq_true]
theorem zFpP {ps : List Rf} {st : Nat} : lnK L vars (.lita ps st) false env σp σ K = okIf (fitAll st (ps.map (rv vars env)) = true) (K (.arr (ps.map (rv vars env)) :: env) σp σ) := by
  show optK (ev L σ σ.length [] (rv vars env) (.lita ps st)) _ = _
  simp only [ev, zW4b, pendK]
theorem zloF {f : Nat} {args : List Rf} : lnK L vars (.cal f args) false env σp σ K = pclK L f (args.map (rv vars env)) fun v => K (v :: env) σp σ := (rfl)
theorem zAzQ {x : Rf} {args : List Rf} : lnK L vars (.cald x args) false env σp σ K = fn1 (rv vars env x) fun f caps => pclK L f (args.map (rv vars env) ++ caps) fun v => K (v :: env) σp σ := (rfl)
theorem zmiJ {x : Rf} {tbl : List (Nat × Nat)} {args : List Rf} : lnK L vars (.inv x tbl args) false env σp σ K = if1 (rv vars env x) tbl fun f v => pclK L f (v :: args.map (rv vars env)) fun v => K (v :: env) σp σ := (rfl)
theorem zkSv {n : Bool} {x : Rf} : lnK L vars (.bnl n x) false env σp σ K = bn1 σ (rv vars env x) fun a => K (.bool (a != n) :: env) σp σ := by
  show optK (ev L σ σ.length [] (rv vars env) (.bnl n x)) _ = _
  cases h : rv vars env x with
  | snil => simp [ev, h, bn1, optK, pendK]
  | imm q l =>
    cases q with
    | true => simp [ev, h, bn1, optK, pendK]
    | false => cases l <;> simp [ev, h, bn1, optK, pendK]
  | sl b u o n =>
    simp only [ev, h, bn1]
    cases upto σ b u with
    | none => rfl
    | some B => obtain ⟨q, cs, st⟩ := B; cases st <;> simp [optK, pendK]
  | _ => simp [ev, h, bn1, optK]
theorem zr9f {n : Bool} {x : Rf} : lnK L vars (.bnl n x) true env σp σ K = bn1 σp (rv vars env x) fun a => K (.bool (a != n) :: env) σp σ := by
  show optK (ev L σp σ.length [] (rv vars env) (.bnl n x)) _ = _
  cases h : rv vars env x with
  | snil => simp [ev, h, bn1, optK, pendK]
  | imm q l =>
    cases q with
    | true => simp [ev, h, bn1, optK, pendK]
    | false => cases l <;> simp [ev, h, bn1, optK, pendK]
  | sl b u o n =>
    simp only [ev, h, bn1]
    cases upto σp b u with
    | none => rfl
    | some B => obtain ⟨q, cs, st⟩ := B; cases st <;> simp [optK, pendK]
  | _ => simp [ev, h, bn1, optK]
theorem zsqk {x : Rf} {k : Option Nat} : lnK L vars (.ldi x k) false env σp σ K = li1 (rv vars env x) k fun a => K (a :: env) σp σ := by
  show optK (ev L σ σ.length [] (rv vars env) (.ldi x k)) _ = _
  simp only [ev, li1]
  generalize rv vars env x = p
  cases p <;> try rfl
  rename_i v
  cases k with
  | none => cases v <;> rfl
  | some n =>
    cases v with
    | agg l => by_cases h : l.length = n <;> simp [h, optK, pendK]
    | _ => rfl
def ld1 (σ : List Blk) (x : AV) (k : Option Nat) (K : AV → Prop) : Prop := match x with
  | .pimm v => li1 (.pimm v) k K
  | .ptr b u o => optK (upto σ b u) fun B => B.st.isLive = true ∧ partK B.cells o k K
  | _ => False
theorem zyVB {v : AV} {k : Option Nat} {K : AV → Prop} : ld1 σ (.pimm v) k K = li1 (.pimm v) k K := (rfl)
theorem zWi5 {b u o : Nat} {k : Option Nat} {K : AV → Prop} : ld1 σ (.ptr b u o) k K = optK (upto σ b u) fun B => B.st.isLive = true ∧ partK B.cells o k K := (rfl)
theorem zsZu {x : Rf} {k : Option Nat} : lnK L vars (.ld x k) false env σp σ K = ld1 σ (rv vars env x) k fun a => K (a :: env) σp σ := by
  show evK L σ σ.length (rv vars env) (.ld x k) _ = _
  cases h : rv vars env x with
  | pimm v => cases k <;> cases v <;> simp [evK, h, ld1, li1, pendK]
  | ptr b u o => simp [evK, h, ld1, pendK]
  | _ => simp [evK, h, ld1]
theorem zfif {x : Rf} {k : Option Nat} : lnK L vars (.ld x k) true env σp σ K = ld1 σp (rv vars env x) k fun a => K (a :: env) σp σ := by
  show evK L σp σ.length (rv vars env) (.ld x k) _ = _
  cases h : rv vars env x with
  | pimm v => cases k <;> cases v <;> simp [evK, h, ld1, li1, pendK]
  | ptr b u o => simp [evK, h, ld1, pendK]
  | _ => simp [evK, h, ld1]
theorem zl8t {x : Rf} : lnK L vars (.cvi x) false env σp σ K = i1 (rv vars env x) fun n => fitK n fun v => K (v :: env) σp σ := (rfl)
def sl1 (σ : List Blk) (x : AV) (a : Int) (b : Option Int) (st : Nat) (K : AV → Prop) : Prop := match x with
  | .imm nn l => okIf ((0 ≤ a ∧ a ≤ b.getD l.length ∧ b.getD l.length ≤ l.length) ∧ firstIs st l = true) (K (.imm (nn && decide (0 < l.length)) ((l.drop a.toNat).take ((b.getD l.length).toNat - a.toNat))))
  | .sl b' u off len => optK (upto σ b' u) fun B => okIf ((0 ≤ a ∧ a ≤ b.getD len ∧ b.getD len ≤ len) ∧ kst B.k = st) (K (.sl b' u (off + a.toNat * st) ((b.getD len).toNat - a.toNat)))
  | _ => False
theorem zOXe {nn : Bool} {l : List AV} {a : Int} {b : Option Int} {st : Nat} {K : AV → Prop} : sl1 σ (.imm nn l) a b st K = okIf ((0 ≤ a ∧ a ≤ b.getD l.length ∧ b.getD l.length ≤ l.length) ∧ firstIs st l = true) (K (.imm (nn && decide (0 < l.length)) ((l.drop a.toNat).take ((b.getD l.length).toNat - a.toNat)))) := (rfl)
theorem z3yn {b' u off len : Nat} {a : Int} {b : Option Int} {st : Nat} {K : AV → Prop} : sl1 σ (.sl b' u off len) a b st K = optK (upto σ b' u) fun B => okIf ((0 ≤ a ∧ a ≤ b.getD len ∧ b.getD len ≤ len) ∧ kst B.k = st) (K (.sl b' u (off + a.toNat * st) ((b.getD len).toNat - a.toNat))) := (rfl)
theorem zVNu {x : Rf} {lo hi : Option Rf} {st : Nat} : lnK L vars (.slc x lo hi st) false env σp σ K = optK (loV (rv vars env) lo) fun a => optK (hiV (rv vars env) hi) fun b => sl1 σ (rv vars env x) a b st fun v => K (v :: env) σp σ := by
  show evK L σ σ.length (rv vars env) (.slc x lo hi st) _ = _
  unfold evK
  simp only
  cases loV (rv vars env) lo with
  | none => rfl
  | some a => cases hiV (rv vars env) hi with
    | none => rfl
    | some b => rfl
theorem zVE9 {x : Rf} {lo hi : Option Rf} {st : Nat} : lnK L vars (.slc x lo hi st) true env σp σ K = optK (loV (rv vars env) lo) fun a => optK (hiV (rv vars env) hi) fun b => sl1 σp (rv vars env x) a b st fun v => K (v :: env) σp σ := by
  show evK L σp σ.length (rv vars env) (.slc x lo hi st) _ = _
  unfold evK
  simp only
  cases loV (rv vars env) lo with
  | none => rfl
  | some a => cases hiV (rv vars env) hi with
    | none => rfl
    | some b => rfl
theorem zbYe {f : Nat} {args : List Rf} : lnK L vars (.cab f args) false env σp σ K = optK (mapO (fun x => view σ false vd (rv vars env x)) args) fun vs => LX L f vs [] fun v σ' => optK (viewT σ' true v) fun u => K (u :: env) σp σ := (rfl)
theorem zYLn {f : Nat} {args : List Rf} : lnK L vars (.cab f args) true env σp σ K = optK (mapO (fun x => view σp false vd (rv vars env x)) args) fun vs => LX L f vs [] fun v σ' => optK (viewT σ' true v) fun u => K (u :: env) σp σ := (rfl)
theorem zM5h {f : Nat} {args : List Rf} : lnK L vars (.can f args) false env σp σ K = okIf (noLocs (args.map (rv vars env)) = true) (LX L f (args.map (rv vars env)) [] fun v σ' => K (shV σ.length v :: env) σ (σ ++ σ'.map (shB σ.length))) := (rfl)
theorem ze41 {x : Rf} {k : Option Nat} : lnK L vars (.bxm x k) false env σp σ K = okIf ((rv vars env x).cells.length = kst k ∧ notUnd (rv vars env x) = true) (K (.ptr σ.length (kst k) 0 :: env) σ (σ ++ [⟨k, (rv vars env x).cells, .live⟩])) := by
  show optK (ev L σ σ.length [] (rv vars env) (.bxm x k)) _ = _
  simp only [ev, zW4b, pendK, commit, Bool.and_eq_true, beq_iff_eq]
theorem zwA2 {z : List AV} {k : Option Nat} : lnK L vars (.alc z k) false env σp σ K = okIf (z.length = kst k) (K (.ptr σ.length (kst k) 0 :: env) σ (σ ++ [⟨k, z, .live⟩])) := by
  show optK (ev L σ σ.length [] (rv vars env) (.alc z k)) _ = _
  simp only [ev, zW4b, pendK, commit, beq_iff_eq]
theorem z7W7 {n c : Rf} {z : List AV} {k : Option Nat} : lnK L vars (.mks n c z k) false env σp σ K = ii (rv vars env n) (rv vars env c) fun n c => okIf (0 ≤ n ∧ n ≤ c ∧ c ≤ big ∧ z.length = kst k) (K (.sl σ.length (dupN c.toNat z).length 0 n.toNat :: env) σ (σ ++ [⟨k, dupN c.toNat z, .live⟩])) := (rfl)
theorem z6Fy {ps : List Rf} {k : Option Nat} : lnK L vars (.litm ps k) false env σp σ K = okIf (fitAll (kst k) (ps.map (rv vars env)) = true) (K (.sl σ.length ((ps.map (rv vars env)).flatMap AV.cells).length 0 ps.length :: env) σ (σ ++ [⟨k, (ps.map (rv vars env)).flatMap AV.cells, .live⟩])) := by
  show optK (ev L σ σ.length [] (rv vars env) (.litm ps k)) _ = _
  simp only [ev, zW4b, pendK, commit]
theorem zPlK {k : Option Nat} : lnK L vars (.nl k) false env σp σ K = K (.sl σ.length 0 0 0 :: env) σ (σ ++ [⟨k, [], .nul⟩]) := (rfl)
def ap1 (σ : List Blk) (s : AV) (k : Option Nat) (n : Nat) (cs : List AV) (K : AV → List Blk → Prop) : Prop := match s with
  | .sl b u off len => optK (upto σ b u) fun B => okIf (off = 0 ∧ u = len * kst k ∧ len + n ≤ big ∧ eqK B.k k = true) ((n = 0 → K (.sl b u off len) σ) ∧ (n ≠ 0 → cs.length ≠ 0 ∧ K (.sl b (u + cs.length) 0 (len + n)) (growB σ b cs)))
  | .snil => (n = 0 → K .snil σ) ∧ (n ≠ 0 → n ≤ big ∧ K (.sl σ.length cs.length 0 n) (σ ++ [⟨k, cs, .live⟩]))
  | .arr l => (n = 0 → K (if noLocs l then .imm true l else .arr l) σ) ∧ (n ≠ 0 → (fitAll (kst k) l = true ∧ l.length + n ≤ big) ∧ K (.sl σ.length (l.flatMap AV.cells ++ cs).length 0 (l.length + n)) (σ ++ [⟨k, l.flatMap AV.cells ++ cs, .live⟩]))
  | _ => False
theorem zR5o {b u off len : Nat} {k : Option Nat} {n : Nat} {cs : List AV} {K : AV → List Blk → Prop} : ap1 σ (.sl b u off len) k n cs K = optK (upto σ b u) fun B => okIf (off = 0 ∧ u = len * kst k ∧ len + n ≤ big ∧ eqK B.k k = true) ((n = 0 → K (.sl b u off len) σ) ∧ (n ≠ 0 → cs.length ≠ 0 ∧ K (.sl b (u + cs.length) 0 (len + n)) (growB σ b cs))) := (rfl)
theorem zkUn {k : Option Nat} {n : Nat} {cs : List AV} {K : AV → List Blk → Prop} : ap1 σ .snil k n cs K = ((n = 0 → K .snil σ) ∧ (n ≠ 0 → n ≤ big ∧ K (.sl σ.length cs.length 0 n) (σ ++ [⟨k, cs, .live⟩]))) := (rfl)
theorem zwwM {l : List AV} {k : Option Nat} {n : Nat} {cs : List AV} {K : AV → List Blk → Prop} : ap1 σ (.arr l) k n cs K = ((n = 0 → K (if noLocs l then .imm true l else .arr l) σ) ∧ (n ≠ 0 → (fitAll (kst k) l = true ∧ l.length + n ≤ big) ∧ K (.sl σ.length (l.flatMap AV.cells ++ cs).length 0 (l.length + n)) (σ ++ [⟨k, l.flatMap AV.cells ++ cs, .live⟩]))) := (rfl)
theorem zkPY {s x : Rf} {k : Option Nat} : lnK L vars (.app s x k) false env σp σ K = optK (srcCells σ k (rv vars env x)) fun p => ap1 σ (rv vars env s) k p.1 p.2 fun v τ => K (v :: env) σ τ := by
  show evK L σ σ.length (rv vars env) (.app s x k) _ = _
  unfold evK
  simp only
  cases srcCells σ k (rv vars env x) with
  | none => rfl
  | some p =>
    obtain ⟨n, cs⟩ := p
    cases h : rv vars env s <;> rfl
theorem zrSy {p x : Rf} {n : Nat} : lnK L vars (.st p x n) false env σp σ K = st1 σ (rv vars env p) (rv vars env x) n fun τ => K (.und :: env) [] τ := (rfl)
def aw1 (σ : List Blk) (s : AV) (k : Option Nat) (n : Nat) (cs : List AV) (K : AV → List Blk → Prop) : Prop := match s with
  | .sl b u off len => optK (upto σ b u) fun B => okIf (off = 0 ∧ len + n ≤ big ∧ eqK B.k k = true ∧ (n ≠ 0 → cs.length ≠ 0)) ((n = 0 → K (.sl b u off len) σ) ∧ (n ≠ 0 → u = len * kst k → K (.sl b (u + cs.length) 0 (len + n)) (setB σ b ⟨B.k, B.cells ++ cs, .live⟩)) ∧ (n ≠ 0 → u ≠ len * kst k → (len + n) * kst k ≤ u ∧ K (.sl b u 0 (len + n)) (setB σ b ⟨B.k, putAt B.cells (len * kst k) cs, B.st⟩)))
  | .snil => (n = 0 → K .snil σ) ∧ (n ≠ 0 → n ≤ big ∧ K (.sl σ.length cs.length 0 n) (σ ++ [⟨k, cs, .live⟩]))
  | .arr l => (n = 0 → K (if noLocs l then .imm true l else .arr l) σ) ∧ (n ≠ 0 → (fitAll (kst k) l = true ∧ l.length + n ≤ big) ∧ K (.sl σ.length (l.flatMap AV.cells ++ cs).length 0 (l.length + n)) (σ ++ [⟨k, l.flatMap AV.cells ++ cs, .live⟩]))
  | _ => False
theorem z2x2 {b u off len : Nat} {k : Option Nat} {n : Nat} {cs : List AV} {K : AV → List Blk → Prop} : aw1 σ (.sl b u off len) k n cs K = optK (upto σ b u) fun B => okIf (off = 0 ∧ len + n ≤ big ∧ eqK B.k k = true ∧ (n ≠ 0 → cs.length ≠ 0)) ((n = 0 → K (.sl b u off len) σ) ∧ (n ≠ 0 → u = len * kst k → K (.sl b (u + cs.length) 0 (len + n)) (setB σ b ⟨B.k, B.cells ++ cs, .live⟩)) ∧ (n ≠ 0 → u ≠ len * kst k → (len + n) * kst k ≤ u ∧ K (.sl b u 0 (len + n)) (setB σ b ⟨B.k, putAt B.cells (len * kst k) cs, B.st⟩))) := (rfl)
theorem z95C {k : Option Nat} {n : Nat} {cs : List AV} {K : AV → List Blk → Prop} : aw1 σ .snil k n cs K = ((n = 0 → K .snil σ) ∧ (n ≠ 0 → n ≤ big ∧ K (.sl σ.length cs.length 0 n) (σ ++ [⟨k, cs, .live⟩]))) := (rfl)
theorem zRul {l : List AV} {k : Option Nat} {n : Nat} {cs : List AV} {K : AV → List Blk → Prop} : aw1 σ (.arr l) k n cs K = ((n = 0 → K (if noLocs l then .imm true l else .arr l) σ) ∧ (n ≠ 0 → (fitAll (kst k) l = true ∧ l.length + n ≤ big) ∧ K (.sl σ.length (l.flatMap AV.cells ++ cs).length 0 (l.length + n)) (σ ++ [⟨k, l.flatMap AV.cells ++ cs, .live⟩]))) := (rfl)
theorem z9Ow {s x : Rf} {k : Option Nat} : lnK L vars (.appw s x k) false env σp σ K = optK (srcCells σ k (rv vars env x)) fun p => aw1 σ (rv vars env s) k p.1 p.2 fun v τ => K (v :: env) [] τ := by
  show evWK L σ (rv vars env) (.appw s x k) (fun v σ' => K (v :: env) [] σ') = _
  unfold evWK
  simp only
  cases srcCells σ k (rv vars env x) with
  | none => rfl
  | some p =>
    obtain ⟨n, cs⟩ := p
    cases h : rv vars env s <;> rfl
theorem zBPp {f : Nat} {args : List Rf} : lnK L vars (.cam f args) false env σp σ K = LX L f (args.map (rv vars env)) σ fun v τ => K (v :: env) [] τ := (rfl)
theorem zNEF {x : Rf} {args : List Rf} : lnK L vars (.camd x args) false env σp σ K = fn1 (rv vars env x) fun f caps => LX L f (args.map (rv vars env) ++ caps) σ fun v τ => K (v :: env) [] τ := (rfl)
theorem zfxP {x : Rf} {tbl : List (Nat × Nat)} {args : List Rf} : lnK L vars (.invm x tbl args) false env σp σ K = if1 (rv vars env x) tbl fun f v => LX L f (v :: args.map (rv vars env)) σ fun v τ => K (v :: env) [] τ := (rfl)
end
section
variable {L : CE} {vars env : List AV} {σp σ : List Blk} {K : List AV → List Blk → List Blk → Prop}
theorem q_mv {x : Rf} : lnK L vars (.mv x) false env σp σ K = nx (rv vars env x) (fun v => K (v :: env) σp σ) .k := zQ1b
theorem q_bin {o : Bin} {x y : Rf} : lnK L vars (.bin o x y) false env σp σ K = nx (rv vars env x) (fun x => nx (rv vars env y) (fun y => ii x y fun a b => binK o a b fun v => K (v :: env) σp σ) .k) .k := z3z9
theorem q_beq {n : Bool} {x y : Rf} : lnK L vars (.beq n x y) false env σp σ K = nx (rv vars env x) (fun x => nx (rv vars env y) (fun y => bb x y fun a b => K (.bool ((a == b) != n) :: env) σp σ) .k) .k := zMFh
theorem q_not {x : Rf} : lnK L vars (.not x) false env σp σ K = nx (rv vars env x) (fun x => b1 x fun a => K (.bool (!a) :: env) σp σ) .k := zFf4
def pk (b : Bool) (x y : AV) : AV := match b with
  | true => x
  | false => y
theorem zkti {x y : AV} : pk true x y = x := (rfl)
theorem z1eQ {x y : AV} : pk false x y = y := (rfl)
theorem zYFU {b : Bool} {x y : Int} : pk b (.int x) (.int y) = .int (if b = true then x else y) := by cases b <;> rfl
theorem zk3I {b : Bool} {x y : Bool} : pk b (.bool x) (.bool y) = .bool (if b = true then x else y) := by cases b <;> rfl
def pq (b : Bool) (x y : AV) (K : AV → Prop) (_ : Tk K) : Prop := K (pk b x y)
theorem z085 {x y : AV} {K : AV → Prop} {t : Tk K} : pq true x y K t = nx x K .k := (rfl)
theorem zNVa {x y : AV} {K : AV → Prop} {t : Tk K} : pq false x y K t = nx y K .k := (rfl)
theorem zun8 {b : Bool} {x y : Int} {K : AV → Prop} {t : Tk K} : pq b (.int x) (.int y) K t = K (.int (if b = true then x else y)) := by unfold pq; rw [zYFU]
theorem zqtM {b : Bool} {x y : Bool} {K : AV → Prop} {t : Tk K} : pq b (.bool x) (.bool y) K t = K (.bool (if b = true then x else y)) := by unfold pq; rw [zk3I]
theorem znRG {b : Bool} {x y : AV} {K : AV → Prop} {t : Tk K} : pq b x y K t = K (pk b x y) := (rfl)
theorem zDpO {c x y : Rf} : lnK L vars (.pick c x y) false env σp σ K = nx (rv vars env c) (fun c => b1 c fun a => pq a (rv vars env x) (rv vars env y) (fun v => K (v :: env) σp σ) .k) .k := zYYZ
theorem q_len {x : Rf} : lnK L vars (.len x) false env σp σ K = nx (rv vars env x) (fun x => ln1 x fun a => K (.int a :: env) σp σ) .k := zft4
theorem q_max {x y : Rf} : lnK L vars (.mx true x y) false env σp σ K = nx (rv vars env x) (fun x => nx (rv vars env y) (fun y => ii x y fun a b => K (.int (max a b) :: env) σp σ) .k) .k := zs8b
theorem q_min {x y : Rf} : lnK L vars (.mx false x y) false env σp σ K = nx (rv vars env x) (fun x => nx (rv vars env y) (fun y => ii x y fun a b => K (.int (min a b) :: env) σp σ) .k) .k := zUMX
theorem q_fad {x : Rf} {off : Nat} {k : Option Nat} : lnK L vars (.fad x off k) false env σp σ K = nx (rv vars env x) (fun x => fa1 x off k fun a => K (a :: env) σp σ) .k := z3Tl
theorem q_iad {x i : Rf} {st : Nat} : lnK L vars (.iad x i st) false env σp σ K = nx (rv vars env x) (fun x => nx (rv vars env i) (fun i => ia1 x i st fun v => K (v :: env) σp σ) .k) .k := z1RA
theorem zLwD {x i : Rf} {n : Nat} {k : Option Nat} : lnK L vars (.iada x i n k) false env σp σ K = nx (rv vars env x) (fun x => nx (rv vars env i) (fun i => ir1 x i n k fun v => K (v :: env) σp σ) .k) .k := z1vS
theorem q_nck {x : Rf} : lnK L vars (.nck x) false env σp σ K = nx (rv vars env x) (fun x => nc1 x fun a => K (a :: env) σp σ) .k := zM5r
theorem q_bxi {x : Rf} : lnK L vars (.bxi x) false env σp σ K = nx (rv vars env x) (fun x => okIf (noLoc x = true) (K (.pimm x :: env) σp σ)) .k := z0Qh
theorem q_ini {p x : Rf} {n : Nat} : lnK L vars (.ini p x n) false env σp σ K = nx (rv vars env x) (fun x => okIf (noLoc x = true ∧ x.cells.length = n) (K (.pimm x :: env) σp σ)) .k := zznh
theorem q_bld {z : List AV} {ps : List (Nat × Nat × Rf)} : lnK L vars (.bld z ps) false env σp σ K = oK (fillP z (mapR (fun p => (p.1, p.2.1, rv vars env p.2.2)) ps)) (fun l => nL l (fun l => K (.agg l :: env) σp σ) .k) .k := by rw [← map_R]; exact zMRU
theorem q_fld {x : Rf} {off : Nat} {k : Option Nat} : lnK L vars (.fld x off k) false env σp σ K = nx (rv vars env x) (fun x => fl1 x off k fun a => K (a :: env) σp σ) .k := z2AK
theorem q_ext {x : Rf} {i : Nat} : lnK L vars (.ext x i) false env σp σ K = nx (rv vars env x) (fun x => ex1 x i fun a => nx a (fun a => K (a :: env) σp σ) .k) .k := z96Q
theorem q_mkf {f : Nat} {cs : List Rf} : lnK L vars (.mkf f cs) false env σp σ K = nL (mapR (rv vars env) cs) (fun l => K (.func f l :: env) σp σ) .k := by rw [← map_R]; exact zn7w
theorem q_mki {t : Nat} {x : Rf} : lnK L vars (.mki t x) false env σp σ K = nx (rv vars env x) (fun x => K (.iface t x :: env) σp σ) .k := zwS1
theorem zWZ1 {ps : List Rf} {st : Nat} : lnK L vars (.liti ps st) false env σp σ K = nL (mapR (rv vars env) ps) (fun l => okIf (noLocs l = true ∧ fitAll st l = true) (K (.imm false l :: env) σp σ)) .k := by rw [← map_R]; exact zpZt
theorem zzCP {ps : List Rf} {st : Nat} : lnK L vars (.lita ps st) false env σp σ K = nL (mapR (rv vars env) ps) (fun l => okIf (fitAll st l = true) (K (.arr l :: env) σp σ)) .k := by rw [← map_R]; exact zFpP
def cl (L : CE) (f : Nat) (args : List AV) (K : AV → Prop) (_ : Tk K) : Prop := pclK L f args K
theorem cl_eq {f : Nat} {args : List AV} {K : AV → Prop} {t : Tk K} : cl L f args K t = (noLocs args = true ∧ nL (mapR wk args) (fun as => oK (PCx L f as) (fun v => nx v K .k) .k) .k) := by rw [← map_R]; rfl
theorem q_cal {f : Nat} {args : List Rf} : lnK L vars (.cal f args) false env σp σ K = nL (mapR (rv vars env) args) (fun as => cl L f as (fun v => K (v :: env) σp σ) .k) .k := by rw [← map_R]; exact zloF
theorem zrVK {x : Rf} {args : List Rf} : lnK L vars (.cald x args) false env σp σ K = nx (rv vars env x) (fun x => fn1 x fun f caps => nL (appR (mapR (rv vars env) args) caps) (fun as => cl L f as (fun v => K (v :: env) σp σ) .k) .k) .k := by unfold nx nL cl; simp only [← map_R, ← app_R]; exact zAzQ
theorem q_inv {x : Rf} {tbl : List (Nat × Nat)} {args : List Rf} : lnK L vars (.inv x tbl args) false env σp σ K = nx (rv vars env x) (fun x => if1 x tbl fun f v => nL (v :: mapR (rv vars env) args) (fun as => cl L f as (fun v => K (v :: env) σp σ) .k) .k) .k := by unfold nx nL cl; simp only [← map_R]; exact zmiJ
theorem q_bnl {n : Bool} {x : Rf} : lnK L vars (.bnl n x) false env σp σ K = nx (rv vars env x) (fun x => bn1 σ x fun a => K (.bool (a != n) :: env) σp σ) .k := zkSv
theorem zzhI {n : Bool} {x : Rf} : lnK L vars (.bnl n x) true env σp σ K = nx (rv vars env x) (fun x => bn1 σp x fun a => K (.bool (a != n) :: env) σp σ) .k := zr9f
theorem q_ldi {x : Rf} {k : Option Nat} : lnK L vars (.ldi x k) false env σp σ K = nx (rv vars env x) (fun x => li1 x k fun a => K (a :: env) σp σ) .k := zsqk
def ld2 (σ : List Blk) (x : AV) (k : Option Nat) (K : AV → Prop) : Prop := match x with
  | .pimm v => nx v (fun v => li1 (.pimm v) k K) .k
  | .ptr b u o => bk (blk σ b) u (fun _ cs st => st.isLive = true ∧ pT cs o k (fun v => nx v K .k) .k) .k
  | _ => False
theorem zyWU {v : AV} {k : Option Nat} {K : AV → Prop} : ld2 σ (.pimm v) k K = nx v (fun v => li1 (.pimm v) k K) .k := (rfl)
theorem zpGs {b u o : Nat} {k : Option Nat} {K : AV → Prop} : ld2 σ (.ptr b u o) k K = bk (blk σ b) u (fun _ cs st => st.isLive = true ∧ pT cs o k (fun v => nx v K .k) .k) .k := (rfl)
theorem ld12 {σ : List Blk} {x : AV} {k : Option Nat} {K : AV → Prop} : ld1 σ x k K = ld2 σ x k K := by
  cases x with
  | ptr b u o => exact zGMv
  | _ => rfl
theorem q_ld {x : Rf} {k : Option Nat} : lnK L vars (.ld x k) false env σp σ K = nx (rv vars env x) (fun x => ld2 σ x k fun a => K (a :: env) σp σ) .k := by unfold nx; simp only [← ld12]; exact zsZu
theorem q_ld' {x : Rf} {k : Option Nat} : lnK L vars (.ld x k) true env σp σ K = nx (rv vars env x) (fun x => ld2 σp x k fun a => K (a :: env) σp σ) .k := by unfold nx; simp only [← ld12]; exact zfif
theorem q_cvi {x : Rf} : lnK L vars (.cvi x) false env σp σ K = nx (rv vars env x) (fun x => i1 x fun n => fitK n fun v => K (v :: env) σp σ) .k := zl8t
def sl2 (σ : List Blk) (x : AV) (a : Int) (b : Option Int) (st : Nat) (K : AV → Prop) : Prop := match x with
  | .imm nn l => okIf ((0 ≤ a ∧ a ≤ b.getD l.length ∧ b.getD l.length ≤ l.length) ∧ firstIs st l = true) (nC ((l.drop a.toNat).take ((b.getD l.length).toNat - a.toNat)) (fun l' => K (.imm (nn && decide (0 < l.length)) l')) .k)
  | .sl b' u off len => bk (blk σ b') u (fun k _ _ => okIf ((0 ≤ a ∧ a ≤ b.getD len ∧ b.getD len ≤ len) ∧ kst k = st) (K (.sl b' u (off + a.toNat * st) ((b.getD len).toNat - a.toNat)))) .k
  | _ => False
theorem znlF {nn : Bool} {l : List AV} {a : Int} {b : Option Int} {st : Nat} {K : AV → Prop} : sl2 σ (.imm nn l) a b st K = okIf ((0 ≤ a ∧ a ≤ b.getD l.length ∧ b.getD l.length ≤ l.length) ∧ firstIs st l = true) (nC ((l.drop a.toNat).take ((b.getD l.length).toNat - a.toNat)) (fun l' => K (.imm (nn && decide (0 < l.length)) l')) .k) := (rfl)
theorem zFWe {b' u off len : Nat} {a : Int} {b : Option Int} {st : Nat} {K : AV → Prop} : sl2 σ (.sl b' u off len) a b st K = bk (blk σ b') u (fun k _ _ => okIf ((0 ≤ a ∧ a ≤ b.getD len ∧ b.getD len ≤ len) ∧ kst k = st) (K (.sl b' u (off + a.toNat * st) ((b.getD len).toNat - a.toNat)))) .k := (rfl)
theorem sl12 {σ : List Blk} {x : AV} {a : Int} {b : Option Int} {st : Nat} {K : AV → Prop} : sl1 σ x a b st K = sl2 σ x a b st K := by
  cases x with
  | sl b u o n => exact zGMv
  | _ => rfl
def ix1 (x i : AV) (n : Nat) (k : Option Nat) (K : AV → Prop) : Prop := match x, i with
  | .agg l, .int j => okIf (0 ≤ j ∧ j < n) (pT l (j.toNat * kst k) k (fun v => nx v K .k) .k)
  | _, _ => False
theorem zOfI {l : List AV} {j : Int} {n : Nat} {k : Option Nat} {K : AV → Prop} : ix1 (.agg l) (.int j) n k K = okIf (0 ≤ j ∧ j < n) (pT l (j.toNat * kst k) k (fun v => nx v K .k) .k) := (rfl)
theorem q_idx {x i : Rf} {n : Nat} {k : Option Nat} : lnK L vars (.idx x i n k) false env σp σ K = nx (rv vars env x) (fun x => nx (rv vars env i) (fun i => ix1 x i n k fun v => K (v :: env) σp σ) .k) .k := by
  show optK (ev L σ σ.length [] (rv vars env) (.idx x i n k)) _ = _
  simp only [nx]
  generalize hx : rv vars env x = p
  generalize hy : rv vars env i = q
  simp only [ev, hx, hy]
  cases p <;> try rfl
  cases q <;> try rfl
  rename_i l j
  rw [zOfI]
  by_cases hc : 0 ≤ j ∧ j < (n : Int)
  · simp only [if_pos hc, okIf, hc, true_and, pT, nx]
    cases part l (j.toNat * kst k) k <;> rfl
  · simp only [if_neg hc]
    exact propext ⟨fun h => h.elim, fun h => hc h.1⟩
def eqZ : List AV → List AV → (Bool → Prop) → Prop
  | [], [], K => K true
  | .int a :: xs, .int b :: ys, K => eqZ xs ys fun c => K (decide (a = b) && c)
  | _, _, _ => False
theorem z2Fh {K : Bool → Prop} : eqZ [] [] K = K true := (rfl)
theorem zLw4 {a b : Int} {xs ys : List AV} {K : Bool → Prop} : eqZ (.int a :: xs) (.int b :: ys) K = eqZ xs ys fun c => K (decide (a = b) && c) := (rfl)
theorem z8h8 : ∀ {xs ys : List AV} {K : Bool → Prop}, optK (eqInts xs ys) K = eqZ xs ys K := by
  intro xs
  induction xs with
  | nil => intro ys K; cases ys <;> rfl
  | cons x xs ih =>
    intro ys K
    cases ys with
    | nil => cases x <;> rfl
    | cons y ys =>
      cases x <;> try rfl
      cases y <;> try rfl
      rename_i a b
      rw [zLw4, ← ih]
      simp only [eqInts]
      cases eqInts xs ys <;> rfl
def sq1 (n : Nat) (x y : AV) (K : Bool → Prop) : Prop := match x, y with
  | .agg xs, .agg ys => xs.length = n ∧ eqZ xs ys K
  | _, _ => False
theorem zgu5 {n : Nat} {xs ys : List AV} {K : Bool → Prop} : sq1 n (.agg xs) (.agg ys) K = (xs.length = n ∧ eqZ xs ys K) := (rfl)
theorem q_seq {g : Bool} {n : Nat} {x y : Rf} : lnK L vars (.seq g n x y) false env σp σ K = nx (rv vars env x) (fun x => nx (rv vars env y) (fun y => sq1 n x y fun b => K (.bool (b != g) :: env) σp σ) .k) .k := by
  show optK (ev L σ σ.length [] (rv vars env) (.seq g n x y)) _ = _
  simp only [nx]
  generalize hx : rv vars env x = p
  generalize hy : rv vars env y = q
  simp only [ev, hx, hy]
  cases p <;> try rfl
  cases q <;> try rfl
  rename_i xs ys
  rw [zgu5, ← z8h8]
  by_cases hc : xs.length = n
  · simp only [if_pos hc, hc, true_and]
    cases eqInts xs ys <;> rfl
  · simp only [if_neg hc]
    exact propext ⟨fun h => h.elim, fun h => hc h.1⟩
def mp (o : Option Blk) (K : Option Nat → List AV → List (AV × AV) → Prop) (_ : Tk K) : Prop := match o with
  | some ⟨k, cs, .map es⟩ => cs.length = 0 ∧ K k cs es
  | _ => False
theorem zIzg {k : Option Nat} {cs : List AV} {es : List (AV × AV)} {K : Option Nat → List AV → List (AV × AV) → Prop} {t : Tk K} : mp (some ⟨k, cs, .map es⟩) K t = (cs.length = 0 ∧ K k cs es) := (rfl)
theorem mp_eq {σ : List Blk} {b : Nat} {K : List (AV × AV) → Prop} : optK (mapAt σ b) K = mp (blk σ b) (fun _ _ es => K es) .k := by
  unfold mp mapAt
  cases blk σ b with
  | none => rfl
  | some B =>
    obtain ⟨k, cs, st⟩ := B
    cases st with
    | map es =>
      by_cases h : cs.length = 0
      · simp [h, optK]
      · simp [h, optK]
    | _ => rfl
def lkV (z : AV) (ok : Bool) : Option AV → AV
  | some v => if ok then .tup [v, .bool true] else v
  | none => if ok then .tup [z, .bool false] else z
theorem zAJK {z v : AV} : lkV z false (some v) = v := rfl
theorem zeYZ {z : AV} : lkV z false none = z := rfl
theorem zJi8 {z v : AV} : lkV z true (some v) = .tup [v, .bool true] := rfl
theorem zxGO {z : AV} : lkV z true none = .tup [z, .bool false] := rfl
def ml1 (σ : List Blk) (x : AV) (kd : Nat) (k z : AV) (ok : Bool) (K : AV → Prop) : Prop := match x with
  | .mapr b => optK (mapAt σ b) fun es => okIf (keyFits kd k = true) (oK (findM es k) (fun o => nx (lkV z ok o) K .k) .k)
  | _ => False
theorem zVqM {σ : List Blk} {b kd : Nat} {k z : AV} {ok : Bool} {K : AV → Prop} : ml1 σ (.mapr b) kd k z ok K = mp (blk σ b) (fun _ _ es => okIf (keyFits kd k = true) (oK (findM es k) (fun o => nx (lkV z ok o) K .k) .k)) .k := mp_eq
theorem q_mlk {x k : Rf} {kd : Nat} {z : AV} {ok : Bool} : lnK L vars (.mlk x kd k z ok) false env σp σ K = nx (rv vars env x) (fun x => nx (rv vars env k) (fun k => ml1 σ x kd k z ok fun v => K (v :: env) σp σ) .k) .k := by
  show optK (ev L σ σ.length [] (rv vars env) (.mlk x kd k z ok)) _ = _
  simp only [nx]
  generalize hx : rv vars env x = p
  generalize hy : rv vars env k = q
  simp only [ev, hx, hy]
  cases p <;> try rfl
  simp only [ml1]
  cases mapAt σ _ with
  | none => rfl
  | some es =>
    simp only [z2CC, okIf]
    by_cases hc : keyFits kd q = true
    · simp only [if_pos hc, hc, true_and]
      cases findM es q with
      | none => rfl
      | some o => cases o <;> rfl
    · simp only [if_neg hc]
      exact propext ⟨fun h => h.elim, fun h => hc h.1⟩
theorem ztAb {x k : Rf} {kd : Nat} {z : AV} {ok : Bool} : lnK L vars (.mlk x kd k z ok) true env σp σ K = nx (rv vars env x) (fun x => nx (rv vars env k) (fun k => ml1 σp x kd k z ok fun v => K (v :: env) σp σ) .k) .k := by
  show optK (ev L σp σ.length [] (rv vars env) (.mlk x kd k z ok)) _ = _
  simp only [nx]
  generalize hx : rv vars env x = p
  generalize hy : rv vars env k = q
  simp only [ev, hx, hy]
  cases p <;> try rfl
  simp only [ml1]
  cases mapAt σp _ with
  | none => rfl
  | some es =>
    simp only [z2CC, okIf]
    by_cases hc : keyFits kd q = true
    · simp only [if_pos hc, hc, true_and]
      cases findM es q with
      | none => rfl
      | some o => cases o <;> rfl
    · simp only [if_neg hc]
      exact propext ⟨fun h => h.elim, fun h => hc h.1⟩
def mn1 (σ : List Blk) (x : AV) (K : Int → Prop) : Prop := match x with
  | .mapr b => optK (mapAt σ b) fun es => K es.length
  | _ => False
theorem zqwX {σ : List Blk} {b : Nat} {K : Int → Prop} : mn1 σ (.mapr b) K = mp (blk σ b) (fun _ _ es => K es.length) .k := mp_eq
theorem q_mln {x : Rf} : lnK L vars (.mln x) false env σp σ K = nx (rv vars env x) (fun x => mn1 σ x fun n => K (.int n :: env) σp σ) .k := by
  show optK (ev L σ σ.length [] (rv vars env) (.mln x)) _ = _
  simp only [nx]
  generalize hx : rv vars env x = p
  simp only [ev, hx]
  cases p <;> try rfl
  simp only [mn1]
  cases mapAt σ _ <;> rfl
theorem zcaF {x : Rf} : lnK L vars (.mln x) true env σp σ K = nx (rv vars env x) (fun x => mn1 σp x fun n => K (.int n :: env) σp σ) .k := by
  show optK (ev L σp σ.length [] (rv vars env) (.mln x)) _ = _
  simp only [nx]
  generalize hx : rv vars env x = p
  simp only [ev, hx]
  cases p <;> try rfl
  simp only [mn1]
  cases mapAt σp _ <;> rfl
theorem q_mkm : lnK L vars .mkm false env σp σ K = nB (appR σ [⟨some 0, [], .map []⟩]) (fun τ => K (.mapr σ.length :: env) σ τ) .k := by rw [← app_R]; rfl
def mu1 (σ : List Blk) (m : AV) (kd : Nat) (k x : AV) (K : List Blk → Prop) : Prop := match m with
  | .mapr b => mp (blk σ b) (fun kk cs es => okIf (keyFits kd k = true ∧ noLoc x = true) (oK (findM es k) (fun o => o = none ∧ nB (setB σ b ⟨kk, cs, .map (es ++ [(k, x)])⟩) K .k) .k)) .k
  | _ => False
theorem z7Pt {σ : List Blk} {b kd : Nat} {k x : AV} {K : List Blk → Prop} : mu1 σ (.mapr b) kd k x K = mp (blk σ b) (fun kk cs es => okIf (keyFits kd k = true ∧ noLoc x = true) (oK (findM es k) (fun o => o = none ∧ nB (setB σ b ⟨kk, cs, .map (es ++ [(k, x)])⟩) K .k) .k)) .k := rfl
theorem q_mup {m k x : Rf} {kd : Nat} : lnK L vars (.mup m kd k x) false env σp σ K = nx (rv vars env m) (fun m => nx (rv vars env k) (fun k => nx (rv vars env x) (fun x => mu1 σ m kd k x fun τ => K (.und :: env) [] τ) .k) .k) .k := by
  show optK (evW L σ (rv vars env) (.mup m kd k x)) _ = _
  simp only [nx]
  generalize hx : rv vars env m = p
  generalize hy : rv vars env k = q
  generalize hz : rv vars env x = r
  simp only [evW, hx, hy, hz]
  cases p <;> try rfl
  rename_i b
  simp only [mu1, mp, mapAt, putM]
  cases hb : blk σ b with
  | none => rfl
  | some B =>
    obtain ⟨kk, cs, st⟩ := B
    cases st <;> try rfl
    rename_i es
    by_cases hc : cs.length = 0
    · by_cases hf : keyFits kd q = true ∧ noLoc r = true
      · simp only [hc, hf.1, hf.2, okIf, true_and, beq_self_eq_true, if_true, Bool.and_self]
        cases findM es q with
        | none => exact propext ⟨fun h => h.elim, fun h => h.elim⟩
        | some o => cases o with
          | none => exact propext ⟨fun h => ⟨rfl, h⟩, fun h => h.2⟩
          | some y => exact propext ⟨fun h => h.elim, fun h => by have := h.1; simp at this⟩
      · have h' : ¬ (keyFits kd q && noLoc r) = true := fun h => hf (by simpa using h)
        simp only [hc, beq_self_eq_true, if_true, if_neg h', okIf]
        exact propext ⟨fun h => h.elim, fun h => hf h.2.1⟩
    · simp only [hc, beq_iff_eq, if_false, false_and]
      rfl
def s31 (x h m : AV) (st : Nat) (K : AV → Prop) : Prop := match x, h, m with
  | .imm nn l, .int h, .int m => okIf ((0 ≤ h ∧ h ≤ m ∧ m ≤ l.length) ∧ firstIs st l = true) (nC (l.take h.toNat) (fun l' => K (.imm (nn && decide (0 < l.length)) l')) .k)
  | _, _, _ => False
theorem zO2W {nn : Bool} {l : List AV} {h m : Int} {st : Nat} {K : AV → Prop} : s31 (.imm nn l) (.int h) (.int m) st K = okIf ((0 ≤ h ∧ h ≤ m ∧ m ≤ l.length) ∧ firstIs st l = true) (nC (l.take h.toNat) (fun l' => K (.imm (nn && decide (0 < l.length)) l')) .k) := (rfl)
theorem zaIy {x h m : Rf} {st : Nat} : lnK L vars (.slc3 x h m st) false env σp σ K = nx (rv vars env x) (fun x => nx (rv vars env h) (fun h => nx (rv vars env m) (fun m => s31 x h m st fun v => K (v :: env) σp σ) .k) .k) .k := by
  show optK (ev L σ σ.length [] (rv vars env) (.slc3 x h m st)) _ = _
  simp only [ev, s31, nx]
  generalize rv vars env x = p
  generalize rv vars env h = q
  generalize rv vars env m = s
  cases p <;> try rfl
  cases q <;> try rfl
  cases s <;> try rfl
  rename_i nn l h m
  by_cases hc : (0 ≤ h ∧ h ≤ m ∧ m ≤ (l.length : Int)) ∧ firstIs st l = true
  · show optK (if (0 ≤ h ∧ h ≤ m ∧ m ≤ (l.length : Int)) ∧ firstIs st l = true then some (AV.imm (nn && decide (0 < l.length)) (List.take h.toNat l), none) else none) _ = _
    rw [if_pos hc]; exact (propext ⟨fun h => ⟨hc, h⟩, fun h => h.2⟩)
  · show optK (if (0 ≤ h ∧ h ≤ m ∧ m ≤ (l.length : Int)) ∧ firstIs st l = true then some (AV.imm (nn && decide (0 < l.length)) (List.take h.toNat l), none) else none) _ = _
    rw [if_neg hc]; exact (propext ⟨fun h => h.elim, fun h => hc h.1⟩)
@[reducible] def loR (x : Option AV) : Option Int := match x with
  | none => some 0
  | some (.int n) => some n
  | some _ => none
@[reducible] def hiR (x : Option AV) : Option (Option Int) := match x with
  | none => some none
  | some (.int n) => some (some n)
  | some _ => none
@[reducible] def omR (f : Rf → AV) : Option Rf → Option AV
  | none => none
  | some x => some (f x)
theorem lo_R {r : Rf → AV} {o : Option Rf} : loV r o = loR (omR r o) := by
  cases o with
  | none => rfl
  | some y => simp only [loV, loR, omR]; cases r y <;> rfl
theorem hi_R {r : Rf → AV} {o : Option Rf} : hiV r o = hiR (omR r o) := by
  cases o with
  | none => rfl
  | some y => simp only [hiV, hiR, omR]; cases r y <;> rfl
theorem q_slc {x : Rf} {lo hi : Option Rf} {st : Nat} : lnK L vars (.slc x lo hi st) false env σp σ K = oK (loR (omR (rv vars env) lo)) (fun a => oK (hiR (omR (rv vars env) hi)) (fun b => nx (rv vars env x) (fun x => sl2 σ x a b st fun v => K (v :: env) σp σ) .k) .k) .k := by unfold oK nx; simp only [← lo_R, ← hi_R, ← sl12]; exact zVNu
theorem z2nC {x : Rf} {lo hi : Option Rf} {st : Nat} : lnK L vars (.slc x lo hi st) true env σp σ K = oK (loR (omR (rv vars env) lo)) (fun a => oK (hiR (omR (rv vars env) hi)) (fun b => nx (rv vars env x) (fun x => sl2 σp x a b st fun v => K (v :: env) σp σ) .k) .k) .k := by unfold oK nx; simp only [← lo_R, ← hi_R, ← sl12]; exact zVE9
theorem z4RX {α β γ : Type} {f : β → Option γ} {g : α → β} : ∀ {l : List α}, mapO (fun x => f (g x)) l = mapO f (mapR g l)
  | [] => rfl
  | x :: r => by simp only [mapO, mapR]; rw [z4RX (l := r)]
theorem q_cab {f : Nat} {args : List Rf} : lnK L vars (.cab f args) false env σp σ K = nL (mapR (rv vars env) args) (fun as => oK (mapO (view σ false vd) as) (fun vs => lX L f vs [] (fun v σ' => oK (viewT σ' true v) (fun u => K (u :: env) σp σ) .k) .k) .k) .k := by unfold nL; dsimp only; rw [← z4RX]; exact zbYe
theorem zlp8 {f : Nat} {args : List Rf} : lnK L vars (.cab f args) true env σp σ K = nL (mapR (rv vars env) args) (fun as => oK (mapO (view σp false vd) as) (fun vs => lX L f vs [] (fun v σ' => oK (viewT σ' true v) (fun u => K (u :: env) σp σ) .k) .k) .k) .k := by unfold nL; dsimp only; rw [← z4RX]; exact zYLn
theorem q_can {f : Nat} {args : List Rf} : lnK L vars (.can f args) false env σp σ K = nL (mapR (rv vars env) args) (fun as => okIf (noLocs as = true) (lX L f as [] (fun v σ' => nx (shV σ.length v) (fun v => nB (σ ++ σ'.map (shB σ.length)) (fun τ => K (v :: env) σ τ) .k) .k) .k)) .k := by rw [← map_R]; exact zM5h
theorem q_bxm {x : Rf} {k : Option Nat} : lnK L vars (.bxm x k) false env σp σ K = nx (rv vars env x) (fun x => okIf (x.cells.length = kst k ∧ notUnd x = true) (nB (appR σ [⟨k, x.cells, .live⟩]) (fun τ => K (.ptr σ.length (kst k) 0 :: env) σ τ) .k)) .k := by unfold nx nB; simp only [← app_R]; exact ze41
theorem q_alc {z : List AV} {k : Option Nat} : lnK L vars (.alc z k) false env σp σ K = okIf (z.length = kst k) (nB (appR σ [⟨k, z, .live⟩]) (fun τ => K (.ptr σ.length (kst k) 0 :: env) σ τ) .k) := by rw [← app_R]; exact zwA2
theorem q_mks {n c : Rf} {z : List AV} {k : Option Nat} : lnK L vars (.mks n c z k) false env σp σ K = nx (rv vars env n) (fun n => nx (rv vars env c) (fun c => ii n c fun n c => okIf (0 ≤ n ∧ n ≤ c ∧ c ≤ big ∧ z.length = kst k) (nC (dupN c.toNat z) (fun cs => nB (appR σ [⟨k, cs, .live⟩]) (fun τ => K (.sl σ.length cs.length 0 n.toNat :: env) σ τ) .k) .k)) .k) .k := by
  unfold nx nC nB; simp only [← app_R]; exact z7W7
@[reducible] def catR : List AV → List AV
  | [] => []
  | x :: r => appR x.cells (catR r)
theorem cat_R : ∀ l : List AV, l.flatMap AV.cells = catR l
  | [] => rfl
  | x :: r => by simp only [List.flatMap_cons, catR, cat_R r, app_R]
theorem ztuk {ps : List Rf} {k : Option Nat} : lnK L vars (.litm ps k) false env σp σ K = nL (mapR (rv vars env) ps) (fun l => okIf (fitAll (kst k) l = true) (nC (catR l) (fun cs => nB (appR σ [⟨k, cs, .live⟩]) (fun τ => K (.sl σ.length cs.length 0 ps.length :: env) σ τ) .k) .k)) .k := by
  unfold nL nC nB; simp only [← app_R, ← map_R, ← cat_R]; exact z6Fy
theorem q_nl {k : Option Nat} : lnK L vars (.nl k) false env σp σ K = nB (appR σ [⟨k, [], .nul⟩]) (fun τ => K (.sl σ.length 0 0 0 :: env) σ τ) .k := by rw [← app_R]; exact zPlK
def src (σ : List Blk) (k : Option Nat) (x : AV) (K : Nat → List AV → Prop) (_ : Tk K) : Prop := optK (srcCells σ k x) fun p => K p.1 p.2
theorem z8vm {k : Option Nat} {K : Nat → List AV → Prop} {t : Tk K} : src σ k .snil K t = K 0 [] := (rfl)
theorem zbUs {k : Option Nat} {q : Bool} {l : List AV} {K : Nat → List AV → Prop} {t : Tk K} : src σ k (.imm q l) K t = okIf (fitAll (kst k) l = true) (nC (l.flatMap AV.cells) (fun cs => K l.length cs) .k) := by
  unfold src srcCells; by_cases h : fitAll (kst k) l = true <;> simp [h, optK, okIf, nC]
theorem zFhI {k : Option Nat} {l : List AV} {K : Nat → List AV → Prop} {t : Tk K} : src σ k (.arr l) K t = okIf (fitAll (kst k) l = true) (nL (catR l) (fun cs => K l.length cs) .k) := by
  rw [← cat_R]; unfold src srcCells; by_cases h : fitAll (kst k) l = true <;> simp [h, optK, okIf, nL]
theorem zV81 {k : Option Nat} {b u off len : Nat} {K : Nat → List AV → Prop} {t : Tk K} : src σ k (.sl b u off len) K t = bk (blk σ b) u (fun k' cs _ => okIf (off + len * kst k ≤ cs.length ∧ kst k' = kst k) (nC ((cs.drop off).take (len * kst k)) (fun cs => K len cs) .k)) .k := by
  rw [← zGMv (K := fun B => okIf (off + len * kst k ≤ B.cells.length ∧ kst B.k = kst k) (nC ((B.cells.drop off).take (len * kst k)) (fun cs => K len cs) .k))]
  unfold src srcCells
  simp only
  cases upto σ b u with
  | none => rfl
  | some B => by_cases h : off + len * kst k ≤ B.cells.length ∧ kst B.k = kst k <;> simp [h, optK, okIf, nC]
def ap (σ : List Blk) (s : AV) (k : Option Nat) (n : Nat) (cs : List AV) (K : AV → List Blk → Prop) (_ : Tk K) : Prop := ap1 σ s k n cs K
def nz (n : Nat) (A B : Prop) (_ : Tk A) (_ : Tk B) : Prop := (n = 0 → A) ∧ (n ≠ 0 → B)
theorem zU1O {A B : Prop} {t : Tk A} {u : Tk B} : nz 0 A B t u = A := by simp [nz]
theorem zHY9 {A B : Prop} {t : Tk A} {u : Tk B} : nz 1 A B t u = B := by simp [nz]
theorem zKfo {n : Nat} {A B : Prop} {t : Tk A} {u : Tk B} : nz (n + 1) A B t u = B := by simp [nz]
theorem zOQd {n : Nat} {A B : Prop} {t : Tk A} {u : Tk B} : nz n A B t u = (im (n = 0) A .k ∧ im (n ≠ 0) B .k) := (rfl)
theorem ap_sl {b u off len : Nat} {k : Option Nat} {n : Nat} {cs : List AV} {K : AV → List Blk → Prop} {t : Tk K} : ap σ (.sl b u off len) k n cs K t = bk (blk σ b) u (fun k' cs' st => okIf (off = 0 ∧ u = len * kst k ∧ len + n ≤ big ∧ eqK k' k = true) (nz n (K (.sl b u off len) σ) (cs.length ≠ 0 ∧ nC (cs' ++ cs) (fun c => nB (setB σ b ⟨k', c, .live⟩) (fun τ => K (.sl b c.length 0 (len + n)) τ) .k) .k) .k .k)) .k := by
  show ap1 σ (.sl b u off len) k n cs K = _
  rw [zR5o, zGMv]
  cases h : blk σ b with
  | none => rfl
  | some B =>
    obtain ⟨k', cs', st⟩ := B
    simp only [bk, nz, nC, nB, okIf, growB, h, List.length_append]
    apply propext
    constructor
    · rintro ⟨⟨rfl, h1⟩, h2, h3, h4⟩; exact ⟨⟨rfl, h1⟩, h2, h3, h4⟩
    · rintro ⟨⟨rfl, h1⟩, h2, h3, h4⟩; exact ⟨⟨rfl, h1⟩, h2, h3, h4⟩
theorem zCHW {k : Option Nat} {n : Nat} {cs : List AV} {K : AV → List Blk → Prop} {t : Tk K} : ap σ .snil k n cs K t = nz n (K .snil σ) (n ≤ big ∧ nB (appR σ [⟨k, cs, .live⟩]) (fun τ => K (.sl σ.length cs.length 0 n) τ) .k) .k .k := by unfold nz nB; simp only [← app_R]; rfl
theorem zN0b {l : List AV} {k : Option Nat} {n : Nat} {cs : List AV} {K : AV → List Blk → Prop} {t : Tk K} : ap σ (.arr l) k n cs K t = nz n (K (if noLocs l then .imm true l else .arr l) σ) ((fitAll (kst k) l = true ∧ l.length + n ≤ big) ∧ nC (appR (catR l) cs) (fun c => nB (appR σ [⟨k, c, .live⟩]) (fun τ => K (.sl σ.length c.length 0 (l.length + n)) τ) .k) .k) .k .k := by
  unfold nz nC nB; simp only [← app_R, ← cat_R]; rfl
theorem q_app {s x : Rf} {k : Option Nat} : lnK L vars (.app s x k) false env σp σ K = nx (rv vars env x) (fun x => src σ k x (fun n cs => nx (rv vars env s) (fun s => ap σ s k n cs (fun v τ => K (v :: env) σ τ) .k) .k) .k) .k := zkPY
theorem q_st {p x : Rf} {n : Nat} : lnK L vars (.st p x n) false env σp σ K = nx (rv vars env p) (fun p => nx (rv vars env x) (fun x => st1 σ p x n fun τ => K (.und :: env) [] τ) .k) .k := zrSy
def aw (σ : List Blk) (s : AV) (k : Option Nat) (n : Nat) (cs : List AV) (K : AV → List Blk → Prop) (_ : Tk K) : Prop := aw1 σ s k n cs K
theorem aw_sl {b u off len : Nat} {k : Option Nat} {n : Nat} {cs : List AV} {K : AV → List Blk → Prop} {t : Tk K} : aw σ (.sl b u off len) k n cs K t = bk (blk σ b) u (fun k' cs' st => okIf (off = 0 ∧ len + n ≤ big ∧ eqK k' k = true ∧ (n ≠ 0 → cs.length ≠ 0)) (nz n (K (.sl b u off len) σ) (gT (decide (u = len * kst k)) (nC (cs' ++ cs) (fun c => nB (setB σ b ⟨k', c, .live⟩) (fun τ => K (.sl b c.length 0 (len + n)) τ) .k) .k) ((len + n) * kst k ≤ u ∧ nC (putAt cs' (len * kst k) cs) (fun c => nB (setB σ b ⟨k', c, st⟩) (fun τ => K (.sl b u 0 (len + n)) τ) .k) .k) .k .k) .k .k)) .k := by
  show aw1 σ (.sl b u off len) k n cs K = _
  rw [z2x2, zGMv]
  cases h : blk σ b with
  | none => rfl
  | some B =>
    obtain ⟨k', cs', st⟩ := B
    simp only [bk, nz, nC, nB, okIf, List.length_append, z7Sd, im]
    apply propext
    constructor
    · rintro ⟨⟨rfl, h1⟩, h2, h3, h4, h5⟩; exact ⟨⟨rfl, h1⟩, h2, h3, fun hn => ⟨h4 hn, h5 hn⟩⟩
    · rintro ⟨⟨rfl, h1⟩, h2, h3, h4⟩; exact ⟨⟨rfl, h1⟩, h2, h3, fun hn => (h4 hn).1, fun hn => (h4 hn).2⟩
theorem zOVT {k : Option Nat} {n : Nat} {cs : List AV} {K : AV → List Blk → Prop} {t : Tk K} : aw σ .snil k n cs K t = nz n (K .snil σ) (n ≤ big ∧ nB (appR σ [⟨k, cs, .live⟩]) (fun τ => K (.sl σ.length cs.length 0 n) τ) .k) .k .k := by unfold nz nB; simp only [← app_R]; rfl
theorem zjJZ {l : List AV} {k : Option Nat} {n : Nat} {cs : List AV} {K : AV → List Blk → Prop} {t : Tk K} : aw σ (.arr l) k n cs K t = nz n (K (if noLocs l then .imm true l else .arr l) σ) ((fitAll (kst k) l = true ∧ l.length + n ≤ big) ∧ nC (appR (catR l) cs) (fun c => nB (appR σ [⟨k, c, .live⟩]) (fun τ => K (.sl σ.length c.length 0 (l.length + n)) τ) .k) .k) .k .k := by
  unfold nz nC nB; simp only [← app_R, ← cat_R]; rfl
theorem zkbH {s x : Rf} {k : Option Nat} : lnK L vars (.appw s x k) false env σp σ K = nx (rv vars env x) (fun x => src σ k x (fun n cs => nx (rv vars env s) (fun s => aw σ s k n cs (fun v τ => K (v :: env) [] τ) .k) .k) .k) .k := z9Ow
def cpK (σ : List Blk) (d : AV) (k : Option Nat) (n : Nat) (cs : List AV) (K : AV → List Blk → Prop) (_ : Tk K) : Prop := match d with
  | .sl b u off len => optK (upto σ b u) fun B => okIf (off + len * kst k ≤ B.cells.length ∧ kst B.k = kst k ∧ B.st.isLive = true) (nz (min n len) (K (.int 0) σ) (nC (putAt B.cells off (cs.take (min n len * kst k))) (fun c => nB (setB σ b ⟨B.k, c, B.st⟩) (fun τ => K (.int (min n len : Nat)) τ) .k) .k) .k .k)
  | _ => False
theorem cp_sl {b u off len : Nat} {k : Option Nat} {n : Nat} {cs : List AV} {K : AV → List Blk → Prop} {t : Tk K} : cpK σ (.sl b u off len) k n cs K t = bk (blk σ b) u (fun k' cs' st => okIf (off + len * kst k ≤ cs'.length ∧ kst k' = kst k ∧ st.isLive = true) (nz (min n len) (K (.int 0) σ) (nC (putAt cs' off (cs.take (min n len * kst k))) (fun c => nB (setB σ b ⟨k', c, st⟩) (fun τ => K (.int (min n len : Nat)) τ) .k) .k) .k .k)) .k := zGMv
theorem q_cpy {d s : Rf} {k : Option Nat} : lnK L vars (.cpy d s k) false env σp σ K = nx (rv vars env s) (fun x => src σ k x (fun n cs => nx (rv vars env d) (fun d => cpK σ d k n cs (fun v τ => K (v :: env) [] τ) .k) .k) .k) .k := by
  show optK (evW L σ (rv vars env) (.cpy d s k)) _ = _
  simp only [nx, src]
  generalize hx : rv vars env s = p
  generalize hy : rv vars env d = q
  simp only [evW, hx, hy]
  cases srcCells σ k p with
  | none => rfl
  | some ncs =>
    obtain ⟨n, cs⟩ := ncs
    simp only [z2CC]
    cases q <;> try rfl
    rename_i b u off len
    simp only [cpK]
    cases upto σ b u with
    | none => rfl
    | some B =>
      simp only [z2CC, okIf]
      by_cases hc : off + len * kst k ≤ B.cells.length ∧ kst B.k = kst k ∧ B.st.isLive = true
      · simp only [if_pos hc, hc, true_and, and_self, nz, nC, nB]
        by_cases h0 : min n len = 0
        · simp only [h0, if_true, z2CC, true_implies, ne_eq, not_true_eq_false, false_implies, and_true]
        · simp only [h0, if_true, if_false, z2CC, false_implies, ne_eq, not_false_eq_true, true_implies, true_and]
      · simp only [if_neg hc]
        exact propext ⟨fun h => h.elim, fun h => hc h.1⟩
def cu1 (x : AV) (K : AV → Prop) : Prop := match x with
  | .int n => okIf (0 ≤ n ∧ n ≤ 18446744073709551615) (K (.ik 7 n))
  | .ik _ n => okIf (0 ≤ n ∧ n ≤ 18446744073709551615) (K (.ik 7 n))
  | _ => False
theorem zq38 {n : Int} {K : AV → Prop} : cu1 (.int n) K = okIf (0 ≤ n ∧ n ≤ 18446744073709551615) (K (.ik 7 n)) := (rfl)
theorem z1PI {k : Nat} {n : Int} {K : AV → Prop} : cu1 (.ik k n) K = okIf (0 ≤ n ∧ n ≤ 18446744073709551615) (K (.ik 7 n)) := (rfl)
theorem q_cvu {x : Rf} : lnK L vars (.cvu x) false env σp σ K = nx (rv vars env x) (fun x => cu1 x fun v => K (v :: env) σp σ) .k := by
  show optK (ev L σ σ.length [] (rv vars env) (.cvu x)) _ = _
  simp only [nx]
  generalize hx : rv vars env x = p
  simp only [ev, hx]
  cases p <;> try rfl
  · rename_i n
    rw [zq38]
    simp only [zW4b]; rfl
  · rename_i k n
    rw [z1PI]
    simp only [zW4b]; rfl
def c81 (x : AV) (K : AV → Prop) : Prop := match x with
  | .int n => okIf (0 ≤ n ∧ n ≤ 255) (K (.ik 4 n))
  | _ => False
theorem z2GA {n : Int} {K : AV → Prop} : c81 (.int n) K = okIf (0 ≤ n ∧ n ≤ 255) (K (.ik 4 n)) := (rfl)
theorem q_cv8 {x : Rf} : lnK L vars (.cv8 x) false env σp σ K = nx (rv vars env x) (fun x => c81 x fun v => K (v :: env) σp σ) .k := by
  show optK (ev L σ σ.length [] (rv vars env) (.cv8 x)) _ = _
  simp only [nx]
  generalize hx : rv vars env x = p
  simp only [ev, hx]
  cases p <;> try rfl
  rename_i n
  rw [z2GA]
  simp only [zW4b]; rfl
theorem q_sob {x : Rf} : lnK L vars (.sob x) false env σp σ K = nx (rv vars env x) (fun x => src σ none x (fun _ cs => optK (bytesOf cs) fun s => K (.str s :: env) σp σ) .k) .k := by
  show optK (ev L σ σ.length [] (rv vars env) (.sob x)) _ = _
  simp only [nx, src]
  generalize hx : rv vars env x = p
  simp only [ev, hx]
  cases srcCells σ none p with
  | none => rfl
  | some q =>
    obtain ⟨n, cs⟩ := q
    simp only [z2CC]
    cases bytesOf cs <;> rfl
def gu1 (x y : AV) (K : Bool → Prop) : Prop := match x, y with
  | .ik 7 a, .ik 7 b => K (decide (b < a))
  | _, _ => False
theorem zZc8 {a b : Int} {K : Bool → Prop} : gu1 (.ik 7 a) (.ik 7 b) K = K (decide (b < a)) := (rfl)
theorem q_gtu {x y : Rf} : lnK L vars (.gtu x y) false env σp σ K = nx (rv vars env x) (fun x => nx (rv vars env y) (fun y => gu1 x y fun b => K (.bool b :: env) σp σ) .k) .k := by
  show optK (ev L σ σ.length [] (rv vars env) (.gtu x y)) _ = _
  simp only [nx]
  generalize hx : rv vars env x = p
  generalize hy : rv vars env y = q
  simp only [ev, hx, hy, gu1]
  split <;> first | rfl | (split <;> first | rfl | simp_all)
def su1 (x y : AV) (K : AV → Prop) : Prop := match x, y with
  | .ik 7 a, .int n => okIf (0 ≤ n ∧ n < 64) (K (.ik 7 (a.fdiv (2 ^ n.toNat))))
  | .ik 7 a, .ik 7 n => okIf (0 ≤ n ∧ n < 64) (K (.ik 7 (a.fdiv (2 ^ n.toNat))))
  | _, _ => False
theorem zCU3 {a n : Int} {K : AV → Prop} : su1 (.ik 7 a) (.int n) K = okIf (0 ≤ n ∧ n < 64) (K (.ik 7 (a.fdiv (2 ^ n.toNat)))) := (rfl)
theorem zYI1 {a n : Int} {K : AV → Prop} : su1 (.ik 7 a) (.ik 7 n) K = okIf (0 ≤ n ∧ n < 64) (K (.ik 7 (a.fdiv (2 ^ n.toNat)))) := (rfl)
theorem q_shu {x y : Rf} : lnK L vars (.shu x y) false env σp σ K = nx (rv vars env x) (fun x => nx (rv vars env y) (fun y => su1 x y fun v => K (v :: env) σp σ) .k) .k := by
  show optK (ev L σ σ.length [] (rv vars env) (.shu x y)) _ = _
  simp only [nx]
  generalize hx : rv vars env x = p
  generalize hy : rv vars env y = q
  simp only [ev, hx, hy, su1]
  split
  · simp only [zW4b]; rfl
  · simp only [zW4b]; rfl
  · rename_i h1 h2
    split
    · rename_i a n; exact absurd rfl (h1 a n rfl)
    · rename_i a n; exact absurd rfl (h2 a n rfl)
    · rfl
theorem q_cam {f : Nat} {args : List Rf} : lnK L vars (.cam f args) false env σp σ K = nL (mapR (rv vars env) args) (fun as => lX L f as σ (fun v τ => nx v (fun v => nB τ (fun τ => K (v :: env) [] τ) .k) .k) .k) .k := by rw [← map_R]; exact zBPp
theorem zvBb {x : Rf} {args : List Rf} : lnK L vars (.camd x args) false env σp σ K = nx (rv vars env x) (fun x => fn1 x fun f caps => nL (appR (mapR (rv vars env) args) caps) (fun as => lX L f as σ (fun v τ => nx v (fun v => nB τ (fun τ => K (v :: env) [] τ) .k) .k) .k) .k) .k := by unfold nx nL lX; simp only [← map_R, ← app_R]; exact zNEF
theorem zfyw {x : Rf} {tbl : List (Nat × Nat)} {args : List Rf} : lnK L vars (.invm x tbl args) false env σp σ K = nx (rv vars env x) (fun x => if1 x tbl fun f v => nL (v :: mapR (rv vars env) args) (fun as => lX L f as σ (fun v τ => nx v (fun v => nB τ (fun τ => K (v :: env) [] τ) .k) .k) .k) .k) .k := by unfold nx nL lX; simp only [← map_R]; exact zfxP
end
section
variable {L : CE} {vars env : List AV} {σp σ : List Blk} {K : List AV → List Blk → Prop} {ls : List Ln} {op : IOp} {prev : Bool}
theorem zlwf : LK L vars [] env σp σ K = K env σ := by unfold LK; rfl
theorem zwQa : LK L vars (⟨op, none, prev⟩ :: ls) env σp σ K = lnK L vars op prev env σp σ fun env σp σ => LK L vars ls env σp σ K := by conv => lhs; unfold LK
def flK (x : AV) (w : Bool) (go skip go' skip' : Prop) (_ : Tk go) (_ : Tk skip) (_ : Tk go') (_ : Tk skip') : Prop := match x with
  | .bool b => match w with
    | true => gK b go' skip'
    | false => gK b skip' go'
  | .tup [] => skip
  | _ => False
theorem z0EC {w : Bool} {A B C D : Prop} {s : Tk A} {t : Tk B} {u : Tk C} {v : Tk D} : flK (.tup []) w A B C D s t u v = B := (rfl)
theorem z45O {b : Bool} {A B C D : Prop} {s : Tk A} {t : Tk B} {u : Tk C} {v : Tk D} : flK (.bool b) true A B C D s t u v = gT b C D .k .k := (rfl)
theorem zLHH {b : Bool} {A B C D : Prop} {s : Tk A} {t : Tk B} {u : Tk C} {v : Tk D} : flK (.bool b) false A B C D s t u v = gT b D C .k .k := (rfl)
theorem zPff {A B C D : Prop} {s : Tk A} {t : Tk B} {u : Tk C} {v : Tk D} : flK (.bool true) true A B C D s t u v = C := z2ae
theorem zGXf {A B C D : Prop} {s : Tk A} {t : Tk B} {u : Tk C} {v : Tk D} : flK (.bool true) false A B C D s t u v = D := z2ae
theorem zBEi {A B C D : Prop} {s : Tk A} {t : Tk B} {u : Tk C} {v : Tk D} : flK (.bool false) true A B C D s t u v = D := zmrn
theorem zfoN {A B C D : Prop} {s : Tk A} {t : Tk B} {u : Tk C} {v : Tk D} : flK (.bool false) false A B C D s t u v = C := zmrn
theorem LK_t {d : Nat} {w : Bool} : LK L vars (⟨op, some (.t d, w), prev⟩ :: ls) env σp σ K = nx (nth env d) (fun x => flK x w
      (lnK L vars op prev env σp σ fun env σp σ => LK L vars ls env σp σ K)
      (LK L vars ls (.tup [] :: env) σp σ K)
      (nL (setN env d (.bool w)) (fun env => lnK L vars op prev env σp σ fun env σp σ => LK L vars ls env σp σ K) .k)
      (nL (setN env d (.bool (!w))) (fun env => LK L vars ls (.tup [] :: env) σp σ K) .k) .k .k .k .k) .k := by
  conv => lhs; unfold LK
  simp only [flK, nx, nL]
  cases nth env d with
  | bool b => cases w <;> rfl
  | tup l => cases l <;> rfl
  | _ => rfl
theorem LK_v {d : Nat} {w : Bool} : LK L vars (⟨op, some (.v d, w), prev⟩ :: ls) env σp σ K = nx (nth vars d) (fun x => flK x w
      (lnK L vars op prev env σp σ fun env σp σ => LK L vars ls env σp σ K)
      (LK L vars ls (.tup [] :: env) σp σ K)
      (lnK L vars op prev env σp σ fun env σp σ => LK L vars ls env σp σ K)
      (LK L vars ls (.tup [] :: env) σp σ K) .k .k .k .k) .k := by
  conv => lhs; unfold LK
  simp only [flK, nx]
  all_goals (cases nth vars d with
    | bool b => cases w <;> rfl
    | tup l => cases l <;> rfl
    | _ => rfl)
end
def nF (fl : Option (Nat × AV)) (K : Option (Nat × AV) → Prop) (_ : Tk K) : Prop := K fl
theorem zv6x {K : Option (Nat × AV) → Prop} {t : Tk K} : nF none K t = K none := (rfl)
theorem znFS {n : Nat} {x : AV} {K : Option (Nat × AV) → Prop} {t : Tk K} : nF (some (n, x)) K t = nx x (fun x => K (some (n, x))) .k := (rfl)
section
variable {L : CE} {vars : List AV} {fl : Option (Nat × AV)} {σ : List Blk} {Q : Ex → St → Prop}
theorem zSoW {ls : List Ln} {os : List (Nat × Nat)} {ks : List Nat} {f : Option (Nat × Nat)} : WK L (.reg ⟨ls, os, ks, f⟩) vars fl σ Q = LK L vars ls [] σ σ fun env σ => nL (kills ks (outs env os vars)) (fun vs => nF (flOf env f) (fun f => Q .nor ⟨vs, f, σ⟩) .k) .k := zmLe
theorem zT8F {t : Nat} {a b : IC} {c : Bool} : WK L (.cond t a b) vars (some (t, .bool c)) σ Q = gT c (WK L a vars none σ Q) (WK L b vars none σ Q) .k .k := zHvT
theorem zN1c {k : Nat} {a b : IC} : WK L (.condv k a b) vars fl σ Q = nx (nth vars k) (fun x => b1 x fun c => gT c (WK L a vars fl σ Q) (WK L b vars fl σ Q) .k .k) .k := by
  rw [zdOm]
  unfold nx b1
  cases nth vars k <;> rfl
end
attribute [simp ↓] cp_sl zq38 z1PI zZc8 zCU3 zYI1 zIzg zVqM zqwX z7Pt zGYW zT0A zHIx zruJ i1_ik zO2W zOfI zgu5 z2Fh zLw4 ztFN zgmP zfUY z5gf zPLX zJvV zi9t zGgp zvnl z9bA zMMJ z1yL zCOZ z5VG zijj zc4k zBPn zRnu zBo4 zr8g zoYf zTCf zyWU zpGs znlF zFWe zITH zMDh zG93 zwYd zHdE zvie zfQP
attribute [simp ↓] z4kb nx_ik zQd4 zd1J zHcv zevk zRy0 zA1P zuI1 nx_sl zBvF z4V2 zjbL zTKK zmiW zBmv zha5 z0ml zdRT zYlV zLLg zsTQ zEe0 z9uy zv7J zrRS zYzp zBvv z7Sd z051 zP91 zPTU z66N
attribute [simp] zYlV zLLg zsTQ zEe0 z9uy zv7J zrRS zYzp zBvv z7Sd z0aq zZTp z051 zP91
attribute [simp] z4kb nx_ik zQd4 zd1J zHcv zevk zRy0 zA1P zuI1 nx_sl zBvF z4V2 zjbL zTKK zmiW zBmv zha5 z0ml zdRT
attribute [simp low] zKmm zML8 zeef zW2a zMVd zFaG znRG zOQd
attribute [simp ↓] z085 zNVa zun8 zqtM cl_eq z8vm zbUs zFhI zV81 zU1O zHY9 zKfo ap_sl zCHW zN0b aw_sl zOVT zjJZ
attribute [simp] zAJK zeYZ zJi8 zxGO z085 zNVa zun8 zqtM zU1O zHY9 zKfo zkti z1eQ
attribute [simp ↓] q_cpy q_cv8 q_sob q_cvu q_gtu q_shu q_mkm q_mlk ztAb q_mln zcaF q_mup q_mv q_bin q_beq q_seq q_idx q_not zDpO q_len q_max q_min q_fad q_iad zLwD q_nck q_bxi zcyy q_ini q_bld q_fld q_ext q_mkf q_mki zWZ1 zzCP q_cal zrVK q_inv q_bnl zzhI q_ldi q_ld q_ld' q_cvi q_slc z2nC zaIy q_cab zlp8 q_can q_bxm q_alc q_mks ztuk q_nl q_app q_st zkbH q_cam zvBb zfyw zlwf zwQa LK_t LK_v z0EC zPff zGXf zBEi zfoN
attribute [simp ↓ low] z45O zLHH
attribute [simp ↓] zv6x znFS zSoW zT8F zN1c
theorem zpNA {α β : Type} {f : α → β} : mapR f [] = [] := (rfl)
theorem zQpk {α β : Type} {f : α → β} {x : α} {l : List α} : mapR f (x :: l) = f x :: mapR f l := (rfl)
theorem zFRg {α β : Type} {f : α → β} {l : List α} : mapR f l = l.map f := (map_R f l).symm
theorem zMRD {α : Type} {l : List α} : appR [] l = l := (rfl)
theorem zygZ {α : Type} {x : α} {l m : List α} : appR (x :: l) m = x :: appR l m := (rfl)
theorem zs3n {α : Type} {l m : List α} : appR l m = l ++ m := (app_R l m).symm
attribute [simp] zpNA zQpk zMRD zygZ z2CC
attribute [simp low] zFRg zs3n
end Ab
namespace Ab
def ix {α : Type} [Inhabited α] (l : List α) (n : Int) : α := l.getD n.toNat default
abbrev iL (l : List Int) : AV := .imm false (l.map .int)
abbrev bL (l : List Bool) : AV := .imm false (l.map .bool)
abbrev iLL (l : List (List Int)) : AV := .imm false (l.map iL)
abbrev bLL (l : List (List Bool)) : AV := .imm false (l.map bL)
abbrev iLLL (l : List (List (List Int))) : AV := .imm false (l.map iLL)
theorem znyW : ∀ (l : List AV) (i : Nat), elm l i = l[i]?
  | [], i => by simp [elm]
  | x :: r, 0 => rfl
  | x :: r, i + 1 => by simp [elm, znyW r i]
section
variable {α : Type} [Inhabited α]
theorem zmAQ {l : List α} {n : Int} (h0 : 0 ≤ n) (h1 : n < l.length) : ix l n ∈ l := by
  unfold ix
  rw [List.getD_eq_getElem?_getD, List.getElem?_eq_getElem (by omega)]
  simp
theorem ix_eq {l : List α} {n : Int} (h0 : 0 ≤ n) (h1 : n < l.length) : l[n.toNat]? = some (ix l n) := by
  unfold ix
  rw [List.getD_eq_getElem?_getD, List.getElem?_eq_getElem (by omega)]
  simp
theorem zrZW {l : List α} {n : Nat} (h1 : n < l.length) : ix l (n : Int) = l[n] := by
  unfold ix
  rw [List.getD_eq_getElem?_getD, Int.toNat_natCast, List.getElem?_eq_getElem (by omega)]
  simp
theorem zlZO {f : α → AV} {xs : List α} {n : Int} {K : AV → Prop} : idxK (xs.map f) n K = ((0 ≤ n ∧ n < xs.length) ∧ K (f (ix xs n))) := by
  apply propext
  unfold idxK
  constructor
  · rintro ⟨h0, y, h1, h2⟩
    rw [znyW, List.getElem?_map] at h1
    by_cases hn : n < xs.length
    · rw [ix_eq h0 hn] at h1
      simp at h1; subst h1
      exact ⟨⟨h0, hn⟩, h2⟩
    · rw [List.getElem?_eq_none (by omega)] at h1; simp at h1
  · rintro ⟨⟨h0, h1⟩, h2⟩
    exact ⟨h0, _, by rw [znyW, List.getElem?_map, ix_eq h0 h1]; rfl, h2⟩
end
theorem zyd9 {fn : Fn} {K : AV → List Blk → Prop} {s : St} : EndsK fn K .ret s = oK (results fn s) (fun v => K v s.σ) .k := (rfl)
theorem zWf9 {fn : Fn} {K : AV → List Blk → Prop} {s : St} : EndsK fn K .nor s = oK (results fn s) (fun v => K v s.σ) .k := (rfl)
theorem z6Mx {α : Type} [Inhabited α] {f : α → AV} {xs : List α} {n : Int} {K : AV → Prop} {t : Tk K} : xK (xs.map f) n K t = ((0 ≤ n ∧ n < xs.length) ∧ K (f (ix xs n))) := zlZO
theorem zN4X {α : Type} [Inhabited α] {l : List α} {i : Int} (h0 : 0 ≤ i) (h1 : i < l.length) : l.drop i.toNat = ix l i :: l.drop (i + 1).toNat := by
  have e : (i + 1).toNat = i.toNat + 1 := by omega
  rw [e, List.drop_eq_getElem_cons (by omega), ix, List.getD_eq_getElem?_getD, List.getElem?_eq_getElem (by omega)]
  simp
theorem zdV2 {α : Type} {l : List α} {i : Int} (h1 : l.length ≤ i) : l.drop i.toNat = [] := List.drop_of_length_le (by omega)
def sets : List (Nat × AV) → List AV → List AV
  | [], vs => vs
  | (k, x) :: r, vs => sets r (setN vs k x)
def More {α : Type} (f : α → List (Nat × AV)) (g : α → List Blk) (I : α → Prop) (μ : α → Nat) (m : Nat) (vs : List AV) (Q : Ex → St → Prop) : Ex → St → Prop := fun e s => match e with
  | .nor => ∃ a, s = ⟨sets (f a) vs, none, g a⟩ ∧ I a ∧ μ a < m
  | e => Q e s
section
variable {L : CE} {α : Type} {f : α → List (Nat × AV)} {g : α → List Blk} {I : α → Prop} {μ : α → Nat} {m : Nat} {vs : List AV} {Q : Ex → St → Prop}
theorem zJRc {s : St} : More f g I μ m vs Q .nor s = ∃ a, s = ⟨sets (f a) vs, none, g a⟩ ∧ I a ∧ μ a < m := (rfl)
theorem zaMw {s : St} : More f g I μ m vs Q .ret s = Q .ret s := (rfl)
theorem zyN4 {s : St} {j : Nat} : More f g I μ m vs Q (.exit j) s = Q (.exit j) s := (rfl)
theorem zv8C {c : IC} {fl : Option (Nat × AV)} {σ : List Blk} (f : α → List (Nat × AV)) (g : α → List Blk) (I : α → Prop) (μ : α → Nat) (a0 : α) (h0 : (⟨vs, fl, σ⟩ : St) = ⟨sets (f a0) vs, none, g a0⟩) (hI : I a0)
    (hs : ∀ a, I a → WK L c (sets (f a) vs) none (g a) (More f g I μ (μ a) vs Q)) : W L (.loop c) ⟨vs, fl, σ⟩ Q := by
  have go : ∀ (k : Nat) (a : α), μ a < k → I a → W L (.loop c) ⟨sets (f a) vs, none, g a⟩ Q := by
    intro k
    induction k with
    | zero => intro a h; omega
    | succ k ih =>
      intro a hk hI
      obtain ⟨n, e, s', h1, h2⟩ := WK_s (hs a hI)
      cases e with
      | nor =>
        obtain ⟨a', rfl, h3, h4⟩ := h2
        obtain ⟨n', e', s'', h5, h6⟩ := ih a' (by omega) h3
        refine ⟨max n n' + 1, e', s'', ?_, h6⟩
        simp only [exec] at h5 ⊢
        simp only [iter]
        rw [zM0K (z9Ui L) (show n ≤ max n n' + 1 by omega) _ _ _ h1]
        exact z0zn (fun s x h => zM0K (z9Ui L) (show n' ≤ max n n' + 1 by omega) _ _ _ h) (show n' ≤ max n n' by omega) h5
      | exit j => exact ⟨n + 1, .exit j, s', by simp only [exec, iter]; rw [zM0K (z9Ui L) (Nat.le_succ n) _ _ _ h1], h2⟩
      | ret => exact ⟨n + 1, .ret, s', by simp only [exec, iter]; rw [zM0K (z9Ui L) (Nat.le_succ n) _ _ _ h1], h2⟩
  rw [h0]
  exact go _ a0 (Nat.lt_succ_self _) hI
end
section
variable {σ : List Blk} {fr : Bool} {k : Nat}
theorem z1Mx {n : Int} : view σ fr (k + 1) (.int n) = some (.int n) := (rfl)
theorem zMNs {n : Bool} : view σ fr (k + 1) (.bool n) = some (.bool n) := (rfl)
theorem zcz1 {n : List UInt8} : view σ fr (k + 1) (.str n) = some (.str n) := (rfl)
theorem zcJm : view σ fr (k + 1) .snil = some (.imm false []) := (rfl)
theorem zzos : view σ fr (k + 1) .inil = some .inil := (rfl)
theorem z0hI {b : Bool} {l : List AV} : view σ false (k + 1) (.imm b l) = some (.imm false l) := (rfl)
theorem zj0j {l : List AV} : view σ fr (k + 1) (.agg l) = match mapO (view σ fr k) l with
  | none => none
  | some l => some (.agg l) := (rfl)
theorem zuwJ {n : Int} : view σ fr vd (.int n) = some (.int n) := (rfl)
theorem zT6P {n : Bool} : view σ fr vd (.bool n) = some (.bool n) := (rfl)
theorem zGEk {n : List UInt8} : view σ fr vd (.str n) = some (.str n) := (rfl)
theorem zwar : view σ fr vd .snil = some (.imm false []) := (rfl)
theorem ztgP : view σ fr vd .inil = some .inil := (rfl)
theorem zpfD {b : Bool} {l : List AV} : view σ false vd (.imm b l) = some (.imm false l) := (rfl)
theorem zaAi {l : List AV} : view σ fr vd (.agg l) = match mapO (view σ fr 11) l with
  | none => none
  | some l => some (.agg l) := (rfl)
end
section
variable {σ : List Blk} {fr : Bool}
theorem zmFM {n : Int} : viewT σ fr (.int n) = some (.int n) := (rfl)
theorem z8jP {n : Bool} : viewT σ fr (.bool n) = some (.bool n) := (rfl)
theorem zYhu {n : List UInt8} : viewT σ fr (.str n) = some (.str n) := (rfl)
theorem z29j : viewT σ fr .snil = some (.imm false []) := (rfl)
theorem zj1i : viewT σ fr .inil = some .inil := (rfl)
theorem zPX0 {b : Bool} {l : List AV} : viewT σ false (.imm b l) = some (.imm false l) := (rfl)
theorem zwxw {b u off len : Nat} : viewT σ fr (.sl b u off len) = view σ fr vd (.sl b u off len) := (rfl)
theorem zx62 {b u off : Nat} : viewT σ fr (.ptr b u off) = view σ fr vd (.ptr b u off) := (rfl)
theorem zgvX {l : List AV} : viewT σ fr (.agg l) = view σ fr vd (.agg l) := (rfl)
theorem z9w0 {t : Nat} {l : AV} : viewT σ fr (.iface t l) = view σ fr vd (.iface t l) := (rfl)
theorem zenh {l : List AV} : viewT σ fr (.tup l) = match mapO (view σ fr vd) l with
    | none => none
    | some l => some (.tup l) := (rfl)
end
attribute [simp] zmFM z8jP zYhu z29j zj1i zPX0 zwxw zx62 zgvX z9w0 zenh
attribute [simp] z1Mx zMNs zcz1 zcJm zzos z0hI zj0j zuwJ zT6P zGEk zwar ztgP zpfD zaAi sets
attribute [simp ↓] zJRc zaMw zyN4 zxBG zCJV z4aM z6Ss zJsO zcRs zW2j zNVm zpPi zpUY z9vZ zmRO z2cA zTRw zSxT zx8A zNM9 zOGX zlEe zRmy zyd9 zWf9 z6Mx
theorem zoky (n : Int) : AV.cells (.int n) = [(.int n)] := (rfl)
theorem zxOw (n : Int) : notUnd (.int n) = true := (rfl)
theorem zD84 (n : Int) : wk (.int n) = (.int n) := (rfl)
theorem zctz (n : Int) : wk1 (.int n) = (.int n) := (rfl)
theorem zae5 (k : Nat) (n : Int) : AV.cells (.ik k n) = [(.ik k n)] := (rfl)
theorem zMF8 (k : Nat) (n : Int) : notUnd (.ik k n) = true := (rfl)
theorem wk_ik (k : Nat) (n : Int) : wk (.ik k n) = (.ik k n) := (rfl)
theorem zWl9 (k : Nat) (n : Int) : wk1 (.ik k n) = (.ik k n) := (rfl)
theorem zoMY (b : Bool) : AV.cells (.bool b) = [(.bool b)] := (rfl)
theorem zx3d (b : Bool) : notUnd (.bool b) = true := (rfl)
theorem zLPL (b : Bool) : wk (.bool b) = (.bool b) := (rfl)
theorem zJsz (b : Bool) : wk1 (.bool b) = (.bool b) := (rfl)
theorem zT2l (l : List UInt8) : AV.cells (.str l) = [(.str l)] := (rfl)
theorem z04N (l : List UInt8) : notUnd (.str l) = true := (rfl)
theorem zf93 (l : List UInt8) : wk (.str l) = (.str l) := (rfl)
theorem zceC (l : List UInt8) : wk1 (.str l) = (.str l) := (rfl)
theorem zSJs  : AV.cells .snil = [.snil] := (rfl)
theorem z2c8  : notUnd .snil = true := (rfl)
theorem zVXB  : wk .snil = (.imm false []) := (rfl)
theorem zUqR  : wk1 .snil = (.imm false []) := (rfl)
theorem zDGj (b : Bool) (l : List AV) : AV.cells (.imm b l) = [(.imm b l)] := (rfl)
theorem zcUH (b : Bool) (l : List AV) : notUnd (.imm b l) = true := (rfl)
theorem zC5g (b : Bool) (l : List AV) : wk (.imm b l) = (.imm false l) := (rfl)
theorem zjWK (b : Bool) (l : List AV) : wk1 (.imm b l) = (.imm false l) := (rfl)
theorem zyep (l : List AV) : AV.cells (.arr l) = [(.arr l)] := (rfl)
theorem zgfN (l : List AV) : notUnd (.arr l) = true := (rfl)
theorem zBDo (l : List AV) : wk (.arr l) = (.arr l) := (rfl)
theorem zK7c (l : List AV) : wk1 (.arr l) = (.arr l) := (rfl)
theorem zx5J (b u o n : Nat) : AV.cells (.sl b u o n) = [(.sl b u o n)] := (rfl)
theorem z70k (b u o n : Nat) : notUnd (.sl b u o n) = true := (rfl)
theorem wk_sl (b u o n : Nat) : wk (.sl b u o n) = (.sl b u o n) := (rfl)
theorem zk5v (b u o n : Nat) : wk1 (.sl b u o n) = (.sl b u o n) := (rfl)
theorem zraW  : AV.cells .pnil = [.pnil] := (rfl)
theorem zqFm  : notUnd .pnil = true := (rfl)
theorem zM3G  : wk .pnil = .pnil := (rfl)
theorem zCbI  : wk1 .pnil = .pnil := (rfl)
theorem zHVp (v : AV) : AV.cells (.pimm v) = [(.pimm v)] := (rfl)
theorem z7Id (v : AV) : notUnd (.pimm v) = true := (rfl)
theorem z7g5 (v : AV) : wk (.pimm v) = (.pimm v) := (rfl)
theorem z4Do (v : AV) : wk1 (.pimm v) = (.pimm v) := (rfl)
theorem z71T (b : Nat) : AV.cells (.mapr b) = [(.mapr b)] := (rfl)
theorem zy4V (b : Nat) : notUnd (.mapr b) = true := (rfl)
theorem zLE2 (b : Nat) : wk (.mapr b) = (.mapr b) := (rfl)
theorem zaOD (b : Nat) : wk1 (.mapr b) = (.mapr b) := (rfl)
theorem zPna (b u o : Nat) : AV.cells (.ptr b u o) = [(.ptr b u o)] := (rfl)
theorem zy2C (b u o : Nat) : notUnd (.ptr b u o) = true := (rfl)
theorem zVOb (b u o : Nat) : wk (.ptr b u o) = (.ptr b u o) := (rfl)
theorem z9PU (b u o : Nat) : wk1 (.ptr b u o) = (.ptr b u o) := (rfl)
theorem z6C5  : AV.cells .fnil = [.fnil] := (rfl)
theorem zuyL  : notUnd .fnil = true := (rfl)
theorem zYn6  : wk .fnil = .fnil := (rfl)
theorem zNRO  : wk1 .fnil = .fnil := (rfl)
theorem zi5S (f : Nat) (l : List AV) : AV.cells (.func f l) = [(.func f l)] := (rfl)
theorem zl0s (f : Nat) (l : List AV) : notUnd (.func f l) = true := (rfl)
theorem z2hf (f : Nat) (l : List AV) : wk (.func f l) = (.func f l) := (rfl)
theorem zKGf (f : Nat) (l : List AV) : wk1 (.func f l) = (.func f l) := (rfl)
theorem zMoD  : AV.cells .inil = [.inil] := (rfl)
theorem zzWg  : notUnd .inil = true := (rfl)
theorem z0Lh  : wk .inil = .inil := (rfl)
theorem zsMg  : wk1 .inil = .inil := (rfl)
theorem ztob (t : Nat) (v : AV) : AV.cells (.iface t v) = [(.iface t v)] := (rfl)
theorem zO9H (t : Nat) (v : AV) : notUnd (.iface t v) = true := (rfl)
theorem zR4f (t : Nat) (v : AV) : wk (.iface t v) = (.iface t v) := (rfl)
theorem zN6e (t : Nat) (v : AV) : wk1 (.iface t v) = (.iface t v) := (rfl)
theorem zCsd (l : List AV) : AV.cells (.agg l) = l := (rfl)
theorem zPKw (l : List AV) : wk (.agg l) = .agg (l.map wk1) := (rfl)
theorem zZa3 (l : List AV) : wk1 (.agg l) = .agg l := (rfl)
def notAgg : AV → Bool
  | .und | .tup _ | .agg _ => false
  | _ => true
theorem zDYY (l : List AV) : notUnd (.agg l) = l.all notAgg := by
  rfl
theorem zmqv (n : Int) : notAgg (.int n) = true := (rfl)
theorem zaqV (k : Nat) (n : Int) : notAgg (.ik k n) = true := (rfl)
theorem z8I0 (b : Bool) : notAgg (.bool b) = true := (rfl)
theorem zfXW (l : List UInt8) : notAgg (.str l) = true := (rfl)
theorem z17n  : notAgg .snil = true := (rfl)
theorem zRaK (b : Bool) (l : List AV) : notAgg (.imm b l) = true := (rfl)
theorem zJHL (l : List AV) : notAgg (.arr l) = true := (rfl)
theorem zkuo (b u o n : Nat) : notAgg (.sl b u o n) = true := (rfl)
theorem z4lv  : notAgg .pnil = true := (rfl)
theorem zyw1 (v : AV) : notAgg (.pimm v) = true := (rfl)
theorem z4ii (b u o : Nat) : notAgg (.ptr b u o) = true := (rfl)
theorem zDGf  : notAgg .fnil = true := (rfl)
theorem zM8R (f : Nat) (l : List AV) : notAgg (.func f l) = true := (rfl)
theorem zGm7  : notAgg .inil = true := (rfl)
theorem zo65 (t : Nat) (v : AV) : notAgg (.iface t v) = true := (rfl)
attribute [simp] z71T zy4V zLE2 zaOD zoky zxOw zD84 zctz zae5 zMF8 wk_ik zWl9 zoMY zx3d zLPL zJsz zT2l z04N zf93 zceC zSJs z2c8 zVXB zUqR zDGj zcUH zC5g zjWK zyep zgfN zBDo zK7c zx5J z70k wk_sl zk5v zraW zqFm zM3G zCbI zHVp z7Id z7g5 z4Do zPna zy2C zVOb z9PU z6C5 zuyL zYn6 zNRO zi5S zl0s z2hf zKGf zMoD zzWg z0Lh zsMg ztob zO9H zR4f zN6e zCsd zPKw zZa3 zDYY zmqv zaqV z8I0 zfXW z17n zRaK zJHL zkuo z4lv zyw1 z4ii zDGf zM8R zGm7 zo65
attribute [simp] results mapO resOf rv nth setN kills outs flOf part elm noLocs noLoc
theorem zytl {st : Nat} : fitAll st [] = true := (rfl)
theorem zRkC {st : Nat} {x : AV} {l : List AV} : fitAll st (x :: l) = (x.cells.length == st && notUnd x && fitAll st l) := (rfl)
theorem zAAN {α : Type} {f : α → AV} {st : Nat} (h : ∀ x, (f x).cells.length = st ∧ notUnd (f x) = true) : ∀ {l : List α}, fitAll st (l.map f) = true
  | [] => rfl
  | x :: l => by simp only [List.map_cons, zRkC, h x, zAAN h (l := l), beq_self_eq_true, Bool.and_self]
theorem zsYG {l : List Int} : fitAll 1 (l.map .int) = true := zAAN (f := AV.int) fun _ => ⟨rfl, rfl⟩
theorem zo0M {l : List Bool} : fitAll 1 (l.map .bool) = true := zAAN (f := AV.bool) fun _ => ⟨rfl, rfl⟩
theorem zeqj {α : Type} {b : Bool} {f : α → List AV} {l : List α} : fitAll 1 (l.map fun x => .imm b (f x)) = true := zAAN (f := fun x => AV.imm b (f x)) fun _ => ⟨rfl, rfl⟩
theorem zY6o {α : Type} {f : α → AV} (h : ∀ x, (f x).cells = [f x]) : ∀ {l : List α}, (l.map f).flatMap AV.cells = l.map f
  | [] => rfl
  | x :: l => by simp only [List.map_cons, List.flatMap_cons, h x, zY6o h (l := l)]; rfl
theorem zmcV {l : List Int} : (l.map AV.int).flatMap AV.cells = l.map .int := zY6o (f := AV.int) fun _ => rfl
theorem zR2U {l : List Bool} : (l.map AV.bool).flatMap AV.cells = l.map .bool := zY6o (f := AV.bool) fun _ => rfl
theorem zkYp {α : Type} {b : Bool} {f : α → List AV} {l : List α} : (l.map fun x => AV.imm b (f x)).flatMap AV.cells = l.map fun x => .imm b (f x) := zY6o (f := fun x => AV.imm b (f x)) fun _ => rfl
attribute [simp] zytl zRkC zsYG zo0M zeqj zmcV zR2U zkYp
end Ab
namespace Ab
theorem zAuz : BSt.isLive .live = true := (rfl)
theorem zrJQ : BSt.isLive .nul = false := (rfl)
theorem zATz : kst none = 1 := (rfl)
theorem zvjk {n : Nat} : kst (some n) = n := (rfl)
theorem zuuM : eqK none none = true := (rfl)
theorem z4dd {a b : Nat} : eqK (some a) (some b) = (a == b) := (rfl)
attribute [simp] zAuz zrJQ zATz zvjk zuuM z4dd
@[reducible] def overR : List AV → List AV → List AV
  | cs, [] => cs
  | [], _ => []
  | _ :: cs, y :: new => y :: overR cs new
@[reducible] def putR : List AV → Nat → List AV → List AV
  | cs, 0, new => overR cs new
  | [], _, _ => []
  | x :: cs, n + 1, new => x :: putR cs n new
theorem zlI0 : ∀ {cs new : List AV}, new.length ≤ cs.length → overR cs new = new ++ cs.drop new.length
  | cs, [], _ => by cases cs <;> simp [overR]
  | [], y :: new, h => by simp at h
  | c :: cs, y :: new, h => by simp [overR, zlI0 (cs := cs) (new := new) (by simpa using h)]
theorem put_R : ∀ {cs : List AV} {o : Nat} {new : List AV}, o + new.length ≤ cs.length → putAt cs o new = putR cs o new
  | cs, 0, new, h => by
    have e : putR cs 0 new = overR cs new := by cases cs <;> rfl
    rw [e, zlI0 (by simpa using h)]; simp [putAt]
  | [], o + 1, new, h => by simp at h
  | c :: cs, o + 1, new, h => by
    have e := put_R (cs := cs) (o := o) (new := new) (by simp at h; omega)
    simp only [putR]
    rw [← e]
    simp only [putAt, List.take_succ_cons, List.cons_append]
    congr 2
    rw [show o + 1 + new.length = (o + new.length) + 1 by omega, List.drop_succ_cons]
section
variable {K : List AV → Prop} {t : Tk K}
theorem zD0v {cs : List AV} {o : Nat} {new : List AV} : pU cs o new K t = (o + new.length ≤ cs.length ∧ nL (putR cs o new) K .k) := by
  unfold pU putK nL
  by_cases h : o + new.length ≤ cs.length
  · simp only [h, true_and]; rw [put_R h]
  · simp [h]
theorem zjbr {α : Type} {f : α → AV} {xs : List α} {o : Nat} {y : α} (h : o < xs.length) : putAt (xs.map f) o [f y] = (xs.set o y).map f := by
  unfold putAt
  rw [List.set_eq_take_append_cons_drop, if_pos h]
  simp [List.map_take, List.map_drop]
theorem zgTl {α : Type} {f : α → AV} {xs : List α} {o : Nat} {y : α} : pU (xs.map f) o [f y] K t = (o < xs.length ∧ K ((xs.set o y).map f)) := by
  unfold pU putK
  by_cases h : o < xs.length
  · simp only [List.length_map, List.length_singleton, zjbr h]
    simp [h]; omega
  · simp [h]
    intro h'; omega
theorem zFIF {xs : List Int} {o : Nat} {y : Int} : pU (xs.map .int) o [AV.int y] K t = (o < xs.length ∧ K ((xs.set o y).map .int)) := zgTl
theorem zLgT {xs : List Bool} {o : Nat} {y : Bool} : pU (xs.map .bool) o [AV.bool y] K t = (o < xs.length ∧ K ((xs.set o y).map .bool)) := zgTl
theorem pU_iL {xs : List (List Int)} {o : Nat} {y : List Int} : pU (xs.map iL) o [AV.imm false (y.map .int)] K t = (o < xs.length ∧ K ((xs.set o y).map iL)) := zgTl
theorem pU_bL {xs : List (List Bool)} {o : Nat} {y : List Bool} : pU (xs.map bL) o [AV.imm false (y.map .bool)] K t = (o < xs.length ∧ K ((xs.set o y).map bL)) := zgTl
theorem zm84 {xs : List Int} {n : Int} {y : Int} : pU (xs.map .int) (0 + n.toNat * 1) [AV.int y] K t = (n.toNat < xs.length ∧ K ((xs.set n.toNat y).map .int)) := by
  rw [show 0 + n.toNat * 1 = n.toNat by omega]; exact zgTl
theorem zTmD {xs : List Bool} {n : Int} {y : Bool} : pU (xs.map .bool) (0 + n.toNat * 1) [AV.bool y] K t = (n.toNat < xs.length ∧ K ((xs.set n.toNat y).map .bool)) := by
  rw [show 0 + n.toNat * 1 = n.toNat by omega]; exact zgTl
theorem zedl {xs : List Int} : nC (xs.map .int) K t = K (xs.map .int) := (rfl)
theorem ztSB {xs : List Bool} : nC (xs.map .bool) K t = K (xs.map .bool) := (rfl)
theorem nC_iL {xs : List (List Int)} : nC (xs.map iL) K t = K (xs.map iL) := (rfl)
theorem zoml {α : Type} {f : α → AV} {xs : List α} {y : α} : nC (xs.map f ++ [f y]) K t = K ((xs ++ [y]).map f) := by simp [nC]
theorem zqRl {xs : List Int} {y : Int} : nC (xs.map .int ++ [.int y]) K t = K ((xs ++ [y]).map .int) := zoml
theorem zYnL {xs : List Bool} {y : Bool} : nC (xs.map .bool ++ [.bool y]) K t = K ((xs ++ [y]).map .bool) := zoml
theorem zlcP {xs : List (List Int)} {y : List Int} : nC (xs.map iL ++ [.imm false (y.map .int)]) K t = K ((xs ++ [y]).map iL) := zoml
theorem zwvj {xs : List (List Bool)} {y : List Bool} : nC (xs.map bL ++ [.imm false (y.map .bool)]) K t = K ((xs ++ [y]).map bL) := zoml
theorem zkYg {α : Type} {f : α → AV} {xs ys : List α} : nC (xs.map f ++ ys.map f) K t = K ((xs ++ ys).map f) := by simp [nC]
theorem zxvq {y : AV} : nC ([] ++ [y]) K t = K [y] := (rfl)
theorem zFrw {ys : List AV} : nC ([] ++ ys) K t = K ys := (rfl)
theorem zEKA : nC [] K t = K [] := (rfl)
theorem zExu {x : AV} : nC [x] K t = K [x] := (rfl)
theorem zs6M {xs : List Int} {o : Nat} {y : Int} (h : o < xs.length) : nC (putAt (xs.map .int) o [.int y]) K t = K ((xs.set o y).map .int) := by
  unfold nC; rw [zjbr h]
theorem zWj8 {n : Nat} {x : AV} : nC (dupN n [x]) K t = K (List.replicate n x) := by
  unfold nC dupN; congr 1; simp
theorem zaAf {n : Nat} {b : Bool} : nC (dupN n [.bool b]) K t = K ((List.replicate n b).map .bool) := by rw [zWj8]; simp
theorem z8o9 {n : Nat} {b : Int} : nC (dupN n [.int b]) K t = K ((List.replicate n b).map .int) := by rw [zWj8]; simp
theorem ztW2 {α : Type} {f : α → AV} (h : ∀ x, (f x).cells = [f x]) {xs : List α} : nC ((xs.map f).flatMap AV.cells) K t = K (xs.map f) := by rw [zY6o h]; rfl
theorem zbcM {xs : List Int} : nC ((xs.map AV.int).flatMap AV.cells) K t = K (xs.map .int) := ztW2 fun _ => rfl
theorem zw3i {xs : List Bool} : nC ((xs.map AV.bool).flatMap AV.cells) K t = K (xs.map .bool) := ztW2 fun _ => rfl
theorem zz6e {xs : List (List Int)} : nC ((xs.map iL).flatMap AV.cells) K t = K (xs.map iL) := ztW2 fun _ => rfl
end
section
variable {K : AV → Prop} {t : Tk K}
theorem pT_ix {α : Type} [Inhabited α] {f : α → AV} {xs : List α} {n : Int} : pT (xs.map f) (0 + n.toNat * 1) none K t = (n.toNat < xs.length ∧ K (f (ix xs n))) := by
  unfold pT part
  rw [show 0 + n.toNat * 1 = n.toNat by omega]
  simp only [znyW, List.getElem?_map, ix, List.getD_eq_getElem?_getD]
  by_cases h : n.toNat < xs.length
  · rw [List.getElem?_eq_getElem h]; simp [optK, h]
  · rw [List.getElem?_eq_none (by omega)]; simp [optK, h]
theorem zImZ {α : Type} [Inhabited α] {f : α → AV} {xs : List α} {n : Nat} : pT (xs.map f) n none K t = (n < xs.length ∧ K (f (ix xs n))) := by
  have := pT_ix (K := K) (t := t) (f := f) (xs := xs) (n := n)
  simpa using this
end
section
variable {K : AV → Prop} {t : Tk K}
theorem zbZd {xs : List Bool} {n : Int} : pT (xs.map .bool) (0 + n.toNat * 1) none K t = (n.toNat < xs.length ∧ K (.bool (ix xs n))) := pT_ix
theorem z0UQ {xs : List Int} {n : Int} : pT (xs.map .int) (0 + n.toNat * 1) none K t = (n.toNat < xs.length ∧ K (.int (ix xs n))) := pT_ix
end
theorem lX_oK {L : CE} {f : Nat} {l : List AV} {σ : List Blk} {K : AV → List Blk → Prop} {t : Tk K} : lX L f l σ K t = oK (L f l σ) (fun p => K p.1 p.2) .k := (rfl)
attribute [simp ↓ 20000] zFIF zLgT pU_iL pU_bL zm84 zTmD pT_ix zedl ztSB nC_iL zqRl zYnL zlcP zwvj zkYg zxvq zFrw zEKA zExu zs6M zaAf z8o9 zbcM zw3i zz6e
attribute [simp ↓] zD0v zWj8 lX_oK
attribute [simp ↓ 10500] zImZ
theorem zHkj : big = 1073741824 := (rfl)
attribute [simp] zHkj
def stOf {α : Type} : List α → BSt
  | [] => .nul
  | _ :: _ => .live
theorem z3Gv {α : Type} : stOf ([] : List α) = .nul := (rfl)
theorem zcNt {α : Type} {x : α} {l : List α} : stOf (x :: l) = .live := (rfl)
theorem zhdA {α : Type} {l : List α} : (stOf l).isArr = true := by cases l <;> rfl
theorem zVGG : BSt.isArr .live = true := rfl
theorem zgyF : BSt.isArr .nul = true := rfl
theorem z1bN : BSt.isArr .dead = false := rfl
theorem zehe {es : List (AV × AV)} : BSt.isArr (.map es) = false := rfl
theorem zOHv {α : Type} {x : α} {l : List α} : stOf (l ++ [x]) = .live := by cases l <;> rfl
theorem zvDp {α : Type} {k : Nat} {x : α} {l : List α} : stOf (l.set k x) = stOf l := by cases l <;> cases k <;> rfl
theorem z5tn {α : Type} {l : List α} : ((stOf l).isLive = true) = (l ≠ []) := by cases l <;> simp [stOf, BSt.isLive]
theorem zO1V {α β : Type} {f : α → β} {l : List α} : stOf (l.map f) = stOf l := by cases l <;> rfl
attribute [simp] z3Gv zcNt zhdA zVGG zgyF z1bN zehe zOHv zvDp z5tn zO1V
theorem zGkM {α : Type} {f : α → List (Nat × AV)} {g : α → List Blk} {I : α → Prop} {μ : α → Nat} {m : Nat} {vs vs' : List AV} {σ : List Blk} {Q : Ex → St → Prop} (a : α) (h : vs' = sets (f a) vs) (hg : σ = g a) (hI : I a) (hm : μ a < m) : More f g I μ m vs Q .nor ⟨vs', none, σ⟩ := ⟨a, by rw [h, hg], hI, hm⟩
theorem zsTt {cs : List AV} {K : List AV → Prop} {t : Tk K} : oK (fillP cs []) K t = K cs := (rfl)
theorem zqXK {cs : List AV} {o n : Nat} {x : AV} {r : List (Nat × Nat × AV)} {K : List AV → Prop} {t : Tk K} : oK (fillP cs ((o, n, x) :: r)) K t = nx x (fun x => (x.cells.length = n ∧ o + n ≤ cs.length ∧ notUnd x = true) ∧ nL (putR cs o x.cells) (fun cs => oK (fillP cs r) K .k) .k) .k := by
  unfold nx nL oK
  by_cases h : x.cells.length = n ∧ o + n ≤ cs.length ∧ notUnd x = true
  · have e := put_R (cs := cs) (o := o) (new := x.cells) (by rw [h.1]; exact h.2.1)
    simp only [h, and_self, true_and, fillP, ← e]
    simp [h]
  · have e : fillP cs ((o, n, x) :: r) = none := by
      unfold fillP
      rw [if_neg]
      simp only [Bool.and_eq_true, beq_iff_eq, decide_eq_true_eq, and_assoc]
      exact h
    rw [e]
    simp only [h, false_and, optK]
attribute [simp ↓] zsTt zqXK
end Ab
