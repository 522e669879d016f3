/- The interpreter with as much fuel as is wanted: more fuel gives the same answer; the limit, and that it is reached. Condition: none. -/
import Derived.Test.YtchamabaodnjkaaAbCore
set_option linter.all false
namespace Ab

def CE.le (a b : CE) : Prop := ∀ f args σ x, a f args σ = some x → b f args σ = some x

theorem pcl_mono {a b : CE} (h : CE.le a b) {f : Nat} {args : List AV} {x : AV} (e : pcl a f args = some x) : pcl b f args = some x := by
  unfold pcl at e ⊢
  split at e
  case isFalse => simp at e
  rename_i hn
  rw [if_pos hn]
  cases hc : a f (args.map wk) [] with
  | none => simp [hc] at e
  | some r => rw [h _ _ _ _ hc]; simpa [hc] using e

theorem ev_mono {a b : CE} (h : CE.le a b) {σ : List Blk} {nl : Nat} {ps : List Pend} {r : Rf → AV} {o : IOp} {x : AV × Option Pend} (e : ev a σ nl ps r o = some x) : ev b σ nl ps r o = some x := by
  cases o
  case cal f args =>
    simp only [ev, Option.map_eq_some_iff] at e ⊢
    obtain ⟨y, h1, h2⟩ := e
    exact ⟨y, pcl_mono h h1, h2⟩
  case cald y args =>
    simp only [ev] at e ⊢
    cases hr : r y <;> simp only [hr] at e <;> try (simp at e; done)
    simp only [Option.map_eq_some_iff] at e ⊢
    obtain ⟨y, h1, h2⟩ := e
    exact ⟨y, pcl_mono h h1, h2⟩
  case inv y tbl args =>
    simp only [ev] at e ⊢
    cases hr : r y <;> simp only [hr] at e <;> try (simp at e; done)
    rename_i t v
    cases ht : lookT tbl t with
    | none => simp [ht] at e
    | some f =>
      simp only [ht, Option.map_eq_some_iff] at e ⊢
      obtain ⟨y, h1, h2⟩ := e
      exact ⟨y, pcl_mono h h1, h2⟩
  case can f args =>
    simp only [ev] at e ⊢
    split at e
    case isFalse => simp at e
    rename_i hn
    rw [if_pos hn]
    cases hc : a f (args.map r) [] with
    | none => simp [hc] at e
    | some q => rw [h _ _ _ _ hc]; simpa [hc] using e
  case cab f args =>
    simp only [ev] at e ⊢
    cases hm : mapO (fun x => view σ false vd (r x)) args with
    | none => simp [hm] at e
    | some vs =>
      simp only [hm] at e ⊢
      cases hc : a f vs [] with
      | none => simp [hc] at e
      | some q => rw [h _ _ _ _ hc]; simpa [hc] using e
  all_goals exact e

theorem evW_mono {a b : CE} (h : CE.le a b) {σ : List Blk} {r : Rf → AV} {o : IOp} {x : AV × List Blk} (e : evW a σ r o = some x) : evW b σ r o = some x := by
  cases o
  case cam f args => exact h _ _ _ _ e
  case camd y args =>
    simp only [evW] at e ⊢
    cases hr : r y <;> simp only [hr] at e <;> try (simp at e; done)
    exact h _ _ _ _ e
  case invm y tbl args =>
    simp only [evW] at e ⊢
    cases hr : r y <;> simp only [hr] at e <;> try (simp at e; done)
    rename_i t v
    cases ht : lookT tbl t with
    | none => simp [ht] at e
    | some f => simp only [ht] at e ⊢; exact h _ _ _ _ e
  case st => exact e
  case appw => exact e
  case clr => exact e
  all_goals
    simp only [evW] at e ⊢
    split at e
    · rename_i hc; rw [ev_mono h hc]; exact e
    · rename_i hc; rw [ev_mono h hc]; exact e
    · simp at e

theorem line1_mono {a b : CE} (h : CE.le a b) {vars : List AV} {s s' : LS} {l : Ln} (e : line1 a vars s l = some s') : line1 b vars s l = some s' := by
  unfold line1 at e ⊢
  split at e
  · simp at e
  · exact e
  · split at e
    · rename_i hw
      rw [if_pos hw]
      split at e
      · rename_i hc; rw [evW_mono h hc]; exact e
      · simp at e
    · rename_i hw
      rw [if_neg hw]
      split at e
      · rename_i hc; rw [ev_mono h hc]; exact e
      · rename_i hc; rw [ev_mono h hc]; exact e
      · simp at e

theorem lines_mono {a b : CE} (h : CE.le a b) {vars : List AV} : ∀ {ls : List Ln} {s s' : LS}, lines a vars ls s = some s' → lines b vars ls s = some s'
  | [], _, _, e => e
  | l :: ls, s, s', e => by
    simp only [lines] at e ⊢
    cases h1 : line1 a vars s l with
    | none => simp [h1] at e
    | some q => rw [line1_mono h h1]; simp only [h1] at e; exact lines_mono h e

theorem runReg_mono {a b : CE} (h : CE.le a b) {r : Reg} {s s' : St} (e : runReg a r s = some s') : runReg b r s = some s' := by
  unfold runReg at e ⊢
  cases h1 : lines a s.vars r.ls ⟨[], s.σ, s.σ⟩ with
  | none => simp [h1] at e
  | some q => rw [lines_mono h h1]; simpa [h1] using e

theorem iter_mono {f g : St → Option (Ex × St)} (h : ∀ s x, f s = some x → g s = some x) : ∀ {n m : Nat} {s : St} {x : Ex × St}, n ≤ m → iter f n s = some x → iter g m s = some x
  | 0, _, _, _, _, e => by simp [iter] at e
  | n + 1, 0, _, _, hn, _ => by omega
  | n + 1, m + 1, s, x, hn, e => by
    simp only [iter] at e ⊢
    cases h1 : f s with
    | none => simp [h1] at e
    | some q =>
      rw [h _ _ h1]
      obtain ⟨e1, s1⟩ := q
      cases e1 with
      | nor => simp only [h1] at e ⊢; exact iter_mono h (by omega) e
      | exit j => simpa [h1] using e
      | ret => simpa [h1] using e

theorem exec_mono {a b : CE} (h : CE.le a b) {n m : Nat} (hn : n ≤ m) : ∀ (c : IC) (s : St) (x : Ex × St), exec n a c s = some x → exec m b c s = some x := by
  intro c
  induction c with
  | skip => intro s x e; simpa [exec] using e
  | reg r =>
    intro s x e
    simp only [exec] at e ⊢
    cases h1 : runReg a r s with
    | none => simp [h1] at e
    | some q => rw [runReg_mono h h1]; simpa [h1] using e
  | seq c d ihc ihd =>
    intro s x e
    simp only [exec] at e ⊢
    cases h1 : exec n a c s with
    | none => simp [h1] at e
    | some q =>
      rw [ihc _ _ h1]
      obtain ⟨e1, s1⟩ := q
      cases e1 with
      | nor => simp only [h1] at e ⊢; exact ihd _ _ e
      | exit j => simpa [h1] using e
      | ret => simpa [h1] using e
  | cond t c d ihc ihd =>
    intro s x e
    simp only [exec] at e ⊢
    split at e
    · split at e
      · split at e
        · rename_i h1 h2 h3; rw [if_pos h2, if_pos h3]; exact ihc _ _ e
        · rename_i h1 h2 h3; rw [if_pos h2, if_neg h3]; exact ihd _ _ e
      · simp at e
    · simp at e
  | condv k c d ihc ihd =>
    intro s x e
    simp only [exec] at e ⊢
    split at e
    · split at e
      · rename_i h1 h2; rw [if_pos h2]; exact ihc _ _ e
      · rename_i h1 h2; rw [if_neg h2]; exact ihd _ _ e
    · simp at e
  | block id c ih =>
    intro s x e
    simp only [exec] at e ⊢
    cases h1 : exec n a c s with
    | none => simp [h1] at e
    | some q => rw [ih _ _ h1]; simpa [h1] using e
  | loop c ih =>
    intro s x e
    simp only [exec] at e ⊢
    exact iter_mono ih hn e
  | exit id => intro s x e; simpa [exec] using e
  | ret => intro s x e; simpa [exec] using e
  | frz k => intro s x e; simpa [exec] using e
  | bad => intro s x e; simp [exec] at e
  | cut b c ih => intro s x e; simp only [exec] at e ⊢; exact ih _ _ e
  | scp c ih => intro s x e; simp only [exec] at e ⊢; exact ih _ _ e
  | lex c ih =>
    intro s x e
    simp only [exec] at e ⊢
    cases h1 : exec n a c s with
    | none => simp [h1] at e
    | some q => rw [ih _ _ h1]; simpa [h1] using e

def PrimsMono (Q : Prims) : Prop := ∀ f p, Q f = some p → ∀ a b : CE, CE.le a b → ∀ args σ v, p a args σ = some v → p b args σ = some v

section
variable {G : Nat → Option Fn} {Q : Prims}
theorem callN_mono (hQ : PrimsMono Q) {n m : Nat} (hn : n ≤ m) : ∀ {d e : Nat}, d ≤ e → CE.le (callN G Q n d) (callN G Q m e)
  | 0, _, _ => fun f args σ x h => by simp [callN] at h
  | d + 1, 0, h => by omega
  | d + 1, e + 1, hd => fun f args σ x h => by
    have ih := callN_mono hQ hn (show d ≤ e by omega)
    simp only [callN] at h ⊢
    cases hq : Q f with
    | some p =>
      simp only [hq] at h ⊢
      exact hQ f p hq _ _ ih _ _ _ h
    | none =>
      simp only [hq] at h ⊢
      cases hg : G f with
      | none => simp [hg] at h
      | some fn =>
        simp only [hg] at h ⊢
        split at h
        case isFalse => simp at h
        rename_i hl
        rw [if_pos hl]
        cases he : exec n (callN G Q n d) fn.body { vars := args ++ List.replicate (fn.nv - fn.np) .und, fl := none, σ } with
        | none => simp [he] at h
        | some q => rw [exec_mono ih hn _ _ _ he]; simpa [he] using h

/-- The chain of the interpreters. -/
def cN (G : Nat → Option Fn) (Q : Prims) (n : Nat) : CE := callN G Q n n
theorem cN_mono (hQ : PrimsMono Q) {n m : Nat} (hn : n ≤ m) : CE.le (cN G Q n) (cN G Q m) := callN_mono hQ hn hn

open Classical in
/-- With as much fuel as is wanted. -/
noncomputable def lim (G : Nat → Option Fn) (Q : Prims) : CE := fun f args σ => if h : ∃ x, ∃ N, cN G Q N f args σ = some x then some (choose h) else none

theorem lim_of (hQ : PrimsMono Q) {N f : Nat} {args : List AV} {σ : List Blk} {x : AV × List Blk} (h : cN G Q N f args σ = some x) : lim G Q f args σ = some x := by
  have hx : ∃ x, ∃ N, cN G Q N f args σ = some x := ⟨x, N, h⟩
  unfold lim
  rw [dif_pos hx]
  obtain ⟨M, hM⟩ := Classical.choose_spec hx
  have h1 := cN_mono (G := G) hQ (Nat.le_max_left N M) _ _ _ _ h
  have h2 := cN_mono (G := G) hQ (Nat.le_max_right N M) _ _ _ _ hM
  rw [h1] at h2
  exact h2.symm

theorem lim_ex {f : Nat} {args : List AV} {σ : List Blk} {x : AV × List Blk} (h : lim G Q f args σ = some x) : ∃ N, cN G Q N f args σ = some x := by
  unfold lim at h
  split at h
  · rename_i hx
    obtain ⟨M, hM⟩ := Classical.choose_spec hx
    exact ⟨M, by rw [hM]; exact h⟩
  · simp at h
theorem cN_le_lim (hQ : PrimsMono Q) (N : Nat) : CE.le (cN G Q N) (lim G Q) := fun _ _ _ _ h => lim_of hQ h

/-! ### What the limit answers, a member of the chain answers -/
variable (hQ : PrimsMono Q)
include hQ
theorem pcl_cont {f : Nat} {args : List AV} {x : AV} (e : pcl (lim G Q) f args = some x) : ∃ N, pcl (cN G Q N) f args = some x := by
  unfold pcl at e
  split at e
  case isFalse => simp at e
  rename_i hn
  cases hc : lim G Q f (args.map wk) [] with
  | none => simp [hc] at e
  | some r =>
    obtain ⟨N, hN⟩ := lim_ex hc
    exact ⟨N, by unfold pcl; rw [if_pos hn, hN]; simpa [hc] using e⟩

theorem ev_cont {σ : List Blk} {nl : Nat} {ps : List Pend} {r : Rf → AV} {o : IOp} {x : AV × Option Pend} (e : ev (lim G Q) σ nl ps r o = some x) : ∃ N, ev (cN G Q N) σ nl ps r o = some x := by
  cases o
  case cal f args =>
    simp only [ev, Option.map_eq_some_iff] at e ⊢
    obtain ⟨y, h1, h2⟩ := e
    obtain ⟨N, hN⟩ := pcl_cont hQ h1
    exact ⟨N, y, hN, h2⟩
  case cald y args =>
    simp only [ev] at e ⊢
    cases hr : r y <;> simp only [hr] at e <;> try (simp at e; done)
    simp only [Option.map_eq_some_iff] at e ⊢
    obtain ⟨y, h1, h2⟩ := e
    obtain ⟨N, hN⟩ := pcl_cont hQ h1
    exact ⟨N, y, hN, h2⟩
  case inv y tbl args =>
    simp only [ev] at e ⊢
    cases hr : r y <;> simp only [hr] at e <;> try (simp at e; done)
    rename_i t v
    cases ht : lookT tbl t with
    | none => simp [ht] at e
    | some f =>
      simp only [ht, Option.map_eq_some_iff] at e ⊢
      obtain ⟨y, h1, h2⟩ := e
      obtain ⟨N, hN⟩ := pcl_cont hQ h1
      exact ⟨N, y, hN, h2⟩
  case can f args =>
    simp only [ev] at e ⊢
    split at e
    case isFalse => simp at e
    rename_i hn
    cases hc : lim G Q f (args.map r) [] with
    | none => simp [hc] at e
    | some q =>
      obtain ⟨N, hN⟩ := lim_ex hc
      exact ⟨N, by rw [if_pos hn, hN]; simpa [hc] using e⟩
  case cab f args =>
    simp only [ev] at e ⊢
    cases hm : mapO (fun x => view σ false vd (r x)) args with
    | none => simp [hm] at e
    | some vs =>
      simp only [hm] at e ⊢
      cases hc : lim G Q f vs [] with
      | none => simp [hc] at e
      | some q =>
        obtain ⟨N, hN⟩ := lim_ex hc
        exact ⟨N, by rw [hN]; simpa [hc] using e⟩
  all_goals exact ⟨0, e⟩

theorem evW_cont {σ : List Blk} {r : Rf → AV} {o : IOp} {x : AV × List Blk} (e : evW (lim G Q) σ r o = some x) : ∃ N, evW (cN G Q N) σ r o = some x := by
  cases o
  case cam f args => exact lim_ex e
  case camd y args =>
    simp only [evW] at e ⊢
    cases hr : r y <;> simp only [hr] at e <;> try (simp at e; done)
    exact lim_ex e
  case invm y tbl args =>
    simp only [evW] at e ⊢
    cases hr : r y <;> simp only [hr] at e <;> try (simp at e; done)
    rename_i t v
    cases ht : lookT tbl t with
    | none => simp [ht] at e
    | some f => simp only [ht] at e ⊢; exact lim_ex e
  case st => exact ⟨0, e⟩
  case appw => exact ⟨0, e⟩
  case clr => exact ⟨0, e⟩
  all_goals
    simp only [evW] at e ⊢
    split at e
    · rename_i hc; obtain ⟨N, hN⟩ := ev_cont hQ hc; exact ⟨N, by rw [hN]; exact e⟩
    · rename_i hc; obtain ⟨N, hN⟩ := ev_cont hQ hc; exact ⟨N, by rw [hN]; exact e⟩
    · simp at e

theorem line1_cont {vars : List AV} {s s' : LS} {l : Ln} (e : line1 (lim G Q) vars s l = some s') : ∃ N, line1 (cN G Q N) vars s l = some s' := by
  unfold line1 at e ⊢
  cases hw : want vars s.env l.g with
  | none => simp [hw] at e
  | some b =>
    cases b with
    | false => exact ⟨0, by simpa [hw] using e⟩
    | true =>
      simp only [hw] at e ⊢
      split at e
      · rename_i hW
        split at e
        · rename_i hc; obtain ⟨N, hN⟩ := evW_cont hQ hc; exact ⟨N, by rw [if_pos hW, hN]; exact e⟩
        · simp at e
      · rename_i hW
        split at e
        · rename_i hc; obtain ⟨N, hN⟩ := ev_cont hQ hc; exact ⟨N, by rw [if_neg hW, hN]; exact e⟩
        · rename_i hc; obtain ⟨N, hN⟩ := ev_cont hQ hc; exact ⟨N, by rw [if_neg hW, hN]; exact e⟩
        · simp at e

theorem lines_cont {vars : List AV} : ∀ {ls : List Ln} {s s' : LS}, lines (lim G Q) vars ls s = some s' → ∃ N, lines (cN G Q N) vars ls s = some s'
  | [], _, _, e => ⟨0, e⟩
  | l :: ls, s, s', e => by
    simp only [lines] at e ⊢
    cases h1 : line1 (lim G Q) vars s l with
    | none => simp [h1] at e
    | some q =>
      simp only [h1] at e
      obtain ⟨N, hN⟩ := line1_cont hQ h1
      obtain ⟨M, hM⟩ := lines_cont e
      refine ⟨max N M, ?_⟩
      rw [line1_mono (cN_mono hQ (Nat.le_max_left N M)) hN]
      exact lines_mono (cN_mono hQ (Nat.le_max_right N M)) hM

theorem runReg_cont {r : Reg} {s s' : St} (e : runReg (lim G Q) r s = some s') : ∃ N, runReg (cN G Q N) r s = some s' := by
  unfold runReg at e ⊢
  cases h1 : lines (lim G Q) s.vars r.ls ⟨[], s.σ, s.σ⟩ with
  | none => simp [h1] at e
  | some q =>
    obtain ⟨N, hN⟩ := lines_cont hQ h1
    exact ⟨N, by rw [hN]; simpa [h1] using e⟩

/-- With the same fuel for rounds and depth. -/
def exN (G : Nat → Option Fn) (Q : Prims) (N : Nat) (c : IC) (s : St) : Option (Ex × St) := exec N (cN G Q N) c s
omit hQ in
theorem exN_mono (hQ : PrimsMono Q) {n m : Nat} (hn : n ≤ m) {c : IC} {s : St} {x : Ex × St} (h : exN G Q n c s = some x) : exN G Q m c s = some x := exec_mono (cN_mono hQ hn) hn _ _ _ h

theorem exec_cont {n : Nat} : ∀ (c : IC) (s : St) (x : Ex × St), exec n (lim G Q) c s = some x → ∃ N, exN G Q N c s = some x := by
  intro c
  induction c with
  | skip => intro s x e; exact ⟨0, by simpa [exec, exN] using e⟩
  | reg r =>
    intro s x e
    simp only [exec, exN] at e ⊢
    cases h1 : runReg (lim G Q) r s with
    | none => simp [h1] at e
    | some q => obtain ⟨N, hN⟩ := runReg_cont hQ h1; exact ⟨N, by rw [hN]; simpa [h1] using e⟩
  | seq c d ihc ihd =>
    intro s x e
    simp only [exec] at e
    cases h1 : exec n (lim G Q) c s with
    | none => simp [h1] at e
    | some q =>
      obtain ⟨N, hN⟩ := ihc _ _ h1
      obtain ⟨e1, s1⟩ := q
      cases e1 with
      | nor =>
        simp only [h1] at e
        obtain ⟨M, hM⟩ := ihd _ _ e
        refine ⟨max N M, ?_⟩
        have a1 := exN_mono (G := G) hQ (Nat.le_max_left N M) hN
        have a2 := exN_mono (G := G) hQ (Nat.le_max_right N M) hM
        simp only [exN, exec] at a1 a2 ⊢
        rw [a1]; exact a2
      | exit j => exact ⟨N, by simp only [exN, exec] at hN ⊢; rw [hN]; simpa [h1] using e⟩
      | ret => exact ⟨N, by simp only [exN, exec] at hN ⊢; rw [hN]; simpa [h1] using e⟩
  | cond t c d ihc ihd =>
    intro s x e
    simp only [exec] at e
    split at e
    · split at e
      · split at e
        · rename_i h1 h2 h3; obtain ⟨N, hN⟩ := ihc _ _ e; exact ⟨N, by simp only [exN, exec, h1, h2, if_true] at hN ⊢; rw [if_pos h3]; exact hN⟩
        · rename_i h1 h2 h3; obtain ⟨N, hN⟩ := ihd _ _ e; exact ⟨N, by simp only [exN, exec, h1, h2, if_true] at hN ⊢; rw [if_neg h3]; exact hN⟩
      · simp at e
    · simp at e
  | condv k c d ihc ihd =>
    intro s x e
    simp only [exec] at e
    split at e
    · split at e
      · rename_i h1 h2; obtain ⟨N, hN⟩ := ihc _ _ e; exact ⟨N, by simp only [exN, exec, h1] at hN ⊢; rw [if_pos h2]; exact hN⟩
      · rename_i h1 h2; obtain ⟨N, hN⟩ := ihd _ _ e; exact ⟨N, by simp only [exN, exec, h1] at hN ⊢; rw [if_neg h2]; exact hN⟩
    · simp at e
  | block id c ih =>
    intro s x e
    simp only [exec] at e
    cases h1 : exec n (lim G Q) c s with
    | none => simp [h1] at e
    | some q => obtain ⟨N, hN⟩ := ih _ _ h1; exact ⟨N, by simp only [exN, exec] at hN ⊢; rw [hN]; simpa [h1] using e⟩
  | loop c ih =>
    intro s x e
    simp only [exec] at e
    have go : ∀ (k : Nat) (s : St), iter (exec n (lim G Q) c) k s = some x → ∃ N, ∃ j, iter (exN G Q N c) j s = some x := by
      intro k
      induction k with
      | zero => intro s e; simp [iter] at e
      | succ k ihk =>
        intro s e
        simp only [iter] at e
        cases h1 : exec n (lim G Q) c s with
        | none => simp [h1] at e
        | some q =>
          obtain ⟨N, hN⟩ := ih _ _ h1
          obtain ⟨e1, s1⟩ := q
          cases e1 with
          | nor =>
            simp only [h1] at e
            obtain ⟨M, j, hM⟩ := ihk _ e
            refine ⟨max N M, j + 1, ?_⟩
            simp only [iter]
            rw [exN_mono (G := G) hQ (Nat.le_max_left N M) hN]
            exact iter_mono (fun s x h => exN_mono (G := G) hQ (Nat.le_max_right N M) h) (Nat.le_refl _) hM
          | exit i => exact ⟨N, 1, by simp only [iter]; rw [hN]; simpa [h1] using e⟩
          | ret => exact ⟨N, 1, by simp only [iter]; rw [hN]; simpa [h1] using e⟩
    obtain ⟨N, j, h⟩ := go n s e
    refine ⟨max N j, ?_⟩
    simp only [exN, exec]
    exact iter_mono (fun s x h => exN_mono (G := G) hQ (Nat.le_max_left N j) h) (Nat.le_max_right N j) h
  | exit id => intro s x e; exact ⟨0, by simpa [exec, exN] using e⟩
  | ret => intro s x e; exact ⟨0, by simpa [exec, exN] using e⟩
  | frz k => intro s x e; exact ⟨0, by simpa [exec, exN] using e⟩
  | bad => intro s x e; simp [exec] at e
  | cut b c ih => intro s x e; simp only [exec] at e; obtain ⟨N, hN⟩ := ih _ _ e; exact ⟨N, by simp only [exN, exec] at hN ⊢; exact hN⟩
  | scp c ih => intro s x e; simp only [exec] at e; obtain ⟨N, hN⟩ := ih _ _ e; exact ⟨N, by simp only [exN, exec] at hN ⊢; exact hN⟩
  | lex c ih =>
    intro s x e
    simp only [exec] at e
    cases h1 : exec n (lim G Q) c s with
    | none => simp [h1] at e
    | some q => obtain ⟨N, hN⟩ := ih _ _ h1; exact ⟨N, by simp only [exN, exec] at hN ⊢; rw [hN]; simpa [h1] using e⟩

/-- A function's text gives what the function answers. -/
theorem lim_fn {f n : Nat} {fn : Fn} {args : List AV} {σ : List Blk} {e : Ex} {s : St} {r : AV} (hq : Q f = none) (hg : G f = some fn) (hl : args.length = fn.np)
    (he : exec n (lim G Q) fn.body { vars := args ++ List.replicate (fn.nv - fn.np) .und, fl := none, σ } = some (e, s)) (hx : ∀ j, e ≠ .exit j) (hr : results fn s = some r) :
    lim G Q f args σ = some (r, s.σ) := by
  obtain ⟨N, hN⟩ := exec_cont hQ _ _ _ he
  refine lim_of hQ (N := N + 1) ?_
  have h1 : exec (N + 1) (callN G Q (N + 1) N) fn.body { vars := args ++ List.replicate (fn.nv - fn.np) .und, fl := none, σ } = some (e, s) :=
    exec_mono (callN_mono hQ (Nat.le_succ N) (Nat.le_refl N)) (Nat.le_succ N) _ _ _ hN
  simp only [cN, callN, hq, hg, hl, beq_self_eq_true, if_true, h1]
  cases e with
  | exit j => exact absurd rfl (hx j)
  | nor => simp [hr]
  | ret => simp [hr]
omit hQ in
theorem lim_prim (hQ : PrimsMono Q) {N f : Nat} {p : CE → List AV → List Blk → Option (AV × List Blk)} {args : List AV} {σ : List Blk} {x : AV × List Blk} (hq : Q f = some p) (hp : p (cN G Q N) args σ = some x) : lim G Q f args σ = some x := by
  refine lim_of hQ (N := N + 1) ?_
  simp only [cN, callN, hq]
  exact hQ f p hq _ _ (callN_mono hQ (Nat.le_succ N) (Nat.le_refl N)) _ _ _ hp
end

/-! ### Weakest preconditions, with as much fuel as is wanted -/
/-- The code ends so that Q holds. -/
def W (L : CE) (c : IC) (s : St) (Q : Ex → St → Prop) : Prop := ∃ n e s', exec n L c s = some (e, s') ∧ Q e s'

section
variable {L : CE}
theorem ce_refl (L : CE) : CE.le L L := fun _ _ _ _ h => h
theorem W.mono {c : IC} {s : St} {Q R : Ex → St → Prop} (h : W L c s Q) (hQ : ∀ e s', Q e s' → R e s') : W L c s R := by
  obtain ⟨n, e, s', h1, h2⟩ := h
  exact ⟨n, e, s', h1, hQ e s' h2⟩
theorem W_skip {s : St} {Q : Ex → St → Prop} (h : Q .nor s) : W L .skip s Q := ⟨0, .nor, s, rfl, h⟩
theorem W_ret {s : St} {Q : Ex → St → Prop} (h : Q .ret s) : W L .ret s Q := ⟨0, .ret, s, rfl, h⟩
theorem W_exit {id : Nat} {s : St} {Q : Ex → St → Prop} (h : Q (.exit id) s) : W L (.exit id) s Q := ⟨0, .exit id, s, rfl, h⟩
theorem W_reg {r : Reg} {s s' : St} {Q : Ex → St → Prop} (h : runReg L r s = some s') (hq : Q .nor s') : W L (.reg r) s Q := ⟨0, .nor, s', by simp [exec, h], hq⟩

/-- Behind an ending: what follows, or the ending itself. -/
def Then (L : CE) (d : IC) (Q : Ex → St → Prop) : Ex → St → Prop
  | .nor, s => W L d s Q
  | e, s => Q e s
theorem W_seq {c d : IC} {s : St} {Q : Ex → St → Prop} (h : W L c s (Then L d Q)) : W L (.seq c d) s Q := by
  obtain ⟨n, e, s1, h1, h2⟩ := h
  cases e with
  | nor =>
    obtain ⟨m, e', s', h3, h4⟩ := h2
    refine ⟨max n m, e', s', ?_, h4⟩
    simp only [exec]
    rw [exec_mono (ce_refl L) (Nat.le_max_left n m) _ _ _ h1]
    exact exec_mono (ce_refl L) (Nat.le_max_right n m) _ _ _ h3
  | exit j => exact ⟨n, .exit j, s1, by simp [exec, h1], h2⟩
  | ret => exact ⟨n, .ret, s1, by simp [exec, h1], h2⟩
theorem W_cond {t : Nat} {c d : IC} {vars : List AV} {σ : List Blk} {b : Bool} {Q : Ex → St → Prop} (h1 : b = true → W L c ⟨vars, none, σ⟩ Q) (h2 : b = false → W L d ⟨vars, none, σ⟩ Q) : W L (.cond t c d) ⟨vars, some (t, .bool b), σ⟩ Q := by
  cases b with
  | true =>
    obtain ⟨n, e, s', h3, h4⟩ := h1 rfl
    exact ⟨n, e, s', by simp [exec, h3], h4⟩
  | false =>
    obtain ⟨n, e, s', h3, h4⟩ := h2 rfl
    exact ⟨n, e, s', by simp [exec, h3], h4⟩
theorem W_condv {k : Nat} {c d : IC} {s : St} {b : Bool} {Q : Ex → St → Prop} (hb : nth s.vars k = .bool b) (h1 : b = true → W L c s Q) (h2 : b = false → W L d s Q) : W L (.condv k c d) s Q := by
  cases b with
  | true =>
    obtain ⟨n, e, s', h3, h4⟩ := h1 rfl
    exact ⟨n, e, s', by simp [exec, hb, h3], h4⟩
  | false =>
    obtain ⟨n, e, s', h3, h4⟩ := h2 rfl
    exact ⟨n, e, s', by simp [exec, hb, h3], h4⟩
/-- Behind a block. -/
def Out (id : Nat) (Q : Ex → St → Prop) : Ex → St → Prop
  | .exit j, s => if j = id then Q .nor s else Q (.exit j) s
  | e, s => Q e s
theorem W_block {id : Nat} {c : IC} {s : St} {Q : Ex → St → Prop} (h : W L c s (Out id Q)) : W L (.block id c) s Q := by
  obtain ⟨n, e, s1, h1, h2⟩ := h
  cases e with
  | nor => exact ⟨n, .nor, s1, by simp [exec, h1], h2⟩
  | exit j =>
    by_cases hj : j = id
    · exact ⟨n, .nor, s1, by simp [exec, h1, hj], by simpa [Out, hj] using h2⟩
    · exact ⟨n, .exit j, s1, by simp [exec, h1, hj], by simpa [Out, hj] using h2⟩
  | ret => exact ⟨n, .ret, s1, by simp [exec, h1], h2⟩
/-- Behind a round: again, or the ending. -/
def Again (I : St → Prop) (μ : St → Nat) (m : Nat) (Q : Ex → St → Prop) : Ex → St → Prop
  | .nor, s => I s ∧ μ s < m
  | e, s => Q e s
theorem W_loop {c : IC} {s : St} {Q : Ex → St → Prop} (I : St → Prop) (μ : St → Nat) (h0 : I s) (hs : ∀ s, I s → W L c s (Again I μ (μ s) Q)) : W L (.loop c) s Q := by
  have go : ∀ (m : Nat) (s : St), μ s < m → I s → ∃ n k e s', iter (exec n L c) k s = some (e, s') ∧ Q e s' := by
    intro m
    induction m with
    | zero => intro s h; omega
    | succ m ih =>
      intro s hm hI
      obtain ⟨n, e, s1, h1, h2⟩ := hs s hI
      cases e with
      | nor =>
        obtain ⟨h3, h4⟩ := h2
        obtain ⟨n', k, e', s', h5, h6⟩ := ih s1 (by omega) h3
        refine ⟨max n n', k + 1, e', s', ?_, h6⟩
        simp only [iter]
        rw [exec_mono (ce_refl L) (Nat.le_max_left n n') _ _ _ h1]
        exact iter_mono (fun s x h => exec_mono (ce_refl L) (Nat.le_max_right n n') _ _ _ h) (Nat.le_refl _) h5
      | exit j => exact ⟨n, 1, .exit j, s1, by simp [iter, h1], h2⟩
      | ret => exact ⟨n, 1, .ret, s1, by simp [iter, h1], h2⟩
  obtain ⟨n, k, e, s', h1, h2⟩ := go (μ s + 1) s (by omega) h0
  refine ⟨max n k, e, s', ?_, h2⟩
  simp only [exec]
  exact iter_mono (fun s x h => exec_mono (ce_refl L) (Nat.le_max_left n k) _ _ _ h) (Nat.le_max_right n k) h1
end
/-- What a function's end must be. -/
def Ends (fn : Fn) (r : AV) (σ : List Blk) : Ex → St → Prop
  | .exit _, _ => False
  | _, s => results fn s = some r ∧ s.σ = σ
theorem lim_W {G : Nat → Option Fn} {Q : Prims} (hQ : PrimsMono Q) {f : Nat} (fn : Fn) {args : List AV} {σ σ' : List Blk} {r : AV} (hq : Q f = none) (hg : G f = some fn) (hl : args.length = fn.np)
    (h : W (lim G Q) fn.body { vars := args ++ List.replicate (fn.nv - fn.np) .und, fl := none, σ } (Ends fn r σ')) : lim G Q f args σ = some (r, σ') := by
  obtain ⟨n, e, s, h1, h2⟩ := h
  cases e with
  | exit j => exact h2.elim
  | nor => obtain ⟨h3, rfl⟩ := h2; exact lim_fn hQ hq hg hl h1 (fun j => by simp) h3
  | ret => obtain ⟨h3, rfl⟩ := h2; exact lim_fn hQ hq hg hl h1 (fun j => by simp) h3
end Ab
