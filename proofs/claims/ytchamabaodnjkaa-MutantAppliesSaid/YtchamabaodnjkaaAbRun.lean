/- What the model's operations do, in the form that the soundness of the small language wants. Condition: none. -/
import Derived.Test.YtchamabaodnjkaaAbOk
import Derived.ChangeKeysEq
import Derived.Laws.Cells
import Derived.Laws.NewBlocks
import Derived.IntWalk
set_option linter.all false
namespace Ab
open Go
variable {P : Program}

theorem info_size {t : TypeId} {n : Nat} (h : sizeIs P t n = true) (w : World) : (Go.sizeOf t).run P w = .ok n w := by
  unfold sizeIs at h
  cases hi : P.info? t with
  | none => simp [hi] at h
  | some i =>
    simp [hi] at h
    rw [run_sizeOf w hi]
    simp [Program.cellsOf, hi, h]
theorem kind_size {t : TypeId} {k : Option Nat} (h : kindIs P t k = true) : sizeIs P t (kst k) = true := by
  unfold kindIs at h
  unfold sizeIs
  cases hu : P.underlying t with
  | none => simp [hu] at h
  | some d =>
    cases hi : P.info? t with
    | none => simp [hu, hi] at h
    | some i =>
      simp only [hu, hi] at h ⊢
      cases d <;> cases k <;> simp_all [kst]
theorem kind_agg {t : TypeId} {k : Option Nat} (h : kindIs P t k = true) (w : World) : (isAgg t).run P w = .ok k.isSome w := by
  unfold kindIs at h
  cases hu : P.underlying t with
  | none => simp [hu] at h
  | some d =>
    cases hi : P.info? t with
    | none => simp [hu, hi] at h
    | some i =>
      simp only [hu, hi] at h
      simp only [isAgg, Sem.run_bind, run_underlying hu, Result.andThen_ok]
      cases d <;> cases k <;> simp_all
theorem slice_und {t e : TypeId} (h : sliceOf P t = some e) (w : World) : (underlying t).run P w = .ok (.slice e) w := by
  unfold sliceOf at h
  cases hu : P.underlying t with
  | none => simp [hu] at h
  | some d => cases d <;> simp [hu] at h; subst h; exact run_underlying hu w

/-- Loads of a value that lies there. -/
theorem run_load_val {w : World} {t : TypeId} {k : Option Nat} (hk : kindIs P t k = true) {blk off : Nat} {c : Array Value} {el : TypeId} {fz : Nat × Nat} {v : Value}
    (hH : w.heap[blk]? = some (.cells c el fz)) (hs : v.cells.size = kst k) (hj : ∀ j, j < kst k → c[off + j]? = v.cells[j]?) (hn : k = none → v.cells = #[v]) (ha : k ≠ none → ∃ vs, v = .agg vs) :
    (loadVar t ⟨blk, off, none⟩).run P w = .ok v w := by
  have hcell : ∀ j, j < kst k → w.cell? ((⟨blk, off, none⟩ : Addr).add j) = some (v.cells.getD j undef) := fun j hlt => by
    have : ((⟨blk, off, none⟩ : Addr).add j) = ⟨blk, off + j, none⟩ := by
      unfold Addr.add; split
      · rename_i h0; subst h0; rfl
      · rfl
    rw [this]
    simp only [World.cell?, hH]
    simp only [Option.isSome_none, Bool.false_eq_true, if_false]
    rw [hj j hlt]
    have : j < v.cells.size := by omega
    simp [this]
  unfold loadVar
  simp only [Sem.run_bind, kind_agg hk, Result.andThen_ok]
  cases k with
  | none =>
    simp only [Option.isSome_none, Bool.false_eq_true, if_false]
    have h0 := hcell 0 (by simp [kst])
    simp only [Addr.add, if_true] at h0
    have hv := hn rfl
    rw [hv] at h0
    simp at h0
    simp [load, Sem.run, h0]
  | some n =>
    obtain ⟨vs, rfl⟩ := ha (by simp)
    simp only [Option.isSome_some, if_true, Sem.run_bind, info_size (kind_size hk), Result.andThen_ok, kst]
    have hl := run_loadCells (P := P) (w := w) ⟨blk, off, none⟩ n (fun j => vs.getD j undef) (fun j hlt => hcell j hlt)
    rw [hl]
    simp only [Result.andThen_ok, Sem.run_pure]
    simp only [Value.cells, kst] at hs
    congr 2
    apply Array.ext
    · simp [hs]
    · intro i h1 h2
      have h3 : i < vs.size := by simpa using h2
      simp [h3]
end Ab
namespace Ab
open Go
variable {P : Program}

/-- The value that an operation of one value yields, memory untouched. -/
def Yld (P : Program) (s : Sem Next) (w : World) (v : Value) : Prop := s.run P w = .ok (.value v) w

theorem yld_of {P : Program} {s : Sem Value} {w : World} {v : Value} (h : s.run P w = .ok v w) : (do pure (Next.value (← s)) : Sem Next).run P w = .ok (.value v) w := by
  simp only [Sem.run_bind, h, Result.andThen_ok, Sem.run_pure]

theorem constIs_VR {C : Ctx} {H : Array Obj} {v : Value} {x : AV} (h : constIs v x = true) : VR C H x v := by
  unfold constIs at h
  split at h <;> first
    | (simp at h; done)
    | skip
  · simp at h; subst h; unfold VR; rfl
  · rename_i k n j m
    cases hk : kindOf j with
    | none => simp [hk] at h
    | some K =>
      simp [hk] at h
      obtain ⟨rfl, rfl⟩ := h
      unfold VR; exact ⟨_, hk, rfl⟩
  · simp at h; subst h; unfold VR; rfl
  · unfold VR; rfl
  · unfold VR; rfl
  · unfold VR; rfl
  · unfold VR; rfl
  · simp at h
    unfold VR; rw [← h]
  
theorem constsAre_VRL {C : Ctx} {H : Array Obj} : ∀ {vs : List Value} {xs : List AV}, constsAre vs xs = true → VRL C H xs vs
  | [], [], _ => rfl
  | v :: vs, x :: xs, h => by
    simp only [constsAre, Bool.and_eq_true] at h
    exact ⟨v, vs, rfl, constIs_VR h.1, constsAre_VRL h.2⟩
  | [], _ :: _, h => by simp [constsAre] at h
  | _ :: _, [], h => by simp [constsAre] at h

theorem allR_VRL {C : Ctx} {H : Array Obj} {R : Operand → Rf → Bool} {ρ : Operand → Value} {r : Rf → AV} (hR : ∀ x y, R x y = true → VR C H (r y) (ρ x)) :
    ∀ {xs : List Operand} {ys : List Rf}, allR R xs ys = true → VRL C H (ys.map r) (xs.map ρ)
  | [], [], _ => rfl
  | x :: xs, y :: ys, h => by
    simp only [allR, Bool.and_eq_true] at h
    exact ⟨ρ x, xs.map ρ, rfl, hR _ _ h.1, allR_VRL hR h.2⟩
  | [], _ :: _, h => by simp [allR] at h
  | _ :: _, [], h => by simp [allR] at h

theorem wrap_in {n : Int} (h : inR n = true) : IntKind.i64.wrap n = n := by
  simp only [inR, Bool.and_eq_true, decide_eq_true_eq] at h
  exact IntWalk.i64_in n ⟨by omega, by omega⟩
end Ab
namespace Ab
open Go
variable {P : Program}

/-! ### Operations that yield a value and turn nothing -/
section plain
variable {ρ : Operand → Value} {r : Rf → AV} {w : World} {C : Ctx} {H : Array Obj} {R : Operand → Rf → Bool}

/-- What is claimed of such an operation. -/
def Plain (P : Program) (ρ : Operand → Value) (o : Oper) (w : World) (C : Ctx) (H : Array Obj) (x : AV) : Prop :=
  ∃ v, (execOp ρ o).run P w = .ok (.value v) w ∧ VR C H x v

theorem plain_of {o : Oper} {s : Sem Value} {v : Value} {x : AV} (he : execOp ρ o = (do pure (Next.value (← s)))) (h : s.run P w = .ok v w) (hv : VR C H x v) : Plain P ρ o w C H x :=
  ⟨v, by rw [he]; exact yld_of h, hv⟩

theorem wrap_wr (n : Int) : IntKind.i64.wrap n = wr n := by
  unfold wr
  simp only [IntKind.wrap, IntKind.bits, IntKind.signed, Bool.true_and, decide_eq_true_eq, show (2 : Int) ^ 64 = 18446744073709551616 by decide, show (2 : Int) ^ (64 - 1) = 9223372036854775808 by decide]
  split <;> omega
theorem bin_run {op : BinOp} {b : Bin} {n m : Int} {x : AV} (hb : binIs op b = true) (hx : bin b n m = some x) (t : TypeId) :
    ∃ v, (binOp op t (.int .i64 n) (.int .i64 m)).run P w = .ok v w ∧ VR C H x v := by
  unfold binIs at hb
  split at hb <;> simp only [bin] at hx
  case h_13 => simp at hb
  all_goals simp only [binOp, ne_eq, not_true_eq_false, if_false, Op.intArith, Op.intCmp, Op.intDiv]
  case h_1 => split at hx <;> simp at hx; rename_i h; subst hx; exact ⟨_, rfl, by unfold VR; rw [wrap_in h]⟩
  case h_2 => simp at hx; subst hx; exact ⟨_, rfl, by unfold VR; rw [wrap_wr]⟩
  case h_3 => split at hx <;> simp at hx; rename_i h; subst hx; exact ⟨_, rfl, by unfold VR; rw [wrap_in h]⟩
  case h_4 => split at hx <;> simp at hx; rename_i h; subst hx; exact ⟨_, rfl, by unfold VR; rw [wrap_in h]⟩
  case h_5 =>
    by_cases h0 : m = 0
    · simp [h0] at hx
    · simp [h0] at hx; obtain ⟨h, rfl⟩ := hx
      simp only [h0, if_false]
      exact ⟨_, rfl, by unfold VR; rw [wrap_in h]⟩
  case h_6 =>
    by_cases h0 : m = 0
    · simp [h0] at hx
    · simp [h0] at hx; subst hx
      simp only [h0, if_false]
      exact ⟨_, rfl, by unfold VR; rfl⟩
  all_goals
    simp at hx; subst hx
    refine ⟨_, rfl, ?_⟩
    unfold VR
    first | rfl | (simp [bne]) 
end plain
end Ab
