/- The operations that yield a value and turn nothing. Condition: none. -/
import Derived.Test.YtchamabaodnjkaaAbRun
import Derived.Laws.StructEq
set_option linter.all false
namespace Ab
open Go
variable {P : Program}

theorem notUnd_of {x : AV} (h : noLoc x = true) : Solid x := by
  refine ⟨?_, fun l => ?_⟩ <;> (intro e; subst e; simp [noLoc] at h)

def IOp.isPlain : IOp → Bool
  | .mv _ | .bin .. | .beq .. | .not _ | .pick .. | .len _ | .mx .. | .fad .. | .iad .. | .iada .. | .nck _ | .bld .. | .fld .. | .ext .. | .mkf .. | .mki .. | .slc .. | .cvi _ | .ldi .. | .bnl .. | .ld .. => true
  | _ => false

section
variable {ρ : Operand → Value} {r : Rf → AV} {w : World} {C : Ctx} {R : Operand → Rf → Bool} {ce : CE} {σ : List Blk} {nl : Nat} {ps : List Pend}

theorem add_addr (b o n : Nat) : (⟨b, o, none⟩ : Addr).add n = ⟨b, o + n, none⟩ := by
  unfold Addr.add
  split
  · rename_i h; subst h; rfl
  · rfl

theorem VR.int_inv {H : Array Obj} {n : Int} {v : Value} (h : VR C H (.int n) v) : v = .int .i64 n := h
theorem VR.bool_inv {H : Array Obj} {n : Bool} {v : Value} (h : VR C H (.bool n) v) : v = .bool n := h

theorem pl_bin {o : Oper} {op : BinOp} {t t' : TypeId} {x y : Operand} {b : Bin} {x' y' : Rf} {z : AV} {p : Option Pend} (ho : o.op = .binOp op t x y t') (hb : binIs op b = true)
    (hx : VR C w.heap (r x') (ρ x)) (hy : VR C w.heap (r y') (ρ y)) (he : ev ce σ nl ps r (.bin b x' y') = some (z, p)) : Plain P ρ o w C w.heap z ∧ p = none := by
  simp only [ev] at he
  cases hx' : r x' <;> simp only [hx'] at he <;> try (simp at he; done)
  cases hy' : r y' <;> simp only [hy'] at he <;> try (simp at he; done)
  rename_i n m
  rw [hx'] at hx; rw [hy'] at hy
  have hx := hx.int_inv; have hy := hy.int_inv
  cases hz : Ab.bin b n m with
  | none => simp [hz] at he
  | some z' =>
    simp [hz] at he
    obtain ⟨rfl, rfl⟩ := he
    obtain ⟨v, h1, h2⟩ := bin_run (P := P) (w := w) (C := C) (H := w.heap) hb hz t
    refine ⟨plain_of (s := do eqGuard op t x y (ρ x) (ρ y); binOp op t (ρ x) (ρ y)) (by simp only [execOp, ho]) ?_ h2, rfl⟩
    rw [hx, hy]
    have hg : (eqGuard op t x y (.int .i64 n) (.int .i64 m)).run P w = .ok () w := by
      unfold eqGuard
      split <;> simp
    simp only [Sem.run_bind, hg, Result.andThen_ok, h1]

theorem pl_beq {o : Oper} {op : BinOp} {t t' : TypeId} {x y : Operand} {neg : Bool} {x' y' : Rf} {z : AV} {p : Option Pend} (ho : o.op = .binOp op t x y t')
    (hop : eqOp op neg = true) (ht : (match P.underlying t with | some .bool => true | _ => false) = true)
    (hx : VR C w.heap (r x') (ρ x)) (hy : VR C w.heap (r y') (ρ y)) (he : ev ce σ nl ps r (.beq neg x' y') = some (z, p)) : Plain P ρ o w C w.heap z ∧ p = none := by
  have hu : P.underlying t = some .bool := by
    split at ht
    · assumption
    · simp at ht
  simp only [ev] at he
  cases hx' : r x' <;> simp only [hx'] at he <;> try (simp at he; done)
  cases hy' : r y' <;> simp only [hy'] at he <;> try (simp at he; done)
  rename_i a b
  rw [hx'] at hx; rw [hy'] at hy
  have hx := hx.bool_inv; have hy := hy.bool_inv
  simp at he
  obtain ⟨rfl, rfl⟩ := he
  refine ⟨plain_of (s := do eqGuard op t x y (ρ x) (ρ y); binOp op t (ρ x) (ρ y)) (v := .bool ((a == b) != neg)) (by simp only [execOp, ho]) ?_ (by unfold VR; rfl), rfl⟩
  rw [hx, hy]
  have hg : (eqGuard op t x y (.bool a) (.bool b)).run P w = .ok () w := by
    unfold eqGuard
    split <;> simp
  have hq : (Op.equal t (.bool a) (.bool b)).run P w = .ok (a == b) w := by
    unfold Op.equal Op.maxDepth Op.equalIn
    simp only [Sem.run_bind, run_underlying hu, Result.andThen_ok, Sem.run_pure]
  unfold eqOp at hop
  split at hop
  · simp only [Sem.run_bind, hg, Result.andThen_ok, binOp, hq, Sem.run_pure]
    simp at hop; subst hop; simp
  · simp only [Sem.run_bind, hg, Result.andThen_ok, binOp, hq, Sem.run_pure]
    subst hop; simp
  · simp at hop

theorem eqInts_inv : ∀ {xs ys : List AV} {b : Bool}, eqInts xs ys = some b → ∃ Xs Ys : List Int, xs = Xs.map .int ∧ ys = Ys.map .int ∧ Xs.length = Ys.length ∧ b = decide (Xs = Ys)
  | [], [], b, h => by simp [eqInts] at h; subst h; exact ⟨[], [], rfl, rfl, rfl, by simp⟩
  | .int a :: xs, .int c :: ys, b, h => by
    simp only [eqInts] at h
    cases hr : eqInts xs ys with
    | none => rw [hr] at h; simp at h
    | some d =>
      rw [hr] at h
      simp at h
      obtain ⟨Xs, Ys, h1, h2, h3, h4⟩ := eqInts_inv hr
      refine ⟨a :: Xs, c :: Ys, by rw [h1]; rfl, by rw [h2]; rfl, by simp [h3], ?_⟩
      rw [← h, h4, Bool.eq_iff_iff]
      simp
theorem VRL_ints {H : Array Obj} : ∀ {Xs : List Int} {vs : List Value}, VRL C H (Xs.map .int) vs → vs = Xs.map (Value.int .i64)
  | [], vs, h => h
  | x :: Xs, vs, h => by
    obtain ⟨v, s, rfl, h1, h2⟩ := h
    rw [VRL_ints h2, h1.int_inv]; rfl
theorem eqFields_ints {d : Nat} {Xs Ys : List Int} {w : World} (hl : Xs.length = Ys.length) : ∀ {fs : List Field} {o : Nat}, intFields P fs o = true → o + fs.length = Xs.length →
    (Op.eqFields (d + 1) (Xs.map (Value.int .i64)).toArray (Ys.map (Value.int .i64)).toArray fs).run P w = .ok (decide (Xs.drop o = Ys.drop o)) w
  | [], o, _, ho => by
    simp only [Op.eqFields, Sem.run_pure]
    rw [List.drop_of_length_le (by simp at ho; omega), List.drop_of_length_le (by simp at ho; omega)]
    simp
  | f :: fs, o, hi, ho => by
    simp only [intFields, Bool.and_eq_true, beq_iff_eq, bne_iff_ne] at hi
    obtain ⟨⟨⟨⟨h1, h2⟩, h3⟩, h4⟩, h5⟩ := hi
    have hu : P.underlying f.type = some (.int .i64) := by
      split at h2
      · assumption
      · simp at h2
    simp only [List.length_cons] at ho
    have hX : o < Xs.length := by omega
    have hY : o < Ys.length := by omega
    have hp : ∀ (Z : List Int) (h : o < Z.length), (Go.part f.type (Z.map (Value.int .i64)).toArray f.offset).run P w = .ok (.int .i64 Z[o]) w := fun Z h => by
      have hg : (Z.map (Value.int .i64)).toArray[o]? = some (.int .i64 Z[o]) := by simp [h]
      simp only [Go.part, Sem.run_bind, kind_agg h3, Option.isSome_none, Result.andThen_ok, Bool.false_eq_true, if_false, h4, hg, Sem.run_pure]
    simp only [Op.eqFields, if_pos h1, Sem.run_bind, hp Xs hX, hp Ys hY, Result.andThen_ok, run_equalIn_int w d f.type .i64 .i64 _ _ hu]
    have ih := eqFields_ints (d := d) (w := w) hl h5 (by omega)
    have hiff : (Xs.drop o = Ys.drop o) ↔ (Xs[o] = Ys[o] ∧ Xs.drop (o + 1) = Ys.drop (o + 1)) := by
      rw [List.drop_eq_getElem_cons hX, List.drop_eq_getElem_cons hY, List.cons.injEq]
    by_cases e : Xs[o] = Ys[o]
    · have hd : decide (Xs.drop (o + 1) = Ys.drop (o + 1)) = decide (Xs.drop o = Ys.drop o) := by
        rw [Bool.eq_iff_iff, decide_eq_true_iff, decide_eq_true_iff, hiff]
        exact ⟨fun h => ⟨e, h⟩, fun h => h.2⟩
      have eb : (Xs[o] == Ys[o]) = true := by simpa using e
      simp only [eb, Bool.not_true, Bool.false_eq_true, if_false, ih, hd]
    · have e' : (Xs[o] == Ys[o]) = false := by simpa using e
      have hd : decide (Xs.drop o = Ys.drop o) = false := decide_eq_false fun h => e (hiff.1 h).1
      simp only [e', Bool.not_false, if_true, Sem.run_pure, hd]
theorem pl_seq {o : Oper} {op : BinOp} {t t' : TypeId} {x y : Operand} {neg : Bool} {n : Nat} {x' y' : Rf} {z : AV} {p : Option Pend} (ho : o.op = .binOp op t x y t')
    (hop : eqOp op neg = true) (ht : seqOk P t n = true)
    (hx : VR C w.heap (r x') (ρ x)) (hy : VR C w.heap (r y') (ρ y)) (he : ev ce σ nl ps r (.seq neg n x' y') = some (z, p)) : Plain P ρ o w C w.heap z ∧ p = none := by
  unfold seqOk at ht
  simp only [Bool.and_eq_true, Bool.not_eq_true'] at ht
  obtain ⟨⟨ht1, ht2⟩, ht3⟩ := ht
  split at ht1
  case h_2 => simp at ht1
  rename_i fs hu
  simp only [Bool.and_eq_true, beq_iff_eq] at ht1
  obtain ⟨hn, hi⟩ := ht1
  simp only [ev] at he
  cases hx' : r x' <;> simp only [hx'] at he <;> try (simp at he; done)
  cases hy' : r y' <;> simp only [hy'] at he <;> try (simp at he; done)
  rename_i xs ys
  rw [hx'] at hx; rw [hy'] at hy
  split at he
  case isFalse => simp at he
  rename_i hxl
  cases hb : eqInts xs ys with
  | none => rw [hb] at he; simp at he
  | some b =>
    rw [hb] at he
    simp at he
    obtain ⟨rfl, rfl⟩ := he
    obtain ⟨Xs, Ys, rfl, rfl, hl, rfl⟩ := eqInts_inv hb
    obtain ⟨vs, ex, hv1, _⟩ := hx
    obtain ⟨us, ey, hv2, _⟩ := hy
    rw [VRL_ints hv1] at ex
    rw [VRL_ints hv2] at ey
    have hfo : P.fieldsOf t = fs := by unfold Program.fieldsOf; rw [hu]
    have hXl : Xs.length = n := by simpa using hxl
    refine ⟨plain_of (s := do eqGuard op t x y (ρ x) (ρ y); binOp op t (ρ x) (ρ y)) (v := .bool ((decide (Xs = Ys)) != neg)) (by simp only [execOp, ho]) ?_ (by unfold VR; rfl), rfl⟩
    rw [ex, ey]
    have hg := run_eqGuard_agg w op t x y (Xs.map (Value.int .i64)).toArray (Ys.map (Value.int .i64)).toArray ht3
    have hq : (Op.equalIn 10000 t (.agg (Xs.map (Value.int .i64)).toArray) (.agg (Ys.map (Value.int .i64)).toArray)).run P w = .ok (decide (Xs = Ys)) w := by
      rw [show (10000 : Nat) = 9999 + 1 from rfl, run_equalIn_struct w 9999 t _ _ (by rw [hfo]; exact hu) ht2, hfo]
      have := eqFields_ints (P := P) (d := 9998) (w := w) hl (fs := fs.toList) (o := 0) hi (by simp [hXl, hn])
      simpa using this
    unfold eqOp at hop
    split at hop
    · simp only [Sem.run_bind, hg, Result.andThen_ok, run_eql_struct, hq]
      simp at hop; subst hop; simp
    · simp only [Sem.run_bind, hg, Result.andThen_ok, run_neq_struct, hq]
      subst hop; simp
    · simp at hop

theorem nilOpd_eval {a : Act} {x : Operand} (h : nilOpd x = true) (hρ : ρ = a.eval) : ρ x = .slice none 0 0 := by
  unfold nilOpd at h
  split at h
  · subst hρ; rfl
  · simp at h

/-- A slice, and whether it is nil. -/
theorem sl_nil {neg : Bool} {x' : Rf} {z : AV} {p : Option Pend} {v : Value} (hup : ∀ b u B, upto σ b u = some B → ∃ id, C.own b u = some (B, id))
    (hx : VR C w.heap (r x') v) (he : ev ce σ nl ps r (.bnl neg x') = some (z, p)) : p = none ∧ ∃ n : Bool, z = .bool (n != neg) ∧ ((n = true ∧ v = .slice none 0 0) ∨ (n = false ∧ ∃ a l c, v = .slice (some a) l c)) := by
  simp only [ev] at he
  cases hx' : r x' <;> simp only [hx'] at he <;> try (simp at he; done)
  · simp at he; obtain ⟨rfl, rfl⟩ := he
    rw [hx'] at hx
    exact ⟨rfl, true, by cases neg <;> rfl, .inl ⟨rfl, hx⟩⟩
  · rename_i nn l
    have key : (z = .bool neg ∧ p = none) ∧ (nn = true ∨ l ≠ []) := by
      cases nn
      · cases l with
        | nil => simp at he
        | cons a b => simp at he; exact ⟨⟨he.1.symm, he.2.symm⟩, .inr (by simp)⟩
      · simp at he; exact ⟨⟨he.1.symm, he.2.symm⟩, .inl rfl⟩
    obtain ⟨⟨rfl, rfl⟩, hn⟩ := key
    rw [hx'] at hx
    unfold VR at hx
    refine ⟨rfl, false, by cases neg <;> rfl, .inr ⟨rfl, ?_⟩⟩
    rcases hx.2 with ⟨h2, a, rfl, h1⟩ | ⟨blk, off, cap, st, c, el, fz, rfl, _⟩
    · rcases hn with h | h
      · obtain ⟨q, rfl⟩ := Option.isSome_iff_exists.1 (h1 h); exact ⟨_, _, _, rfl⟩
      · exact absurd h2 h
    · exact ⟨_, _, _, rfl⟩
  · rename_i b u off len
    cases hu : upto σ b u with
    | none => simp [hu] at he
    | some B =>
      cases hs : B.st <;> simp [hu, hs] at he
      obtain ⟨rfl, rfl⟩ := he
      obtain ⟨id, ho⟩ := hup b u B hu
      rw [hx'] at hx
      unfold VR at hx
      have := hx.2.2 B id ho
      simp only [hs] at this
      obtain ⟨c, el, o, cap, _, rfl, _⟩ := this
      exact ⟨rfl, false, by cases neg <;> rfl, .inr ⟨rfl, _, _, _, rfl⟩⟩

theorem pl_bnl {a : Act} {o : Oper} {op : BinOp} {t t' : TypeId} {x y : Operand} {neg : Bool} {z' : Rf} {z : AV} {p : Option Pend} (ho : o.op = .binOp op t x y t') (hρ : ρ = a.eval)
    (hop : eqOp op neg = true) (ht : (sliceOf P t).isSome = true) (hup : ∀ b u B, upto σ b u = some B → ∃ id, C.own b u = some (B, id))
    (hx : (nilOpd y = true ∧ VR C w.heap (r z') (ρ x)) ∨ (nilOpd x = true ∧ VR C w.heap (r z') (ρ y))) (he : ev ce σ nl ps r (.bnl neg z') = some (z, p)) : Plain P ρ o w C w.heap z ∧ p = none := by
  obtain ⟨e, he'⟩ := Option.isSome_iff_exists.1 ht
  have hu := slice_und he' w
  have main : ∀ v1 v2 : Value, ρ x = v1 → ρ y = v2 → (∃ n : Bool, z = .bool (n != neg) ∧ ((v1 = .slice none 0 0 ∧ ((n = true ∧ v2 = .slice none 0 0) ∨ (n = false ∧ ∃ a l c, v2 = .slice (some a) l c))) ∨
      (v2 = .slice none 0 0 ∧ ((n = true ∧ v1 = .slice none 0 0) ∨ (n = false ∧ ∃ a l c, v1 = .slice (some a) l c))))) → Plain P ρ o w C w.heap z := by
    rintro v1 v2 e1 e2 ⟨n, rfl, h⟩
    refine plain_of (s := do eqGuard op t x y (ρ x) (ρ y); binOp op t (ρ x) (ρ y)) (v := .bool (n != neg)) (by simp only [execOp, ho]) ?_ (by unfold VR; rfl)
    rw [e1, e2]
    have hg : (eqGuard op t x y v1 v2).run P w = .ok () w := by
      unfold eqGuard
      rcases h with ⟨rfl, ⟨_, rfl⟩ | ⟨_, _, _, _, rfl⟩⟩ | ⟨rfl, ⟨_, rfl⟩ | ⟨_, _, _, _, rfl⟩⟩ <;> split <;> simp
    have hq : (Op.equal t v1 v2).run P w = .ok n w := by
      unfold Op.equal Op.maxDepth Op.equalIn
      rcases h with ⟨rfl, ⟨rfl, rfl⟩ | ⟨rfl, _, _, _, rfl⟩⟩ | ⟨rfl, ⟨rfl, rfl⟩ | ⟨rfl, _, _, _, rfl⟩⟩ <;> simp [Sem.run_bind, hu, Result.andThen_ok, Sem.run_pure]
    have hb : op = .eql ∧ neg = false ∨ op = .neq ∧ neg = true := by
      unfold eqOp at hop
      split at hop
      · simp at hop; exact .inl ⟨rfl, hop⟩
      · exact .inr ⟨rfl, hop⟩
      · simp at hop
    rcases hb with ⟨rfl, rfl⟩ | ⟨rfl, rfl⟩ <;>
      rcases h with ⟨rfl, ⟨rfl, rfl⟩ | ⟨rfl, _, _, _, rfl⟩⟩ | ⟨rfl, ⟨rfl, rfl⟩ | ⟨rfl, _, _, _, rfl⟩⟩ <;>
      simp [Sem.run_bind, hg, Result.andThen_ok, binOp, hq, Sem.run_pure]
  rcases hx with ⟨hn, hx⟩ | ⟨hn, hx⟩
  · obtain ⟨rfl, n, hz, h⟩ := sl_nil hup hx he
    exact ⟨main _ _ rfl rfl ⟨n, hz, .inr ⟨nilOpd_eval hn hρ, h⟩⟩, rfl⟩
  · obtain ⟨rfl, n, hz, h⟩ := sl_nil hup hx he
    exact ⟨main _ _ rfl rfl ⟨n, hz, .inl ⟨nilOpd_eval hn hρ, h⟩⟩, rfl⟩

theorem pl_not {o : Oper} {t : TypeId} {x : Operand} {y : Rf} {z : AV} {p : Option Pend} (ho : o.op = .unOp .not t x)
    (hx : VR C w.heap (r y) (ρ x)) (he : ev ce σ nl ps r (.not y) = some (z, p)) : Plain P ρ o w C w.heap z ∧ p = none := by
  simp only [ev] at he
  cases hx' : r y <;> simp only [hx'] at he <;> try (simp at he; done)
  rename_i b
  rw [hx'] at hx
  simp at he; obtain ⟨rfl, rfl⟩ := he
  refine ⟨plain_of (s := Op.unary .not (ρ x)) (v := .bool !b) (by simp only [execOp, ho]) ?_ (by unfold VR; rfl), rfl⟩
  rw [hx.bool_inv]; rfl

theorem pl_neg {o : Oper} {t : TypeId} {x : Operand} {y : Rf} {z : AV} {p : Option Pend} (ho : o.op = .unOp .neg t x)
    (hx : VR C w.heap (r y) (ρ x)) (hr : r (.c (.int 0)) = .int 0) (he : ev ce σ nl ps r (.bin .sub (.c (.int 0)) y) = some (z, p)) : Plain P ρ o w C w.heap z ∧ p = none := by
  simp only [ev, hr] at he
  cases hx' : r y <;> simp only [hx'] at he <;> try (simp at he; done)
  rename_i n
  rw [hx'] at hx
  simp only [bin] at he
  split at he <;> simp at he
  rename_i h
  obtain ⟨rfl, rfl⟩ := he
  refine ⟨plain_of (s := Op.unary .neg (ρ x)) (v := .int .i64 (0 - n)) (by simp only [execOp, ho]) ?_ (by unfold VR; simp), rfl⟩
  rw [hx.int_inv]
  simp only [Op.unary, Op.intArith, Sem.run_pure, wrap_in h]

theorem pl_pick {o : Oper} {c a b : Operand} {c' a' b' : Rf} {z : AV} {p : Option Pend} (ho : o.op = .pick c a b)
    (hc : VR C w.heap (r c') (ρ c)) (ha : VR C w.heap (r a') (ρ a)) (hb : VR C w.heap (r b') (ρ b)) (he : ev ce σ nl ps r (.pick c' a' b') = some (z, p)) : Plain P ρ o w C w.heap z ∧ p = none := by
  simp only [ev] at he
  cases hx' : r c' <;> simp only [hx'] at he <;> try (simp at he; done)
  rename_i q
  rw [hx'] at hc
  have hc := hc.bool_inv
  cases q <;> simp at he <;> obtain ⟨rfl, rfl⟩ := he
  · exact ⟨⟨ρ b, by simp only [execOp, ho, hc, asBool, Sem.run_bind, Result.andThen_ok, Sem.run_pure]; simp, hb⟩, rfl⟩
  · exact ⟨⟨ρ a, by simp only [execOp, ho, hc, asBool, Sem.run_bind, Result.andThen_ok, Sem.run_pure]; simp, ha⟩, rfl⟩

/-- A slice's length. -/
theorem len_of {H : Array Obj} {x : AV} {v : Value} {n : Nat} (hv : VR C H x v) (h : x = .snil ∧ n = 0 ∨ (∃ nn l, x = .imm nn l ∧ n = l.length) ∨ (∃ b u o, x = .sl b u o n)) : ∃ a c, v = .slice a n c := by
  rcases h with ⟨rfl, rfl⟩ | ⟨nn, l, rfl, rfl⟩ | ⟨b, u, o, rfl⟩
  · exact ⟨_, _, hv⟩
  · unfold VR at hv
    rcases hv.2 with ⟨rfl, _, h, _⟩ | ⟨_, _, _, _, _, _, _, h, _⟩
    · exact ⟨_, _, h⟩
    · exact ⟨_, _, h⟩
  · unfold VR at hv
    obtain ⟨⟨a, c, h, _⟩, _⟩ := hv
    exact ⟨a, c, h⟩

theorem pl_len {o : Oper} {ca : Call} {x : Operand} {t : TypeId} {y : Rf} {z : AV} {p : Option Pend} (ho : o.op = .call ca) (hc : ca.callee = .builtin .len) (ha : ca.args.toList = [x]) (hat : ca.argTypes.toList = [t])
    (ht : (sliceOf P t).isSome = true) (hx : VR C w.heap (r y) (ρ x)) (he : ev ce σ nl ps r (.len y) = some (z, p)) : Plain P ρ o w C w.heap z ∧ p = none := by
  obtain ⟨e, he'⟩ := Option.isSome_iff_exists.1 ht
  have hu := slice_und he' w
  have key : ∃ n : Nat, z = .int n ∧ p = none ∧ ∃ a c, ρ x = .slice a n c := by
    simp only [ev] at he
    cases hx' : r y <;> simp only [hx'] at he <;> try (simp at he; done)
    · simp at he; obtain ⟨rfl, rfl⟩ := he
      exact ⟨0, rfl, rfl, len_of (x := .snil) (by rw [← hx']; exact hx) (.inl ⟨rfl, rfl⟩)⟩
    · rename_i nn l
      simp at he; obtain ⟨rfl, rfl⟩ := he
      exact ⟨l.length, rfl, rfl, len_of (x := .imm nn l) (by rw [← hx']; exact hx) (.inr (.inl ⟨nn, l, rfl, rfl⟩))⟩
    · rename_i b u off n
      simp at he; obtain ⟨rfl, rfl⟩ := he
      exact ⟨n, rfl, rfl, len_of (x := .sl b u off n) (by rw [← hx']; exact hx) (.inr (.inr ⟨b, u, off, rfl⟩))⟩
  obtain ⟨n, rfl, rfl, a, c, hv⟩ := key
  have ha' : ca.args = #[x] := by rw [← Array.toList_inj]; simpa using ha
  have hat' : ca.argTypes = #[t] := by rw [← Array.toList_inj]; simpa using hat
  refine ⟨⟨.int .i64 n, ?_, by unfold VR; rfl⟩, rfl⟩
  simp only [execOp, ho, resolve, hc, ha', hat', Sem.run_bind, Sem.run_pure, Result.andThen_ok, invoke, builtin, Builtin.len_]
  simp [hv, Sem.run_bind, hu, goInt]

theorem pl_mx {o : Oper} {ca : Call} {x y : Operand} {m : Bool} {x' y' : Rf} {z : AV} {p : Option Pend} (ho : o.op = .call ca) (hc : ca.callee = .builtin (if m then .max else .min)) (ha : ca.args.toList = [x, y])
    (hx : VR C w.heap (r x') (ρ x)) (hy : VR C w.heap (r y') (ρ y)) (he : ev ce σ nl ps r (.mx m x' y') = some (z, p)) : Plain P ρ o w C w.heap z ∧ p = none := by
  simp only [ev] at he
  cases hx' : r x' <;> simp only [hx'] at he <;> try (simp at he; done)
  cases hy' : r y' <;> simp only [hy'] at he <;> try (simp at he; done)
  rename_i a b
  rw [hx'] at hx; rw [hy'] at hy
  have hx := hx.int_inv; have hy := hy.int_inv
  simp at he; obtain ⟨rfl, rfl⟩ := he
  have ha' : ca.args = #[x, y] := by rw [← Array.toList_inj]; simpa using ha
  refine ⟨⟨.int .i64 (if m then (if a < b then b else a) else (if b < a then b else a)), ?_, by unfold VR; cases m <;> rfl⟩, rfl⟩
  cases m
  · simp only [execOp, ho, resolve, hc, ha', Sem.run_bind, Sem.run_pure, Result.andThen_ok, invoke, builtin, Builtin.min_]
    simp [hx, hy, Builtin.min2]
  · simp only [execOp, ho, resolve, hc, ha', Sem.run_bind, Sem.run_pure, Result.andThen_ok, invoke, builtin, Builtin.max_]
    simp [hx, hy, Builtin.max2]

/-- What is behind an unwritten pointer. -/
theorem pimm_inv {H : Array Obj} {x : AV} {v : Value} (h : VR C H (.pimm x) v) :
    noLoc x = true ∧ ∃ blk off c el fz y, v = .pointer (some ⟨blk, off, none⟩) ∧ C.I blk ∧ H[blk]? = some (.cells c el fz) ∧ VR C H x y ∧ ∀ j, j < y.cells.size → c[off + j]? = y.cells[j]? := by
  unfold VR at h; exact h

theorem noLoc_part {cs : List AV} {off : Nat} {k : Option Nat} {x : AV} (h : noLocs cs = true) (hp : part cs off k = some x) : noLoc x = true := by
  have hmem : ∀ y ∈ cs, noLoc y = true := by
    clear hp
    induction cs with
    | nil => simp
    | cons a r ih =>
      simp only [noLocs, Bool.and_eq_true] at h
      intro y hy
      rcases List.mem_cons.1 hy with rfl | hy
      · exact h.1
      · exact ih h.2 y hy
  cases k with
  | none => simp only [part, elm_eq] at hp; exact hmem x (List.mem_of_getElem? hp)
  | some n =>
    simp only [part] at hp
    split at hp <;> simp at hp
    subst hp
    simp only [noLoc]
    exact noLocs_of fun y hy => hmem y (List.mem_of_mem_drop (List.mem_of_mem_take hy))
theorem noLocs_cells {x : AV} (h : noLoc x = true) : noLocs x.cells = true := by
  cases x <;> simp_all [AV.cells, noLoc, noLocs]

/-- A part behind an unwritten pointer, at an address further on. -/
theorem pimm_part {H : Array Obj} {x y : AV} {blk off : Nat} {c : Array Value} {el : TypeId} {fz : Nat × Nat} {val : Value} {d : Nat} {k : Option Nat} (hn : noLoc x = true) (hI : C.I blk) (hH : H[blk]? = some (.cells c el fz))
    (hv : VR C H x val) (hj : ∀ j, j < val.cells.size → c[off + j]? = val.cells[j]?) (hp : part x.cells d k = some y) :
    VR C H (.pimm y) (.pointer (some ⟨blk, off + d, none⟩)) := by
  obtain ⟨v, h1, h2, h3, _⟩ := sub_VR (notUnd_of hn) hv hp
  have hs := VR.size (notUnd_of hn) hv
  have hle : d + kst k ≤ val.cells.size := by
    rw [hs]
    cases k with
    | none =>
      simp only [part, elm_eq] at hp
      have := (List.getElem?_eq_some_iff.1 hp).1
      simp [kst]; omega
    | some n =>
      simp only [part] at hp
      split at hp <;> simp at hp
      simp [kst]; omega
  unfold VR
  refine ⟨noLoc_part (noLocs_cells hn) hp, blk, off + d, c, el, fz, v, rfl, hI, hH, h1, fun j hj' => ?_⟩
  rw [← h3 j (by omega), ← hj (d + j) (by omega), Nat.add_assoc]

theorem pl_fad {o : Oper} {s : TypeId} {x : Operand} {f : Nat} {fs : Array Field} {fl : Field} {y : Rf} {off : Nat} {k : Option Nat} {z : AV} {p : Option Pend} (ho : o.op = .fieldAddr s x f)
    (hs : P.underlying s = some (.struct fs)) (hf : fs[f]? = some fl) (hoff : fl.offset = off) (hk : kindIs P fl.type k = true) (h0 : sizeIs P fl.type 0 = false)
    (hx : VR C w.heap (r y) (ρ x)) (he : ev ce σ nl ps r (.fad y off k) = some (z, p)) : Plain P ρ o w C w.heap z ∧ p = none := by
  have hk0 : kst k ≠ 0 := by
    intro h
    have := kind_size hk
    rw [h] at this
    rw [this] at h0; simp at h0
  have hrun : ∀ blk b, ρ x = .pointer (some ⟨blk, b, none⟩) → (Instr.fieldAt s (ρ x) f).run P w = .ok (.pointer (some ⟨blk, b + off, none⟩)) w := fun blk b e => by
    rw [e]
    simp only [Instr.fieldAt, Sem.run_bind, run_underlying hs, Result.andThen_ok, hf, Instr.sureAddr, Sem.run_pure, fieldPlace, info_size (kind_size hk), if_neg hk0, hoff, add_addr]
  simp only [ev] at he
  cases hx' : r y <;> simp only [hx'] at he <;> try (simp at he; done)
  · rename_i q
    rw [hx'] at hx
    cases hp : part q.cells off k with
    | none => simp [hp] at he
    | some q' =>
      simp [hp] at he; obtain ⟨rfl, rfl⟩ := he
      obtain ⟨hn, blk, b, c, el, fz, val, e, hI, hH, hv, hj⟩ := pimm_inv hx
      exact ⟨plain_of (s := Instr.fieldAt s (ρ x) f) (by simp only [execOp, ho]) (hrun blk b e) (pimm_part hn hI hH hv hj hp), rfl⟩
  · rename_i b u o'
    simp at he; obtain ⟨rfl, rfl⟩ := he
    rw [hx'] at hx
    unfold VR at hx
    obtain ⟨⟨blk, e⟩, h1, h3⟩ := hx
    refine ⟨plain_of (s := Instr.fieldAt s (ρ x) f) (by simp only [execOp, ho]) (hrun blk o' e) ?_, rfl⟩
    unfold VR
    refine ⟨⟨blk, rfl⟩, h1, fun B id hB hl => ?_⟩
    have := h3 B id hB hl
    rw [e] at this
    simp at this
    rw [this]

theorem pl_fld {o : Oper} {s : TypeId} {x : Operand} {f : Nat} {fs : Array Field} {fl : Field} {y : Rf} {off : Nat} {k : Option Nat} {z : AV} {p : Option Pend} (ho : o.op = .field s x f)
    (hs : P.underlying s = some (.struct fs)) (hf : fs[f]? = some fl) (hoff : fl.offset = off) (hk : kindIs P fl.type k = true)
    (hx : VR C w.heap (r y) (ρ x)) (he : ev ce σ nl ps r (.fld y off k) = some (z, p)) : Plain P ρ o w C w.heap z ∧ p = none := by
  simp only [ev] at he
  cases hl : r y <;> simp only [hl] at he <;> try (simp at he; done)
  rename_i l
  cases hp : part l off k with
  | none => simp [hp] at he
  | some q' =>
    simp [hp] at he; obtain ⟨rfl, rfl⟩ := he
    have hp' := hp
    rw [show l = (r y).cells from by rw [hl]] at hp
    have hu : Solid (r y) := by rw [hl]; exact ⟨by simp, by simp⟩
    obtain ⟨v, h1, h2, h3, h4, h5⟩ := sub_VR hu hx hp
    rw [hl] at hx
    unfold VR at hx
    obtain ⟨vs, e, hvl, _⟩ := hx
    refine ⟨plain_of (s := Instr.field s (ρ x) f) (by simp only [execOp, ho]) (v := v) ?_ h1, rfl⟩
    rw [e] at h3 ⊢
    simp only [Instr.field, Sem.run_bind, run_underlying hs, Result.andThen_ok, hf, asAgg, Sem.run_pure, hoff, Go.part, kind_agg hk]
    cases k with
    | none =>
      simp only [Option.isSome_none, Bool.false_eq_true, if_false]
      have := h3 0 (by simp [kst])
      rw [h4 rfl] at this
      simp [Value.cells] at this
      simp [this]
    | some n =>
      obtain ⟨us, rfl⟩ := h5 (by simp)
      simp only [Option.isSome_some, if_true, Sem.run_bind, info_size (kind_size hk), Result.andThen_ok, Sem.run_pure, kst]
      congr 2
      simp only [Value.cells, kst] at h2 h3
      apply Array.ext
      · simp
        have : off + n ≤ vs.length := by
          rcases Nat.eq_zero_or_pos n with h0 | h0
          · subst h0
            simp only [part] at hp
            split at hp <;> simp at hp
            rename_i hle
            have hlen := VRL.length hvl
            rw [hl] at hle
            simp [AV.cells] at hle
            omega
          · have := h3 (n - 1) (by omega)
            rw [Array.getElem?_eq_getElem (by omega : n - 1 < us.size)] at this
            have := (Array.getElem?_eq_some_iff.1 this).1
            simp at this
            omega
        omega
      · intro i h1' h2'
        have := h3 i (by omega)
        rw [Array.getElem?_eq_getElem h2'] at this
        simp at this
        simp
        rw [List.getElem?_eq_some_iff] at this
        obtain ⟨h, e'⟩ := this
        exact e'

theorem agg_part {l : List AV} {v : Value} {q' : AV} {off : Nat} {t : TypeId} {k : Option Nat} (hk : kindIs P t k = true) (hx : VR C w.heap (.agg l) v) (hp : part l off k = some q') :
    ∃ cs v', v = .agg cs ∧ (Go.part t cs off).run P w = .ok v' w ∧ VR C w.heap q' v' := by
  have hp' := hp
  have hu : Solid (AV.agg l) := ⟨by simp, by simp⟩
  obtain ⟨v', h1, h2, h3, h4, h5⟩ := sub_VR (x := .agg l) hu hx hp
  unfold VR at hx
  obtain ⟨vs, e, hvl, _⟩ := hx
  refine ⟨_, v', e, ?_, h1⟩
  rw [e] at h3
  simp only [Go.part, Sem.run_bind, kind_agg hk, Result.andThen_ok]
  cases k with
  | none =>
    simp only [Option.isSome_none, Bool.false_eq_true, if_false]
    have := h3 0 (by simp [kst])
    rw [h4 rfl] at this
    simp [Value.cells] at this
    simp [this]
  | some n =>
    obtain ⟨us, rfl⟩ := h5 (by simp)
    simp only [Option.isSome_some, if_true, Sem.run_bind, info_size (kind_size hk), Result.andThen_ok, Sem.run_pure, kst]
    congr 2
    simp only [Value.cells, kst] at h2 h3
    apply Array.ext
    · simp
      have : off + n ≤ vs.length := by
        rcases Nat.eq_zero_or_pos n with h0 | h0
        · subst h0
          simp only [part] at hp
          split at hp <;> simp at hp
          rename_i hle
          have hlen := VRL.length hvl
          omega
        · have := h3 (n - 1) (by omega)
          rw [Array.getElem?_eq_getElem (by omega : n - 1 < us.size)] at this
          have := (Array.getElem?_eq_some_iff.1 this).1
          simp at this
          omega
      omega
    · intro i h1' h2'
      have := h3 i (by omega)
      rw [Array.getElem?_eq_getElem h2'] at this
      simp at this
      simp
      rw [List.getElem?_eq_some_iff] at this
      obtain ⟨h, e'⟩ := this
      exact e'
theorem pl_idx {o : Oper} {t : TypeId} {x i : Operand} {m : Nat} {e : TypeId} {x' i' : Rf} {k : Option Nat} {z : AV} {p : Option Pend} (ho : o.op = .index t x i)
    (ht : P.underlying t = some (.array m e)) (hk : kindIs P e k = true)
    (hx : VR C w.heap (r x') (ρ x)) (hi : VR C w.heap (r i') (ρ i)) (he : ev ce σ nl ps r (.idx x' i' m k) = some (z, p)) : Plain P ρ o w C w.heap z ∧ p = none := by
  simp only [ev] at he
  cases hx' : r x' <;> simp only [hx'] at he <;> try (simp at he; done)
  cases hi' : r i' <;> simp only [hi'] at he <;> try (simp at he; done)
  rename_i l j
  split at he
  case isFalse => simp at he
  rename_i hj
  cases hp : part l (j.toNat * kst k) k with
  | none => simp [hp] at he
  | some q' =>
    simp [hp] at he; obtain ⟨rfl, rfl⟩ := he
    rw [hx'] at hx; rw [hi'] at hi
    have hi := hi.int_inv
    obtain ⟨cs, v', e1, h1, h2⟩ := agg_part hk hx hp
    refine ⟨plain_of (s := Instr.index t (ρ x) (ρ i)) (v := v') (by simp only [execOp, ho]) ?_ h2, rfl⟩
    rw [e1, hi]
    simp only [Instr.index, asIntOf, Sem.run_bind, Sem.run_pure, Result.andThen_ok, run_underlying ht, if_pos hj, info_size (kind_size hk)]
    exact h1

theorem idx_inv {H : Array Obj} {l : List AV} {nn : Bool} {v : Value} (h : VR C H (.imm nn l) v) {i : Nat} {x : AV} (hi : l[i]? = some x) :
    noLoc x = true ∧ ∃ blk off cap st c el fz val, v = .slice (some ⟨blk, off, none⟩) l.length cap ∧ C.I blk ∧ H[blk]? = some (.cells c el fz) ∧ VR C H x val ∧ val.cells.size = st ∧ ∀ j, j < st → c[off + i * st + j]? = val.cells[j]? := by
  unfold VR at h
  obtain ⟨hn, h⟩ := h
  have hnx : noLoc x = true := by
    have : ∀ {l : List AV}, noLocs l = true → ∀ y ∈ l, noLoc y = true := by
      intro l
      induction l with
      | nil => simp
      | cons a r ih =>
        intro h y hy
        simp only [noLocs, Bool.and_eq_true] at h
        rcases List.mem_cons.1 hy with rfl | hy
        · exact h.1
        · exact ih h.2 y hy
    exact this hn x (List.mem_of_getElem? hi)
  rcases h with ⟨rfl, _⟩ | ⟨blk, off, cap, st, c, el, fz, e, _, hI, hH, hl⟩
  · simp at hi
  · obtain ⟨val, h1, h2, h3⟩ := hl.get i x hi
    exact ⟨hnx, blk, off, cap, st, c, el, fz, val, e, hI, hH, h1, h2, h3⟩

theorem pl_iad {o : Oper} {t e : TypeId} {x i : Operand} {x' i' : Rf} {st : Nat} {z : AV} {p : Option Pend} (ho : o.op = .indexAddr t x i)
    (ht : sliceOf P t = some e) (hst : sizeIs P e st = true)
    (hx : VR C w.heap (r x') (ρ x)) (hi : VR C w.heap (r i') (ρ i)) (he : ev ce σ nl ps r (.iad x' i' st) = some (z, p)) : Plain P ρ o w C w.heap z ∧ p = none := by
  have hrun : ∀ blk off len cap (n : Int), ρ x = .slice (some ⟨blk, off, none⟩) len cap → ρ i = .int .i64 n → 0 ≤ n → n < len → (Instr.indexAt t (ρ x) (ρ i)).run P w = .ok (.pointer (some ⟨blk, off + n.toNat * st, none⟩)) w := fun blk off len cap n e1 e2 h1 h2 => by
    rw [e1, e2]
    simp only [Instr.indexAt, Sem.run_bind, asIntOf, Sem.run_pure, Result.andThen_ok, slice_und ht]
    simp only [h1, h2, and_self, if_true, Sem.run_bind, info_size hst, Result.andThen_ok, Sem.run_pure, add_addr]
  simp only [ev] at he
  cases hx' : r x' <;> simp only [hx'] at he <;> try (simp at he; done)
  · rename_i nn l
    cases hi' : r i' <;> simp only [hi'] at he <;> try (simp at he; done)
    rename_i n
    rw [hi'] at hi
    have hi := hi.int_inv
    split at he <;> try (simp at he; done)
    rename_i hn
    rw [elm_eq] at he
    cases hy : l[n.toNat]? with
    | none => simp [hy] at he
    | some y =>
      simp [hy] at he; obtain ⟨hsz, rfl, rfl⟩ := he
      rw [hx'] at hx
      obtain ⟨hnl, blk, off, cap, st', c, el, fz, val, e1, hI, hH, hv, hs, hj⟩ := idx_inv hx hy
      have hlt := (List.getElem?_eq_some_iff.1 hy).1
      have hst' : st' = st := by rw [← hs, VR.size (notUnd_of hnl) hv, hsz]
      subst hst'
      refine ⟨plain_of (s := Instr.indexAt t (ρ x) (ρ i)) (by simp only [execOp, ho]) (hrun blk off l.length cap n e1 hi hn (by omega)) ?_, rfl⟩
      unfold VR
      exact ⟨hnl, blk, off + n.toNat * st', c, el, fz, val, rfl, hI, hH, hv, fun j hj' => hj j (by omega)⟩
  · rename_i b u off len
    cases hi' : r i' <;> simp only [hi'] at he <;> try (simp at he; done)
    rename_i n
    rw [hi'] at hi
    have hi := hi.int_inv
    split at he <;> simp at he
    rename_i hn
    obtain ⟨rfl, rfl⟩ := he
    rw [hx'] at hx
    unfold VR at hx
    obtain ⟨⟨a, cap, e1, hc, ha⟩, h1, h3⟩ := hx
    obtain ⟨blk, rfl⟩ := ha (by omega)
    refine ⟨plain_of (s := Instr.indexAt t (ρ x) (ρ i)) (by simp only [execOp, ho]) (hrun blk off len cap n e1 hi hn.1 hn.2) ?_, rfl⟩
    unfold VR
    refine ⟨⟨blk, rfl⟩, h1, fun B id hB hl => ?_⟩
    have := h3 B id hB
    simp only [hl] at this
    obtain ⟨c, el, o', cap', _, e2, _⟩ := this
    rw [e1] at e2
    simp at e2
    rw [e2.1.1]

theorem pl_nck {o : Oper} {x : Operand} {y : Rf} {z : AV} {p : Option Pend} (ho : o.op = .nilCheck x) (hx : VR C w.heap (r y) (ρ x)) (he : ev ce σ nl ps r (.nck y) = some (z, p)) : Plain P ρ o w C w.heap z ∧ p = none := by
  have key : z = r y ∧ p = none ∧ ∃ a, ρ x = .pointer (some a) := by
    simp only [ev] at he
    cases hx' : r y <;> simp only [hx'] at he <;> try (simp at he; done)
    · simp at he
      rw [hx'] at hx
      obtain ⟨_, blk, b, c, el, fz, val, e, _⟩ := pimm_inv hx
      exact ⟨he.1.symm, he.2.symm, _, e⟩
    · simp at he
      rw [hx'] at hx
      unfold VR at hx
      obtain ⟨⟨blk, e⟩, _⟩ := hx
      exact ⟨he.1.symm, he.2.symm, _, e⟩
  obtain ⟨rfl, rfl, a, e⟩ := key
  exact ⟨⟨ρ x, by simp only [execOp, ho, e, Sem.run_pure], hx⟩, rfl⟩

theorem pl_ext {o : Oper} {x : Operand} {i : Nat} {y : Rf} {z : AV} {p : Option Pend} (ho : o.op = .extract x i) (hx : VR C w.heap (r y) (ρ x)) (he : ev ce σ nl ps r (.ext y i) = some (z, p)) : Plain P ρ o w C w.heap z ∧ p = none := by
  simp only [ev] at he
  cases hx' : r y <;> simp only [hx'] at he <;> try (simp at he; done)
  rename_i l
  rw [elm_eq] at he
  cases hy : l[i]? with
  | none => simp [hy] at he
  | some q =>
    simp [hy] at he; obtain ⟨rfl, rfl⟩ := he
    rw [hx'] at hx
    unfold VR at hx
    obtain ⟨vs, e, hl⟩ := hx
    obtain ⟨v, h1, h2⟩ := hl.get i q hy
    refine ⟨plain_of (s := Instr.extract (ρ x) i) (v := v) (by simp only [execOp, ho]) ?_ h2, rfl⟩
    rw [e]
    simp [Instr.extract, h1]

theorem pl_mkf {o : Oper} {f : Nat} {fst caps : Array Operand} {ys : List Rf} {z : AV} {p : Option Pend} (ho : o.op = .makeFunc (.func f) fst caps) (h0 : fst.isEmpty = true)
    (hx : VRL C w.heap (ys.map r) (caps.toList.map ρ)) (he : ev ce σ nl ps r (.mkf f ys) = some (z, p)) : Plain P ρ o w C w.heap z ∧ p = none := by
  simp [ev] at he; obtain ⟨rfl, rfl⟩ := he
  have : fst = #[] := by simpa using h0
  refine ⟨plain_of (s := Instr.makeFunc (.func f) (fst.map ρ) (caps.map ρ)) (v := .func (.func f) #[] (caps.toList.map ρ).toArray) (by simp only [execOp, ho]) ?_ (by unfold VR; exact ⟨_, rfl, hx⟩), rfl⟩
  subst this
  have : Array.map ρ caps = (List.map ρ caps.toList).toArray := by rw [← Array.toList_inj]; simp
  simp [Instr.makeFunc, this]

theorem pl_mki {o : Oper} {t : Nat} {x : Operand} {y : Rf} {z : AV} {p : Option Pend} (ho : o.op = .makeInterface t x)
    (ht : (match P.underlying t with | some (.interface _) => false | some _ => true | none => false) = true) (hx : VR C w.heap (r y) (ρ x)) (he : ev ce σ nl ps r (.mki t y) = some (z, p)) : Plain P ρ o w C w.heap z ∧ p = none := by
  simp [ev] at he; obtain ⟨rfl, rfl⟩ := he
  refine ⟨plain_of (s := Instr.makeInterface t (ρ x)) (v := .iface t (ρ x)) (by simp only [execOp, ho]) ?_ (by unfold VR; exact ⟨_, rfl, hx⟩), rfl⟩
  cases hu : P.underlying t with
  | none => simp [hu] at ht
  | some d =>
    simp only [Instr.makeInterface, Sem.run_bind, run_underlying hu, Result.andThen_ok]
    cases d <;> simp_all

theorem pl_cvi {o : Oper} {s d : TypeId} {x : Operand} {y : Rf} {z : AV} {p : Option Pend} (ho : o.op = .convert s d x)
    (ht : (match P.underlying s, P.underlying d with | some (.int .i64), some (.int .i64) => true | _, _ => false) = true) (hx : VR C w.heap (r y) (ρ x)) (he : ev ce σ nl ps r (.cvi y) = some (z, p)) : Plain P ρ o w C w.heap z ∧ p = none := by
  have hu : P.underlying s = some (.int .i64) ∧ P.underlying d = some (.int .i64) := by
    split at ht
    · rename_i h1 h2; exact ⟨h1, h2⟩
    · simp at ht
  simp only [ev] at he
  cases hx' : r y <;> simp only [hx'] at he <;> try (simp at he; done)
  rename_i n
  rw [hx'] at hx
  split at he <;> simp at he
  rename_i h
  obtain ⟨rfl, rfl⟩ := he
  refine ⟨plain_of (s := Go.convert s d (ρ x)) (v := .int .i64 n) (by simp only [execOp, ho]) ?_ (by unfold VR; rfl), rfl⟩
  rw [hx.int_inv]
  simp only [Go.convert, Sem.run_bind, run_underlying hu.1, run_underlying hu.2, Result.andThen_ok, Conv.intToInt, Sem.run_pure, wrap_in h]

theorem pl_iada {o : Oper} {t e : TypeId} {x i : Operand} {x' i' : Rf} {n : Nat} {k : Option Nat} {z : AV} {p : Option Pend} (ho : o.op = .indexAddr t x i)
    (ht : P.underlying t = some (.array n e)) (hk : kindIs P e k = true)
    (hx : VR C w.heap (r x') (ρ x)) (hi : VR C w.heap (r i') (ρ i)) (he : ev ce σ nl ps r (.iada x' i' n k) = some (z, p)) : Plain P ρ o w C w.heap z ∧ p = none := by
  have hrun : ∀ blk off (j : Int), ρ x = .pointer (some ⟨blk, off, none⟩) → ρ i = .int .i64 j → 0 ≤ j → j < n → (Instr.indexAt t (ρ x) (ρ i)).run P w = .ok (.pointer (some ⟨blk, off + j.toNat * kst k, none⟩)) w := fun blk off j e1 e2 h1 h2 => by
    rw [e1, e2]
    simp only [Instr.indexAt, Sem.run_bind, asIntOf, Sem.run_pure, Result.andThen_ok, run_underlying ht, Instr.sureAddr]
    simp only [h1, h2, and_self, if_true, Sem.run_bind, info_size (kind_size hk), Result.andThen_ok, Sem.run_pure, add_addr]
  simp only [ev] at he
  cases hx' : r x' <;> simp only [hx'] at he <;> try (simp at he; done)
  · rename_i q
    cases hi' : r i' <;> simp only [hi'] at he <;> try (simp at he; done)
    rename_i j
    rw [hi'] at hi
    have hi := hi.int_inv
    split at he <;> try (simp at he; done)
    rename_i hj
    cases hp : part q.cells (j.toNat * kst k) k with
    | none => simp [hp] at he
    | some q' =>
      simp [hp] at he; obtain ⟨rfl, rfl⟩ := he
      rw [hx'] at hx
      obtain ⟨hnl, blk, b, c, el, fz, val, e1, hI, hH, hv, hc⟩ := pimm_inv hx
      exact ⟨plain_of (s := Instr.indexAt t (ρ x) (ρ i)) (by simp only [execOp, ho]) (hrun blk b j e1 hi hj.1 hj.2) (pimm_part hnl hI hH hv hc hp), rfl⟩
  · rename_i b u o'
    cases hi' : r i' <;> simp only [hi'] at he <;> try (simp at he; done)
    rename_i j
    rw [hi'] at hi
    have hi := hi.int_inv
    split at he <;> simp at he
    rename_i hj
    obtain ⟨rfl, rfl⟩ := he
    rw [hx'] at hx
    unfold VR at hx
    obtain ⟨⟨blk, e1⟩, h1, h3⟩ := hx
    refine ⟨plain_of (s := Instr.indexAt t (ρ x) (ρ i)) (by simp only [execOp, ho]) (hrun blk o' j e1 hi hj.1 hj.2) ?_, rfl⟩
    unfold VR
    refine ⟨⟨blk, rfl⟩, h1, fun B id hB hl => ?_⟩
    have := h3 B id hB hl
    rw [e1] at this
    simp at this
    rw [this]

theorem pl_ldi {o : Oper} {t : TypeId} {x : Operand} {y : Rf} {k : Option Nat} {z : AV} {p : Option Pend} (ho : o.op = .load t x) (hk : kindIs P t k = true)
    (hx : VR C w.heap (r y) (ρ x)) (he : ev ce σ nl ps r (.ldi y k) = some (z, p)) : Plain P ρ o w C w.heap z ∧ p = none := by
  simp only [ev] at he
  cases hx' : r y <;> simp only [hx'] at he <;> try (simp at he; done)
  rename_i q
  rw [hx'] at hx
  obtain ⟨hn, blk, b, c, el, fz, val, e, hI, hH, hv, hj⟩ := pimm_inv hx
  have hu := notUnd_of hn
  have hs := VR.size hu hv
  have key : z = q ∧ p = none ∧ q.cells.length = kst k ∧ (k = none → val.cells = #[val]) ∧ (k ≠ none → ∃ vs, val = .agg vs) := by
    cases k with
    | none =>
      have hq : ∀ l, q ≠ .agg l := by intro l e; subst e; simp at he
      refine ⟨?_, ?_, ?_, fun _ => one_cells (VR.leaf hq hu hv), fun h => absurd rfl h⟩
      · cases q <;> first | exact absurd rfl (hq _) | (simp at he; exact he.1.symm)
      · cases q <;> first | exact absurd rfl (hq _) | (simp at he; exact he.2.symm)
      · cases q <;> first | exact absurd rfl (hq _) | rfl
    | some n =>
      cases q <;> simp at he
      obtain ⟨h1, rfl, rfl⟩ := he
      refine ⟨rfl, rfl, h1, fun h => by simp at h, fun _ => ?_⟩
      unfold VR at hv
      obtain ⟨vs, e, _⟩ := hv
      exact ⟨_, e⟩
  obtain ⟨rfl, rfl, hl, hn1, hn2⟩ := key
  refine ⟨plain_of (s := Instr.loadAt t (ρ x)) (v := val) (by simp only [execOp, ho]) ?_ hv, rfl⟩
  rw [e]
  simp only [Instr.loadAt, Instr.sureAddr, Sem.run_bind, Sem.run_pure, Result.andThen_ok]
  exact run_load_val hk hH (by omega) (fun j hj' => hj j (by omega)) hn1 hn2

theorem pl_ld {o : Oper} {t : TypeId} {x : Operand} {y : Rf} {k : Option Nat} {z : AV} {p : Option Pend} (ho : o.op = .load t x) (hk : kindIs P t k = true) (hg : Good C w) (hup : ∀ b u B, upto σ b u = some B → ∃ id, C.own b u = some (B, id))
    (hx : VR C w.heap (r y) (ρ x)) (he : ev ce σ nl ps r (.ld y k) = some (z, p)) : Plain P ρ o w C w.heap z ∧ p = none := by
  by_cases hp : ∃ q, r y = .pimm q
  · obtain ⟨q, hq⟩ := hp
    refine pl_ldi ho hk hx (ce := ce) (σ := σ) (nl := nl) (ps := ps) ?_
    rw [← he]
    simp only [ev, hq]
  · simp only [ev] at he
    cases hx' : r y <;> simp only [hx'] at he <;> try (simp at he; done)
    · exact absurd ⟨_, hx'⟩ hp
    · rename_i b u o'
      cases hu : upto σ b u with
      | none => simp [hu] at he
      | some B =>
        simp only [hu] at he
        split at he <;> try (simp at he; done)
        rename_i hlive
        cases hpt : part B.cells o' k with
        | none => simp [hpt] at he
        | some q =>
          simp [hpt] at he; obtain ⟨rfl, rfl⟩ := he
          obtain ⟨id, ho'⟩ := hup b u B hu
          rw [hx'] at hx
          unfold VR at hx
          obtain ⟨⟨blk, e⟩, _, h3⟩ := hx
          have hs : B.st = .live := by revert hlive; cases B.st <;> simp [BSt.isLive]
          have e2 := h3 B id ho' hs
          obtain ⟨_, c, el, hH, hle, hc⟩ := hg.live b u B id ho' hs
          obtain ⟨v, g1, g2, g3, g4, g5⟩ := part_VR hc hpt
          refine ⟨plain_of (s := Instr.loadAt t (ρ x)) (v := v) (by simp only [execOp, ho]) ?_ g1, rfl⟩
          rw [e2]
          simp only [Instr.loadAt, Instr.sureAddr, Sem.run_bind, Sem.run_pure, Result.andThen_ok]
          exact run_load_val hk hH g2 g3 g4 g5

theorem putAt_get (cs new : List AV) (off : Nat) (h : off + new.length ≤ cs.length) : (putAt cs off new).length = cs.length ∧
    ∀ j, (putAt cs off new)[j]? = if off ≤ j ∧ j < off + new.length then new[j - off]? else cs[j]? := by
  unfold putAt
  refine ⟨by simp; omega, fun j => ?_⟩
  by_cases h1 : j < off
  · rw [if_neg (by omega), List.append_assoc, List.getElem?_append_left (by simp; omega), List.getElem?_take_of_lt h1]
  · by_cases h2 : j < off + new.length
    · rw [if_pos ⟨by omega, h2⟩, List.getElem?_append_left (by simp; omega), List.getElem?_append_right (by simp; omega)]
      simp [Nat.min_eq_left (by omega : off ≤ cs.length)]
    · rw [if_neg (by omega), List.getElem?_append_right (by simp; omega)]
      simp [Nat.min_eq_left (by omega : off ≤ cs.length)]
      congr 1; omega

theorem VRL.of {H : Array Obj} : ∀ {l : List AV} {vs : List Value}, l.length = vs.length → (∀ (i : Nat) x v, l[i]? = some x → vs[i]? = some v → VR C H x v) → VRL C H l vs
  | [], [], _, _ => rfl
  | [], _ :: _, h, _ => by simp at h
  | _ :: _, [], h, _ => by simp at h
  | x :: l, v :: vs, h, hv => ⟨v, vs, rfl, hv 0 x v rfl rfl, VRL.of (by simpa using h) fun i y u h1 h2 => hv (i + 1) y u (by simpa using h1) (by simpa using h2)⟩

theorem fold_set (v : Value) (off : Nat) : ∀ (l : List Value) (k : Nat) (cs : Array Value), (l.zipIdx k).foldl (fun cs (c, j) => cs.setIfInBounds (off + j) c) cs =
    (l.zipIdx k).foldl (fun cs (c, j) => cs.setIfInBounds (off + j) c) cs := fun _ _ _ => rfl

/-- What filling in a part does, cell by cell. -/
theorem fill_one (off : Nat) : ∀ (l : List Value) (k : Nat) (cs : Array Value) (i : Nat), off + k + l.length ≤ cs.size →
    ((l.zipIdx k).foldl (fun cs (c, j) => cs.setIfInBounds (off + j) c) cs).size = cs.size ∧
    ((l.zipIdx k).foldl (fun cs (c, j) => cs.setIfInBounds (off + j) c) cs)[i]? = if off + k ≤ i ∧ i < off + k + l.length then l[i - (off + k)]? else cs[i]?
  | [], k, cs, i, _ => by simp; omega
  | c :: l, k, cs, i, h => by
    simp only [List.zipIdx_cons, List.foldl_cons]
    simp only [List.length_cons] at h
    obtain ⟨h1, h2⟩ := fill_one off l (k + 1) (cs.setIfInBounds (off + k) c) i (by simp; omega)
    refine ⟨by rw [h1]; simp, ?_⟩
    rw [h2]
    simp only [List.length_cons]
    by_cases e : i = off + k
    · subst e
      rw [if_neg (by omega), if_pos (by omega)]
      simp [Array.getElem?_setIfInBounds]; omega
    · by_cases hin : off + (k + 1) ≤ i ∧ i < off + (k + 1) + l.length
      · rw [if_pos hin, if_pos (by omega)]
        have : i - (off + k) = (i - (off + (k + 1))) + 1 := by omega
        rw [this]; simp
      · rw [if_neg hin, if_neg (by omega)]
        rw [Array.getElem?_setIfInBounds]
        rw [if_neg (by omega)]
end
end Ab
